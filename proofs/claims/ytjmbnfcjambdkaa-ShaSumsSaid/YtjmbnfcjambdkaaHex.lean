/- sha.Hex: a digest's text. -/
import Derived.Test.YtjmbnfcjambdkaaHexPlain
import Derived.Test.YtjmbnfcjambdkaaAfter
import Derived.Test.YtjmbnfcjambdkaaShelf
import Derived.BigCall
namespace Go.Proofs.Ytjmbnfcjambdkaa
open Go.RowKit

@[go_sem ↓] theorem wp_load_dgst (dst : Option Tmp) (x : Operand) (ty : TypeId) (pos : String) (after : Array Edge) (guard : Option (Nat × Bool)) (a : Act) (w : World) (K : Act → World → Prop) (Q : Exit → Act → World → Prop) :
    Oper.wp Try.prog ⟨dst, .load 24 x, ty, pos, after, guard⟩ a w K Q = loadRow w 32 (fun cs => K (a.put dst (.agg cs)) w) (wpSame Try.prog ⟨dst, .load 24 x, ty, pos, after, guard⟩ a w K Q) (a.eval x) :=
  wp_load_row_eq 24 _ 32 (by omega) Try.underlying24 rfl (by kernel_rfl) dst x ty pos after guard a w K Q
@[go_sem ↓] theorem quietAt_load_dgst (dst : Option Tmp) (x : Operand) (ty : TypeId) (pos : String) (after : Array Edge) (guard : Option (Nat × Bool)) (a : Act) (C : World → Prop) (w : World) (v : Value) :
    Oper.quietAt Try.prog ⟨dst, .load 24 x, ty, pos, after, guard⟩ a C w v = loadRow w 32 (fun cs => Value.agg cs = v) (quietSame Try.prog ⟨dst, .load 24 x, ty, pos, after, guard⟩ a C w v) (a.eval x) :=
  quietAt_load_row_eq 24 _ 32 (by omega) Try.underlying24 rfl (by kernel_rfl) dst x ty pos after guard a C w v
theorem run_index_dgst (d : Dig) (k : Nat) (hk : k < d.bytes.length) (w : World) :
    (Instr.index 24 (.agg (dgst d)) (.int .i64 (k : Int))).run Try.prog w = .ok (.int .u8 (d.bytes[k].toNat : Int)) w :=
  run_index_row 24 5 32 (dgst d) .i64 k _ Try.underlying24 Try.isAgg5 Try.sizeOf5 (by have := d.len; omega) (dgst_get d k hk) w

theorem run_hexDigit (n : Nat) (h : n < 16) (w : World) :
    (Instr.index 9 (.string { data := #[48, 49, 50, 51, 52, 53, 54, 55, 56, 57, 97, 98, 99, 100, 101, 102] }) (.int .u8 (n : Int))).run Try.prog w = .ok (.int .u8 ((hexDigit n).toNat : Int)) w := by
  rw [run_index_string w 9 _ _ _ Try.underlying9, dif_pos ⟨by omega, by show (n : Int) < (16 : Nat); omega⟩]
  have : ∀ m : Fin 16, (({ data := #[48, 49, 50, 51, 52, 53, 54, 55, 56, 57, 97, 98, 99, 100, 101, 102] } : ByteArray)[m.val]'(m.isLt)) = hexDigit m.val := by decide
  have h1 := this ⟨n, h⟩
  simp only [Int.toNat_natCast]
  rw [h1]
theorem run_hexDigit_int (i : Int) (h0 : 0 ≤ i) (h1 : i < 16) (w : World) :
    (Instr.index 9 (.string { data := #[48, 49, 50, 51, 52, 53, 54, 55, 56, 57, 97, 98, 99, 100, 101, 102] }) (.int .u8 i)).run Try.prog w = .ok (.int .u8 ((hexDigit i.toNat).toNat : Int)) w := by
  obtain ⟨n, rfl⟩ := Int.eq_ofNat_of_zero_le h0
  exact run_hexDigit n (by omega) w

set_option maxHeartbeats 400000 in
theorem hex_any (d : Dig) (w : World) :
    Calls Try.prog 28 #[.agg (dgst d)] w fun e w' => e = .returned (.string ⟨(hexText d.bytes).toArray⟩) ∧ Below w.heap.size w w' := by
  go_enter Try.func28, Try.ntmps28
  go_wp2
  go_loopw [7, 5] (fun i _ wr => ∃ k : Nat, k ≤ 32 ∧ i = .int .i64 k ∧ Lib.IsBuilderF 96 5 (w.heap.size + 1) (w.heap.size + 1) (Lib.byteCells (hexText (d.bytes.take k))) wr ∧ Below w.heap.size w wr ∧ w.heap.size + 1 < wr.heap.size) (fun i _ _ => 32 - (intOf i).toNat)
  case atStart =>
    refine ⟨0, by omega, rfl, ?_, ((Below.refl _ w).alloc (Nat.le_refl _) _).alloc (by simp) _, by simp⟩
    show Lib.IsBuilderF 96 5 (w.heap.size + 1) (w.heap.size + 1) [] _
    have := Lib.IsBuilderF.of (Lib.fresh_isBuilder 96 5 (w.alloc (.cells (dgst d) 24)))
    simpa using this
  case round =>
    obtain ⟨k, hk, rfl, hI, hb, hsz⟩ := hrel
    by_cases hlt : k < 32
    · have hkd : k < d.bytes.length := by rw [d.len]; exact hlt
      have hix := run_index_dgst d k hkd
      have hc := byte_le d.bytes[k]
      have hi1 := run_hexDigit_int ((d.bytes[k].toNat : Int) / 16) (by omega) (by omega)
      go_wp2_with (go_at_call 67; fail)
      refine (Try.Builder_WriteByte_k (w.heap.size + 1) (w.heap.size + 1) _ _ _ hI (by rw [Lib.byteCells_length, hexText_length, List.length_take]; omega) (by omega)).mono ?_
      rintro e w1 ⟨rfl, h1, b1, k1⟩
      clear hi1
      have hz1 := b1.size
      have hi2 := run_hexDigit_int ((d.bytes[k].toNat : Int) % 16) (by omega) (by omega)
      go_wp2_with (go_at_call 67; fail)
      refine (Try.Builder_WriteByte_k (w.heap.size + 1) (w.heap.size + 1) _ _ _ (Or.inr h1) (by rw [List.length_append, Lib.byteCells_length, hexText_length, List.length_take]; simp; omega) (by omega)).mono ?_
      rintro e w2 ⟨rfl, h2, b2, k2⟩
      clear hi2
      have hz2 := b2.size
      go_wp2
      go_roundw
      case rel =>
        refine ⟨k + 1, by omega, by go_num, Or.inr ?_, (hb.trans (b1.mono (by omega))).trans (b2.mono (by omega)), by omega⟩
        rw [hexText_snoc d.bytes k hkd, Lib.byteCells_append, Lib.byteCells_append]
        simpa [Lib.byteCells] using h2
      case measure => simp [intOf]; omega
    · go_wp2_with (go_at_call 56; refine (Try.Builder_String_any_k (w.heap.size + 1) (w.heap.size + 1) _ _ hI (by omega)).mono ?_; rintro e w1 ⟨rfl, h1, b1, k1⟩)
      go_ret
      have ht : d.bytes.take k = d.bytes := List.take_of_length_le (by rw [d.len]; omega)
      exact ⟨ret_str (by rw [ht]), hb.trans (b1.mono (by omega))⟩
end Go.Proofs.Ytjmbnfcjambdkaa
