/- The document's Hex. -/
import Derived.Test.YtjmbnfcjambdkaaHex
namespace Go.Proofs.Ytjmbnfcjambdkaa
open Go.RowKit
theorem digit_slice (n : Nat) (h : n < 16) : ({ data := #[48, 49, 50, 51, 52, 53, 54, 55, 56, 57, 97, 98, 99, 100, 101, 102] } : ByteArray).extract n (n + 1) = ⟨#[hexDigit n]⟩ := by
  have : ∀ m : Fin 16, (({ data := #[48, 49, 50, 51, 52, 53, 54, 55, 56, 57, 97, 98, 99, 100, 101, 102] } : ByteArray).extract m.val (m.val + 1)).data.toList = [hexDigit m.val] := by decide
  apply ByteArray.ext
  apply Array.toList_inj.1
  exact this ⟨n, h⟩
set_option maxRecDepth 4000 in
set_option maxHeartbeats 1600000 in
theorem hexRef_any (d : Dig) (w : World) :
    Calls Try.prog 29 #[.agg (dgst d)] w fun e w' => e = .returned (.string ⟨(hexText d.bytes).toArray⟩) ∧ Below w.heap.size w w' := by
  go_enter Try.func29, Try.ntmps29
  go_wp2
  go_loopw [4, 3] (fun i s wr => ∃ k : Nat, k ≤ 32 ∧ i = .int .i64 k ∧ s = .string ⟨(hexText (d.bytes.take k)).toArray⟩ ∧ wr.rowCells w.heap.size = dgst d ∧ Below w.heap.size w wr) (fun i _ _ => 32 - (intOf i).toNat)
  case atStart =>
    exact ⟨0, by omega, rfl, rfl, rowCells_new _ _ _ _, (Below.refl _ w).alloc (Nat.le_refl _) _⟩
  case round =>
    obtain ⟨k, hk, rfl, rfl, hr, hb⟩ := hrel
    by_cases hlt : k < 32
    · have hkd : k < d.bytes.length := by rw [d.len]; exact hlt
      have hc := byte_le d.bytes[k]
      have hcell := cell_of_rowCells hr (dgst_get d k hkd)
      have e0 := digit_slice (d.bytes[k].toNat / 16) (by omega)
      have e1 := digit_slice (d.bytes[k].toNat % 16) (by omega)
      have s0 : (⟨#[hexDigit (d.bytes[k].toNat / 16)]⟩ : ByteArray).size = 1 := rfl
      have s1 : (⟨#[hexDigit (d.bytes[k].toNat % 16)]⟩ : ByteArray).size = 1 := rfl
      have hl : (hexText (d.bytes.take k)).length = 2 * k := by rw [hexText_length, List.length_take]; omega
      have l0 : ¬ 9223372036854775807 < 2 * k + 1 := by omega
      have l1 : ¬ 9223372036854775807 < 2 * k + 1 + 1 := by omega
      have HS := hide (hexText_snoc d.bytes k hkd)
      go_wp2_with fail
      go_quiet (fail)
      go_wp2
      go_roundw
      case rel =>
        refine ⟨k + 1, by omega, by go_num, ?_, hr, below_drewN hb _⟩
        rw [HS.out]
        rfl
      case measure => simp [intOf]; omega
    · go_wp2
      go_ret
      have ht : d.bytes.take k = d.bytes := List.take_of_length_le (by rw [d.len]; omega)
      exact ⟨ret_str (by rw [ht]), hb⟩
end Go.Proofs.Ytjmbnfcjambdkaa
