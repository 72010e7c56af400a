/- slices.Equal at refs that are the same. -/
import Derived.Test.YtjmbnfcjambdkaaRefsMove
import Derived.Laws.StructEq
namespace Go.Proofs.Ytjmbnfcjambdkaa
open Go.RowKit
theorem run_equalIn_dgst_at (d : Nat) (a b : Dig) (w : World) :
    (Op.equalIn (d + 2) 24 (.agg (dgst a)) (.agg (dgst b))).run Try.prog w = .ok (a.bytes == b.bytes) w := by
  have hi : ∃ i, Try.prog.info? 5 = some i := Option.isSome_iff_exists.1 (by kernel_rfl)
  obtain ⟨i, hi⟩ := hi
  have h1 := run_equalIn_array (P := Try.prog) w (d + 1) (t := 24) (dgst a) (dgst b) Try.underlying24 hi
  have hc : Try.prog.cellsOf 5 = 1 := by kernel_rfl
  rw [h1, hc]
  have h2 := run_eqItems_bytes (P := Try.prog) d 5 Try.underlying5 Try.isAgg5 a.bytes b.bytes (by rw [a.len, b.len]) w 32 0 (by rw [a.len])
  rw [← List.range_eq_range'] at h2
  rw [show dgst a = (Lib.byteCells a.bytes).toArray from rfl, show dgst b = (Lib.byteCells b.bytes).toArray from rfl, h2]
  rfl
theorem run_part_name (r : RefT) (w : World) : (part 9 (refA r) 0).run Try.prog w = .ok (.string ⟨r.1.toArray⟩) w := by
  simp [part, Try.isAgg9]
theorem run_part_at (r : RefT) (w : World) : (part 24 (refA r) 1).run Try.prog w = .ok (.agg (dgst r.2)) w := by
  have he : (refA r).extract 1 (1 + 32) = dgst r.2 := by
    apply Array.toList_inj.1
    have hb : (Lib.byteCells r.2.bytes).length = 32 := by simp [Lib.byteCells, r.2.len]
    simp [refA, refL, dgst, List.extract_eq_take_drop]
    rw [List.take_of_length_le (by omega)]
  simp [part, Try.isAgg24, Try.sizeOf24, he]
theorem run_equalIn_refSelf (r : RefT) (w : World) : (Op.equalIn 10000 75 (.agg (refA r)) (.agg (refA r))).run Try.prog w = .ok true w := by
  have h1 := run_equalIn_struct (P := Try.prog) w 9999 75 (refA r) (refA r) (by kernel_rfl) (by kernel_rfl)
  have hm : (Try.prog.fieldsOf 75).toList.map (fun f => (f.name != "_", f.type, f.offset)) = [(true, 9, 0), (true, 24, 1)] := by kernel_rfl
  rw [h1]
  match hl : (Try.prog.fieldsOf 75).toList with
  | [f0, f1] =>
    rw [hl] at hm
    simp only [List.map_cons, List.map_nil, List.cons.injEq, Prod.mk.injEq, and_true, bne_iff_ne] at hm
    obtain ⟨⟨n0, t0, o0⟩, n1, t1, o1⟩ := hm
    have hs := run_equalIn_string (P := Try.prog) w 9998 9 ⟨r.1.toArray⟩ ⟨r.1.toArray⟩ Try.underlying9
    have hd := run_equalIn_dgst_at 9997 r.2 r.2 w
    simp only [Op.eqFields, ne_eq, n0, n1, not_false_eq_true, if_true, t0, t1, o0, o1, Sem.run_bind, run_part_name, run_part_at, Result.andThen_ok, hs, hd]
    simp [run_part_at, hd]
  | [] => rw [hl] at hm; cases hm
  | [_] => rw [hl] at hm; simp at hm
  | _ :: _ :: _ :: _ => rw [hl] at hm; simp at hm
@[go_sem ↓] theorem quietAt_load_ref (dst : Option Tmp) (x : Operand) (ty : TypeId) (pos : String) (after : Array Edge) (guard : Option (Nat × Bool)) (a : Act) (C : World → Prop) (w : World) (v : Value) :
    Oper.quietAt Try.prog ⟨dst, .load 75 x, ty, pos, after, guard⟩ a C w v = loadRow w 33 (fun cs => Value.agg cs = v) (quietSame Try.prog ⟨dst, .load 75 x, ty, pos, after, guard⟩ a C w v) (a.eval x) :=
  quietAt_load_row_eq 75 _ 33 (by omega) Try.underlying75 rfl (by kernel_rfl) dst x ty pos after guard a C w v
set_option maxRecDepth 20000 in
set_option maxHeartbeats 1000000 in
theorem equal_same (v1 v2 : Value) (L : List RefT) (w : World) (h1 : Reads w 33 v1 L.length (refCells L)) (h2 : Reads w 33 v2 L.length (refCells L)) (hl : L.length ≤ 100000) :
    Calls Try.prog 42 #[v1, v2] w fun e w' => e = .returned (.bool true) ∧ ∃ q, w' = w.drewN q := by
  have H1 := hide h1
  have H2 := hide h2
  obtain ⟨a1, c1, rfl⟩ := h1.shape
  obtain ⟨a2, c2, rfl⟩ := h2.shape
  clear h1 h2
  go_enter Try.func42, Try.ntmps42
  go_wp2_with fail
  go_loopw [13] (fun i wr => ∃ k : Nat, k ≤ L.length ∧ i = .int .i64 k ∧ ∃ q, wr = w.drewN q) (fun i _ => L.length - (intOf i).toNat)
  case atStart => exact ⟨0, by omega, rfl, 0, rfl⟩
  case round =>
    obtain ⟨k, hk, rfl, q, rfl⟩ := hrel
    by_cases hlt : k < L.length
    · obtain ⟨b1, o1, d1, e1⟩ := H1.out.isRow (by omega)
      cases e1
      obtain ⟨b2, o2, d2, e2⟩ := H2.out.isRow (by omega)
      cases e2
      have s1 := reads_refSpan H1.out k hlt
      have s2 := reads_refSpan H2.out k hlt
      obtain ⟨r, hr⟩ : ∃ r, Hid (L[k] = r) := ⟨_, hide rfl⟩
      rw [hr.out] at s1 s2
      have hq : ∀ w, (Op.equalIn 10000 75 (.agg (refA r)) (.agg (refA r))).run Try.prog w = .ok true w := run_equalIn_refSelf r
      have hlti : (k : Int) < (L.length : Int) := by omega
      have hl0 : (L.length : Int) ≤ 100000 := by omega
      go_wp2_with fail
      go_quiet (fail)
      go_wp2_with fail
      go_roundw
      case rel => exact ⟨k + 1, by omega, by go_num, _, rfl⟩
      case measure => simp [intOf]; omega
    · have hlti : ¬ (k : Int) < (L.length : Int) := by omega
      go_wp2_with fail
      go_ret
      exact ⟨rfl, q, rfl⟩
set_option maxRecDepth 20000 in
set_option maxHeartbeats 1000000 in
theorem same_self (h : ByteArray) (v1 v2 : Value) (x : Int) (L : List RefT) (w : World) (h1 : Reads w 33 v1 L.length (refCells L)) (h2 : Reads w 33 v2 L.length (refCells L)) (hl : L.length ≤ 100000) :
    Calls Try.prog 15 #[.agg #[.string h, v1, .slice none 0 0, .int .u64 x], .agg #[.string h, v2, .slice none 0 0, .int .u64 x]] w fun e w' => e = .returned (.bool true) ∧ Below w.heap.size w w' := by
  have H1 := hide (fun w' (hb : Below w.heap.size w w') => equal_same v1 v2 L w' (h1.below hb) (h2.below hb) hl)
  have H2 := hide (fun w' => equal_same (.slice none 0 0) (.slice none 0 0) [] w' (show Reads w' 33 (.slice none 0 0) ([] : List RefT).length (refCells []) from Reads.nil w' 33) (show Reads w' 33 (.slice none 0 0) ([] : List RefT).length (refCells []) from Reads.nil w' 33) (by simp))
  have hhh : (h.toList == h.toList) = true := beq_self_eq_true _
  obtain ⟨a1, c1, rfl⟩ := h1.shape
  obtain ⟨a2, c2, rfl⟩ := h2.shape
  have hb0 := hide (((Below.refl w.heap.size w).alloc (Nat.le_refl _) (.cells #[.string h, .slice a1 L.length c1, .slice none 0 0, .int .u64 x] 29)).alloc (by simp) (.cells #[.string h, .slice a2 L.length c2, .slice none 0 0, .int .u64 x] 29))
  clear h1 h2
  go_enter Try.func15, Try.ntmps15
  go_wp2_with (first
    | (go_at_call_of 42 a1; refine (H1.out _ hb0.out).mono ?_; rintro e w1 ⟨rfl, q1, rfl⟩)
    | (go_at_call 42; refine (H2.out _).mono ?_; rintro e w2 ⟨rfl, q2, rfl⟩))
  go_ret
  have hb := hb0.out
  exact ⟨rfl, ⟨hb.os, hb.tape, hb.output, hb.size, hb.block⟩⟩
end Go.Proofs.Ytjmbnfcjambdkaa
