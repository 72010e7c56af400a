/- ShaHexes: what it returns. -/
import Derived.Test.YtjmbnfcjambdkaaShaAwake
import Derived.Test.YtjmbnfcjambdkaaShaLess
import Derived.Test.YtjmbnfcjambdkaaHexBack
import Derived.Test.YtjmbnfcjambdkaaHexRefOne
import Derived.Test.YtjmbnfcjambdkaaParseSha
namespace Go.Proofs.Ytjmbnfcjambdkaa.shaHexes
open Go.RowKit
@[go_sem ↓] theorem quietAt_build_dgst (dst : Option Tmp) (ty : TypeId) (pos : String) (after : Array Edge) (guard : Option (Nat × Bool)) (a : Act) (C : World → Prop) (w : World) (v : Value) :
    Oper.quietAt Try.prog ⟨dst, .build 24 #[], ty, pos, after, guard⟩ a C w v = (Value.agg (dgst dig0) = v) := by
  have h := run_build_dgst w
  unfold Oper.quietAt execOp
  generalize dgst dig0 = V at h ⊢
  simp only [Array.map_empty, Sem.run_bind, h, Result.andThen_ok, Sem.run_pure, Oper.quietUpon, true_and]
theorem hex_named (d : Dig) (X : ByteArray) (hX : X = ⟨(hexText d.bytes).toArray⟩) (w : World) : Calls Try.prog 28 #[.agg (dgst d)] w fun e w' => e = .returned (.string X) ∧ Below w.heap.size w w' := hX ▸ hex_any d w
theorem hexRef_named (d : Dig) (X : ByteArray) (hX : X = ⟨(hexText d.bytes).toArray⟩) (w : World) : Calls Try.prog 29 #[.agg (dgst d)] w fun e w' => e = .returned (.string X) ∧ Below w.heap.size w w' := hX ▸ hexRef_any d w
theorem parse_some (s : ByteArray) (d : Dig) (h : unhex s.data.toList = some d) (hs : s.size ≤ maxLen) (w : World) :
    Calls Try.prog 27 #[.string s] w fun e w' => e = .returned (.tuple #[.agg (dgst d), .bool true]) ∧ Below w.heap.size w w' := by
  have := parse_any s w hs
  rw [h] at this
  exact this
theorem parse_none (s : ByteArray) (h : unhex s.data.toList = none) (hs : s.size ≤ maxLen) (w : World) :
    Calls Try.prog 27 #[.string s] w fun e w' => e = .returned (.tuple #[.agg (dgst dig0), .bool false]) ∧ Below w.heap.size w w' := by
  have := parse_any s w hs
  rw [h] at this
  exact this
theorem toList_mk (l : List UInt8) : (⟨l.toArray⟩ : ByteArray).toList = l := by rw [ByteArray.toList_eq]
set_option maxHeartbeats 4000000 in
set_option maxRecDepth 100000 in
theorem walk (a b : Dig) (s : ByteArray) (w : World) (hs : s.size ≤ maxLen) :
    Calls Try.prog 9 #[.agg (dgst a), .agg (dgst b), .string s] w fun e w' => e = .returned (.bool true) ∧ Below w.heap.size w w' := by
  have HM := hide hs
  unfold maxLen at hs
  by_cases h200 : 200 < s.size
  · go_enter Try.func9, Try.ntmps9
    go_wp2_with (go_at_call 22; refine (awake01_any _).mono ?_; rintro e w' ⟨rfl, hb⟩)
    go_ret
    exact ⟨rfl, (((Below.refl _ _).alloc (Nat.le_refl _) _).alloc (by simp) _).trans (hb.mono (by simp; omega))⟩
  obtain ⟨X, HX⟩ : ∃ X : ByteArray, Hid (X = ⟨(hexText a.bytes).toArray⟩) := ⟨_, rfl⟩
  obtain ⟨Y, HY⟩ : ∃ Y : ByteArray, Hid (Y = ⟨(hexText b.bytes).toArray⟩) := ⟨_, rfl⟩
  have hXs : X.size ≤ maxLen := by rw [HX.out, ba_len', hexText_len]; decide
  have HPX := hide (parse_some X a (by rw [HX.out]; exact unhex_hex a) hXs)
  obtain ⟨L, HL⟩ : ∃ L, Hid (L = Op.bytesLess a.bytes b.bytes) := ⟨_, rfl⟩
  have hless : Op.bytesLess X.toList Y.toList = L := by
    rw [HX.out, HY.out, toList_mk, toList_mk, hexText_less a.bytes b.bytes (by rw [a.len, b.len])]; exact HL.out.symm
  have HLS := hide (fun w => (HL.out ▸ less_any a b w : Calls Try.prog 30 #[.agg (dgst a), .agg (dgst b)] w fun e w' => e = .returned (.bool L) ∧ Below w.heap.size w w'))
  have hqa : ∀ w, (Op.equalIn 10000 24 (.agg (dgst a)) (.agg (dgst a))).run Try.prog w = .ok true w := fun w => by
    rw [run_equalIn_dgst a a w, beq_self_eq_true]
  have hq0 : ∀ w, (Op.equalIn 10000 24 (.agg (dgst dig0)) (.agg (dgst dig0))).run Try.prog w = .ok true w := fun w => by
    rw [run_equalIn_dgst dig0 dig0 w, beq_self_eq_true]
  have hxx : (X.toList == X.toList) = true := beq_self_eq_true _
  have hss : (s.toList == s.toList) = true := beq_self_eq_true _
  clear hXs
  go_enter Try.func9, Try.ntmps9
  go_wp2_with fail
  refine (awake01_any _).mono ?_
  rintro e w1 ⟨rfl, hb1⟩
  have ra1 : w1.rowCells w.heap.size = dgst a := rowAt_below hb1 (by simp; omega) (rowCells_of (heap_alloc2_old w _ _))
  have rb1 : w1.rowCells (w.heap.size + 1) = dgst b := rowAt_below hb1 (by simp) (rowCells_of (heap_alloc2_new w _ _))
  have hz1 : w.heap.size + 2 ≤ w1.heap.size := by have := hb1.size; simp at this; omega
  have hB1 : Below w.heap.size w w1 := ((Below.refl _ w).alloc (Nat.le_refl _) _ |>.alloc (by simp) _).trans (hb1.mono (by simp; omega))
  clear hb1
  go_wp2_with fail
  refine (hex_named a X HX.out _).mono ?_
  rintro e w2 ⟨rfl, hb2⟩
  have ra2 := rowAt_below (b := w.heap.size) hb2 (by omega) ra1
  have rb2 := rowAt_below (b := w.heap.size + 1) hb2 (by omega) rb1
  have hz2 := hb2.size
  have hB2 := hB1.trans (hb2.mono (by omega))
  clear hb2 ra1 rb1 hB1
  go_wp2_with fail
  refine (HPX.out _).mono ?_
  rintro e w3 ⟨rfl, hb3⟩
  have ra3 := rowAt_below (b := w.heap.size) hb3 (by omega) ra2
  have rb3 := rowAt_below (b := w.heap.size + 1) hb3 (by omega) rb2
  have hz3 := hb3.size
  have hB3 := hB2.trans (hb3.mono (by omega))
  clear hb3 ra2 rb2 hB2
  have ra4 : ((w3.alloc (.cells (dgst dig0) 24)).setRow w3.heap.size (dgst a)).rowCells w.heap.size = dgst a := by rw [rowCells_setRow_other _ _ _ _ (by omega), rowCells_old _ _ _ (by omega)]; exact ra3
  have rb4 : ((w3.alloc (.cells (dgst dig0) 24)).setRow w3.heap.size (dgst a)).rowCells (w.heap.size + 1) = dgst b := by rw [rowCells_setRow_other _ _ _ _ (by omega), rowCells_old _ _ _ (by omega)]; exact rb3
  have rx4 : ((w3.alloc (.cells (dgst dig0) 24)).setRow w3.heap.size (dgst a)).rowCells w3.heap.size = dgst a := rowCells_setRow_same (n := 32) _ (by simp [go_sem])
  have hz4 : w3.heap.size < ((w3.alloc (.cells (dgst dig0) 24)).setRow w3.heap.size (dgst a)).heap.size := by simp [go_sem]
  have hB4 := below_setRow (hB3.alloc (by omega) (.cells (dgst dig0) 24)) (g := w3.heap.size) (by omega) (dgst a)
  clear ra3 rb3 hB3
  go_wp2_with fail
  generalize (w3.alloc (.cells (dgst dig0) 24)).setRow w3.heap.size (dgst a) = w4 at *
  cases hu : unhex s.data.toList with
  | none =>
    refine (parse_none s hu HM.out _).mono ?_
    rintro e w5 ⟨rfl, hb5⟩
    have ra5 := rowAt_below (b := w.heap.size) hb5 (by omega) ra4
    have rb5 := rowAt_below (b := w.heap.size + 1) hb5 (by omega) rb4
    have rx5 := rowAt_below (b := w3.heap.size) hb5 (by omega) rx4
    have hz5 := hb5.size
    have hB5 := hB4.trans (hb5.mono (by omega))
    clear hb5 ra4 rb4 rx4 hB4
    have ra6 : ((w5.alloc (.cells (dgst dig0) 24)).setRow w5.heap.size (dgst dig0)).rowCells w.heap.size = dgst a := by rw [rowCells_setRow_other _ _ _ _ (by omega), rowCells_old _ _ _ (by omega)]; exact ra5
    have rb6 : ((w5.alloc (.cells (dgst dig0) 24)).setRow w5.heap.size (dgst dig0)).rowCells (w.heap.size + 1) = dgst b := by rw [rowCells_setRow_other _ _ _ _ (by omega), rowCells_old _ _ _ (by omega)]; exact rb5
    have rx6 : ((w5.alloc (.cells (dgst dig0) 24)).setRow w5.heap.size (dgst dig0)).rowCells w3.heap.size = dgst a := by rw [rowCells_setRow_other _ _ _ _ (by omega), rowCells_old _ _ _ (by omega)]; exact rx5
    have ry6 : ((w5.alloc (.cells (dgst dig0) 24)).setRow w5.heap.size (dgst dig0)).rowCells w5.heap.size = dgst dig0 := rowCells_setRow_same (n := 32) _ (by simp [go_sem])
    have hz6 : w5.heap.size < ((w5.alloc (.cells (dgst dig0) 24)).setRow w5.heap.size (dgst dig0)).heap.size := by simp [go_sem]
    have hB6 := below_setRow (hB5.alloc (by omega) (.cells (dgst dig0) 24)) (g := w5.heap.size) (by omega) (dgst dig0)
    clear ra5 rb5 rx5 hB5
    go_wp2_with fail
    generalize (w5.alloc (.cells (dgst dig0) 24)).setRow w5.heap.size (dgst dig0) = w6 at *
    refine wp_region_after_lit (by kernel_rfl) (by kernel_rfl) ?_
    repeat (go_big_quiet_step ((first
      | (go_at_call_of 28 (dgst a); exact Calls.quiet_after (hex_named a X HX.out _))
      | (go_at_call_of 28 (dgst b); exact Calls.quiet_after (hex_named b Y HY.out _))
      | (go_at_call 29; exact Calls.quiet_after (hexRef_named a X HX.out _))
      | (go_at_call 30; exact Calls.quiet_after (HLS.out _)))))
    refine wpQuiet_nil ?_
    intro _ hw'
    obtain ⟨xw, hw''⟩ := hw'
    subst hw''
    have hbx := xw.below
    go_wp2_with fail
    go_ret
    exact ⟨rfl, hB6.trans (hbx.mono (by omega))⟩
  | some d =>
    have hsd := hide (show s = ⟨(hexText d.bytes).toArray⟩ by rw [hex_unhex hu])
    refine (parse_some s d hu HM.out _).mono ?_
    rintro e w5 ⟨rfl, hb5⟩
    have ra5 := rowAt_below (b := w.heap.size) hb5 (by omega) ra4
    have rb5 := rowAt_below (b := w.heap.size + 1) hb5 (by omega) rb4
    have rx5 := rowAt_below (b := w3.heap.size) hb5 (by omega) rx4
    have hz5 := hb5.size
    have hB5 := hB4.trans (hb5.mono (by omega))
    clear hb5 ra4 rb4 rx4 hB4
    have ra6 : ((w5.alloc (.cells (dgst dig0) 24)).setRow w5.heap.size (dgst d)).rowCells w.heap.size = dgst a := by rw [rowCells_setRow_other _ _ _ _ (by omega), rowCells_old _ _ _ (by omega)]; exact ra5
    have rb6 : ((w5.alloc (.cells (dgst dig0) 24)).setRow w5.heap.size (dgst d)).rowCells (w.heap.size + 1) = dgst b := by rw [rowCells_setRow_other _ _ _ _ (by omega), rowCells_old _ _ _ (by omega)]; exact rb5
    have rx6 : ((w5.alloc (.cells (dgst dig0) 24)).setRow w5.heap.size (dgst d)).rowCells w3.heap.size = dgst a := by rw [rowCells_setRow_other _ _ _ _ (by omega), rowCells_old _ _ _ (by omega)]; exact rx5
    have ry6 : ((w5.alloc (.cells (dgst dig0) 24)).setRow w5.heap.size (dgst d)).rowCells w5.heap.size = dgst d := rowCells_setRow_same (n := 32) _ (by simp [go_sem])
    have hz6 : w5.heap.size < ((w5.alloc (.cells (dgst dig0) 24)).setRow w5.heap.size (dgst d)).heap.size := by simp [go_sem]
    have hB6 := below_setRow (hB5.alloc (by omega) (.cells (dgst dig0) 24)) (g := w5.heap.size) (by omega) (dgst d)
    clear ra5 rb5 rx5 hB5
    go_wp2_with fail
    generalize (w5.alloc (.cells (dgst dig0) 24)).setRow w5.heap.size (dgst d) = w6 at *
    refine wp_region_after_lit (by kernel_rfl) (by kernel_rfl) ?_
    repeat (go_big_quiet_step ((first
      | (go_at_call_of 28 (dgst a); exact Calls.quiet_after (hex_named a X HX.out _))
      | (go_at_call_of 28 (dgst b); exact Calls.quiet_after (hex_named b Y HY.out _))
      | (go_at_call_of 28 (dgst d); exact Calls.quiet_after (hex_named d s hsd.out _))
      | (go_at_call 29; exact Calls.quiet_after (hexRef_named a X HX.out _))
      | (go_at_call 30; exact Calls.quiet_after (HLS.out _)))))
    refine wpQuiet_nil ?_
    intro _ hw'
    obtain ⟨xw, hw''⟩ := hw'
    subst hw''
    have hbx := xw.below
    go_wp2_with fail
    go_ret
    exact ⟨rfl, hB6.trans (hbx.mono (by omega))⟩
end Go.Proofs.Ytjmbnfcjambdkaa.shaHexes
