/- wire.Row over parts of a delta. -/
import Derived.Test.YtjmbnfcjambdkaaDeltaLay
namespace Go.Proofs.Ytjmbnfcjambdkaa
open Go.RowKit
set_option maxRecDepth 20000 in
set_option maxHeartbeats 4000000 in
theorem rowPt_any (s : List UInt8) (v : Value) (xs : List Pt) (B : List UInt8) (hB : B = s ++ (be 4 xs.length ++ xs.flatMap layPt)) (w : World) (hr : Reads w 4 v xs.length (ptCells xs)) (hn : xs.length ≤ 1000) (hx : ∀ p ∈ xs, p.fits) (hs : s.length ≤ 100000000) :
    Calls Try.prog 43 #[.agg #[.string ⟨s.toArray⟩], v, .func (.func 45) #[] #[]] w fun e w' => e = .returned (.agg #[.string ⟨B.toArray⟩]) ∧ Below w.heap.size w w' := by
  obtain ⟨a0, c0, rfl⟩ := hr.shape
  have HRD := hide hr
  have HX := hide hx
  have HB := hide hB
  clear hr hx hB
  obtain ⟨S0, hS0⟩ : ∃ S0, Hid (S0 = s ++ be 4 xs.length) := ⟨_, hide rfl⟩
  have hS0l := hide (show S0.length = s.length + 4 by rw [hS0.out, List.length_append, be_length])
  go_enter Try.func43, Try.ntmps43
  go_wp2_with fail
  refine (outFour1 s xs.length _ S0 hS0.out _ (reads_fresh_at _ (w.heap.size + 1 + 1) (by simp) [.int .u32 (xs.length : Int)] 83 1 1 rfl (by simp [Value.oneCell']) (by unfold maxLen; omega)) (by omega) (by omega)).mono ?_
  rintro e w1 ⟨rfl, hb1⟩
  have HB1 := hide ((below3 w _ _ _).trans (hb1.mono (by rw [size3]; omega)))
  have HR2 := hide ((hb1.block (w.heap.size + 1) (by rw [size3]; omega)).trans (heap_mid3 w _ _ _))
  have HR := hide ((hb1.block w.heap.size (by rw [size3]; omega)).trans (heap_fst3 w _ _ _))
  clear hb1
  have hst := one_cell HR.out
  have hfz := frozen_of_row w1 w.heap.size 0 _ _ HR.out
  go_wp2_with fail
  go_loopw [17, 8] (fun i _ wr => ∃ k : Nat, k ≤ xs.length ∧ i = .int .i64 k ∧ wr.heap[w.heap.size]? = some (.cells #[.string ⟨(S0 ++ (xs.take k).flatMap layPt).toArray⟩] 80 (0, 0)) ∧ wr.heap[w.heap.size + 1]? = some (.cells #[.string ⟨#[]⟩] 80 (0, 0)) ∧ Below w.heap.size w wr) (fun i _ _ => xs.length - (intOf i).toNat)
  case atStart =>
    refine ⟨0, by omega, rfl, ?_, ?_, HB1.out.setCell (Nat.le_refl _) _⟩
    · rw [heap_set_row HR.out]; simp
    · rw [heap_setCell_other _ _ _ _ (by simp)]; exact HR2.out
  case round =>
    obtain ⟨k, hk, rfl, hr, hr2, hb⟩ := hrel
    clear hst hfz HR HR2 HB1
    have HR := hide hr
    have HR2 := hide hr2
    clear hr hr2
    by_cases hlt : k < xs.length
    · obtain ⟨b, o, c2, hv⟩ := HRD.out.isRow (by omega)
      cases hv
      have hlen := hide (flat_take_len layPt 100005 xs k (fun p hp => layPt_length p (HX.out p hp)))
      obtain ⟨T, hT⟩ : ∃ T, Hid (S0 ++ (xs.take k).flatMap layPt = T) := ⟨_, hide rfl⟩
      rw [hT.out] at HR
      have hTl := hide (show T.length ≤ 800000000 by have h1 := hlen.out; have h2 := hS0l.out; rw [← hT.out, List.length_append]; omega)
      obtain ⟨x, hxk⟩ : ∃ x, Hid (xs[k] = x) := ⟨_, hide rfl⟩
      have hxm := hide (HX.out xs[k] (List.getElem_mem hlt))
      rw [hxk.out] at hxm
      obtain ⟨g0, g1, g2, g3⟩ := (HRD.out.below hb).pt k hlt x hxk.out
      obtain ⟨C, hC⟩ : ∃ C, Hid (C = T ++ layPt x) := ⟨_, hide rfl⟩
      have HBR := hide hb
      have hz1 : w.heap.size < wr.heap.size := lt_of_heap HR.out
      have hz2 : w.heap.size + 1 < wr.heap.size := lt_of_heap HR2.out
      clear hb
      have hst := one_cell HR.out
      have hfz := frozen_of_row wr w.heap.size 0 _ _ HR.out
      go_wp2_with fail
      refine (lay_any T x C hC.out hxm.out hTl.out _).mono ?_
      rintro e2 w2 ⟨rfl, hb2⟩
      have HB2 := hide (((Below.refl _ wr).alloc (Nat.le_refl _) _).trans (hb2.mono (by simp)))
      clear hb2
      have HR3 := hide ((HB2.out.block _ (lt_of_heap HR.out)).trans HR.out)
      have HR4 := hide ((HB2.out.block _ (lt_of_heap HR2.out)).trans HR2.out)
      have dst := one_cell HR3.out
      have dfz := frozen_of_row w2 w.heap.size 0 _ _ HR3.out
      clear hst hfz g0 g1 g2 g3
      go_wp2_with fail
      go_roundw
      case rel =>
        refine ⟨k + 1, by omega, by go_num, ?_, ?_, (HBR.out.trans (HB2.out.mono HBR.out.size)).setCell (Nat.le_refl _) _⟩
        · rw [heap_set_row HR3.out, flat_snoc _ xs k hlt, ← List.append_assoc, hT.out, hxk.out, ← hC.out]; rfl
        · rw [heap_setCell_other _ _ _ _ (by simp)]; exact HR4.out
      case measure => simp [intOf]; omega
    · obtain rfl : k = xs.length := by omega
      have hst := one_cell HR.out
      have hst2 := one_cell HR2.out
      have hfz2 := frozen_of_row wr (w.heap.size + 1) 0 _ _ HR2.out
      go_wp2_with fail
      refine ret_out_cell rfl (w.heap.size + 1) B rfl ?_ rfl ⟨rfl, hb.setCell (by show w.heap.size ≤ w.heap.size + 1; omega) _⟩
      rw [rowCells_of (heap_set_row HR2.out _), HB.out, hS0.out, List.append_assoc]; rfl
end Go.Proofs.Ytjmbnfcjambdkaa
