/- sha.keys, sha.begun. -/
import Derived.Test.YtjmbnfcjambdkaaShaRows
namespace Go.Proofs.Ytjmbnfcjambdkaa
open Go.RowKit
/-- The first words are the roots' of the first primes. -/
def fillTo (n : Nat) (cube : Bool) (j : Nat) : List UInt32 := (primeList.take j).map (fun p => rootF p cube) ++ List.replicate (n - j) 0
theorem fill_length (n : Nat) (cube : Bool) (j : Nat) (h : j ≤ n) (hn : n ≤ 64) : (fillTo n cube j).length = n := by
  simp [fillTo, primeList_length]; omega
theorem fill_step (n : Nat) (cube : Bool) (j p : Nat) (h : j < n) (hn : n ≤ primeList.length) (hp : primeList[j]? = some p) : (fillTo n cube j).set j (rootF p cube) = fillTo n cube (j + 1) := by
  obtain ⟨hjl, e⟩ := List.getElem?_eq_some_iff.1 hp
  unfold fillTo
  have hl : ((primeList.take j).map (fun p => rootF p cube)).length = j := by simp; omega
  rw [List.set_append_right _ _ (by omega), hl, Nat.sub_self, show n - j = (n - (j + 1)) + 1 by omega, List.replicate_succ, List.set_cons_zero, List.take_succ_eq_append_getElem hjl, List.map_append, e]
  simp
def keysW : Ws 64 := ⟨fillTo 64 true 64, fill_length 64 true 64 (by omega) (by omega)⟩
def begunW : Ws 8 := ⟨fillTo 8 false 8, fill_length 8 false 8 (by omega) (by omega)⟩
set_option maxRecDepth 20000 in
set_option maxHeartbeats 2000000 in
theorem keys_any (w : World) :
    Calls Try.prog 59 #[] w fun e w' => e = .returned (.agg (wsv keysW)) ∧ Below w.heap.size w w' := by
  go_enter Try.func59, Try.ntmps59
  go_wp2_with fail
  refine (primes_any 64 (by omega) _).mono ?_
  rintro e1 w1 ⟨⟨a, c, rfl, ho⟩, hb1⟩
  have HR := hide (Reads.owned ho (nums64_one _) (by unfold maxLen; omega))
  have R0 := hide ((hb1.block w.heap.size (by simp; omega)).trans (heap_one w _ _))
  have R1 := hide ((hb1.block (w.heap.size + 1) (by simp)).trans (heap_two w _ _))
  have HB1 := hide ((((Below.refl _ w).alloc (Nat.le_refl _) _).alloc (by simp) _).trans (hb1.mono (by simp; omega)))
  clear ho hb1
  obtain ⟨bq, oq, cq, hq⟩ := HR.out.isRow (by omega)
  cases hq
  go_wp2_with fail
  go_loopw [6] (fun i wr => ∃ j : Nat, j ≤ 64 ∧ i = .int .i64 j ∧ (∃ x : Ws 64, Hid (x.l = fillTo 64 true j) ∧ wr.heap[w.heap.size + 1]? = some (.cells (wsv x) 107 (0, 0))) ∧ wr.heap[w.heap.size]? = some (.cells (wsv (Ws.zero 64)) 107 (0, 0)) ∧ Below w.heap.size w wr ∧ Reads wr 1 (.slice (some ⟨bq, oq, none⟩) 64 c) 64 (nums64 (primeList.take 64))) (fun i _ => 64 - (intOf i).toNat)
  case atStart => exact ⟨0, by omega, rfl, ⟨Ws.zero 64, hide rfl, R1.out⟩, R0.out, HB1.out, HR.out⟩
  case round =>
    obtain ⟨j, hj, rfl, ⟨x, hx, hr1⟩, hr0, hb, hrd⟩ := hrel
    have Q1 := hide hr1
    have Q0 := hide hr0
    have HB := hide hb
    have HRD := hide hrd
    clear hr1 hr0 hb hrd
    by_cases hlt : j < 64
    · obtain ⟨p, hp, hp2⟩ : ∃ p, primeList[j]? = some p ∧ p ≤ 311 := by
        have h64 := primeList_length
        exact ⟨primeList[j]'(by omega), List.getElem?_eq_getElem _, (primeList_bound _ (List.getElem_mem _)).2⟩
      have hcell := HRD.out.cellAt j _ (nums64_get _ j p (by rw [List.getElem?_take, if_pos hlt]; exact hp))
      have HP := hide hp
      have hlt2 : (j : Int) < 64 := by omega
      have hjs : j < (wsv x).size := by rw [wsv_size]; exact hlt
      obtain ⟨y0, hy0⟩ : ∃ y, x.l[j]? = some y := ⟨_, List.getElem?_eq_getElem (by rw [x.len]; exact hlt)⟩
      have hst := wcell Q1.out j y0 hy0
      have hfz := frozen_of_row wr (w.heap.size + 1) j _ _ Q1.out
      have RT := hide (fun w => root_any p true (by omega) w)
      clear hp hy0
      go_wp2_with fail
      refine (RT.out _).mono ?_
      rintro e2 w2 ⟨rfl, rfl⟩
      have Q2 := hide (wrow_set Q1.out j (rootF p true))
      go_wp2_with fail
      go_roundw
      case rel =>
        refine ⟨j + 1, by omega, by go_num, ⟨x.set j (rootF p true), hide ?_, Q2.out⟩, ?_, HB.out.setCell (by show w.heap.size ≤ w.heap.size + 1; omega) _, ?_⟩
        · show x.l.set j _ = _
          rw [hx.out]
          exact fill_step 64 true j p hlt (by rw [primeList_length]; omega) HP.out
        · rw [heap_setCell_other _ _ _ _ (by show w.heap.size ≠ w.heap.size + 1; omega)]; exact Q0.out
        · exact HRD.out.grown (grown_set _ _ _ _) (fun k hk e => by
            cases hk
            cases e
            have := hcell
            rw [cell_of_row _ _ _ _ _ _ Q1.out] at this
            obtain ⟨z, hz⟩ : ∃ z, (wsv x)[oq + j]? = some z := ⟨_, this⟩
            rw [hz] at this
            simp only [wsv, wcells, List.getElem?_toArray, List.getElem?_map, Option.map_eq_some_iff] at hz
            obtain ⟨y, _, hy⟩ := hz
            rw [← hy] at this
            simp at this)
      case measure => simp [intOf]; omega
    · obtain rfl : j = 64 := by omega
      have hxk : x = keysW := by
        obtain ⟨l, hl⟩ := x
        have := hx.out
        simp only at this
        subst this
        rfl
      subst hxk
      have z0 : w.heap.size < wr.heap.size := lt_of_heap Q0.out
      have z1 : w.heap.size + 1 < wr.heap.size := lt_of_heap Q1.out
      have rc1 := rowCells_of Q1.out
      have rk0 := rowOk_of 64 Q0.out
      rw [wsv_size] at rk0
      have rk1 : wr.rowOk w.heap.size 64 = true := by rw [rk0]; rfl
      clear rk0
      go_wp2_with fail
      exact ret_w64 rfl w.heap.size keysW rfl (rowCells_setRow_same _ rk1) rfl ⟨rfl, below_setRow HB.out (Nat.le_refl _) _⟩
set_option maxRecDepth 20000 in
set_option maxHeartbeats 2000000 in
theorem begun_any (w : World) :
    Calls Try.prog 58 #[] w fun e w' => e = .returned (.agg (wsv begunW)) ∧ Below w.heap.size w w' := by
  go_enter Try.func58, Try.ntmps58
  go_wp2_with fail
  refine (primes_any 8 (by omega) _).mono ?_
  rintro e1 w1 ⟨⟨a, c, rfl, ho⟩, hb1⟩
  have HR := hide (Reads.owned ho (nums64_one _) (by unfold maxLen; omega))
  have R0 := hide ((hb1.block w.heap.size (by simp; omega)).trans (heap_one w _ _))
  have R1 := hide ((hb1.block (w.heap.size + 1) (by simp)).trans (heap_two w _ _))
  have HB1 := hide ((((Below.refl _ w).alloc (Nat.le_refl _) _).alloc (by simp) _).trans (hb1.mono (by simp; omega)))
  clear ho hb1
  obtain ⟨bq, oq, cq, hq⟩ := HR.out.isRow (by omega)
  cases hq
  go_wp2_with fail
  go_loopw [6] (fun i wr => ∃ j : Nat, j ≤ 8 ∧ i = .int .i64 j ∧ (∃ x : Ws 8, Hid (x.l = fillTo 8 false j) ∧ wr.heap[w.heap.size + 1]? = some (.cells (wsv x) 105 (0, 0))) ∧ wr.heap[w.heap.size]? = some (.cells (wsv (Ws.zero 8)) 105 (0, 0)) ∧ Below w.heap.size w wr ∧ Reads wr 1 (.slice (some ⟨bq, oq, none⟩) 8 c) 8 (nums64 (primeList.take 8))) (fun i _ => 8 - (intOf i).toNat)
  case atStart => exact ⟨0, by omega, rfl, ⟨Ws.zero 8, hide rfl, R1.out⟩, R0.out, HB1.out, HR.out⟩
  case round =>
    obtain ⟨j, hj, rfl, ⟨x, hx, hr1⟩, hr0, hb, hrd⟩ := hrel
    have Q1 := hide hr1
    have Q0 := hide hr0
    have HB := hide hb
    have HRD := hide hrd
    clear hr1 hr0 hb hrd
    by_cases hlt : j < 8
    · obtain ⟨p, hp, hp2⟩ : ∃ p, primeList[j]? = some p ∧ p ≤ 311 := by
        have h64 := primeList_length
        exact ⟨primeList[j]'(by omega), List.getElem?_eq_getElem _, (primeList_bound _ (List.getElem_mem _)).2⟩
      have hcell := HRD.out.cellAt j _ (nums64_get _ j p (by rw [List.getElem?_take, if_pos hlt]; exact hp))
      have HP := hide hp
      have hlt2 : (j : Int) < 8 := by omega
      have hjs : j < (wsv x).size := by rw [wsv_size]; exact hlt
      obtain ⟨y0, hy0⟩ : ∃ y, x.l[j]? = some y := ⟨_, List.getElem?_eq_getElem (by rw [x.len]; exact hlt)⟩
      have hst := wcell Q1.out j y0 hy0
      have hfz := frozen_of_row wr (w.heap.size + 1) j _ _ Q1.out
      have RT := hide (fun w => root_any p false (by omega) w)
      clear hp hy0
      go_wp2_with fail
      refine (RT.out _).mono ?_
      rintro e2 w2 ⟨rfl, rfl⟩
      have Q2 := hide (wrow_set Q1.out j (rootF p false))
      go_wp2_with fail
      go_roundw
      case rel =>
        refine ⟨j + 1, by omega, by go_num, ⟨x.set j (rootF p false), hide ?_, Q2.out⟩, ?_, HB.out.setCell (by show w.heap.size ≤ w.heap.size + 1; omega) _, ?_⟩
        · show x.l.set j _ = _
          rw [hx.out]
          exact fill_step 8 false j p hlt (by rw [primeList_length]; omega) HP.out
        · rw [heap_setCell_other _ _ _ _ (by show w.heap.size ≠ w.heap.size + 1; omega)]; exact Q0.out
        · exact HRD.out.grown (grown_set _ _ _ _) (fun k hk e => by
            cases hk
            cases e
            have := hcell
            rw [cell_of_row _ _ _ _ _ _ Q1.out] at this
            obtain ⟨z, hz⟩ : ∃ z, (wsv x)[oq + j]? = some z := ⟨_, this⟩
            rw [hz] at this
            simp only [wsv, wcells, List.getElem?_toArray, List.getElem?_map, Option.map_eq_some_iff] at hz
            obtain ⟨y, _, hy⟩ := hz
            rw [← hy] at this
            simp at this)
      case measure => simp [intOf]; omega
    · obtain rfl : j = 8 := by omega
      have hxk : x = begunW := by
        obtain ⟨l, hl⟩ := x
        have := hx.out
        simp only at this
        subst this
        rfl
      subst hxk
      have z0 : w.heap.size < wr.heap.size := lt_of_heap Q0.out
      have z1 : w.heap.size + 1 < wr.heap.size := lt_of_heap Q1.out
      have rc1 := rowCells_of Q1.out
      have rk0 := rowOk_of 8 Q0.out
      rw [wsv_size] at rk0
      have rk1 : wr.rowOk w.heap.size 8 = true := by rw [rk0]; rfl
      clear rk0
      go_wp2_with fail
      exact ret_w8 rfl w.heap.size begunW rfl (rowCells_setRow_same _ rk1) rfl ⟨rfl, below_setRow HB.out (Nat.le_refl _) _⟩
end Go.Proofs.Ytjmbnfcjambdkaa
