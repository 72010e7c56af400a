/- slices.Insert at rows of refs: one more, in its place. -/
import Derived.Test.YtjmbnfcjambdkaaRefsLaw
import Derived.Lib.Overlaps
namespace Go.Proofs.Ytjmbnfcjambdkaa
open Go.RowKit
theorem reads_one_ref {w : World} {g : Nat} {r : RefT} {T : TypeId} {fr : Nat × Nat} (h : w.heap[g]? = some (.cells (refA r) T fr)) : Reads w 33 (.slice (some ⟨g, 0, none⟩) 1 1) 1 (refL r) :=
  ⟨by rw [refL_length], refL_one r, by unfold maxLen; omega, .inr ⟨g, 0, 1, rfl, Nat.le_refl _, by unfold maxLen; omega, fun j u hj => by rw [Nat.zero_add, cell_of_row w g j _ _ _ h]; simpa [refA] using hj⟩⟩
set_option maxRecDepth 20000 in
set_option maxHeartbeats 2000000 in
theorem insert_end (B : Nat) (a0 : Option Addr) (c0 : Nat) (L : List RefT) (r : RefT) (gv : Nat) (w : World) (hown : w.ownsRow B 75 33 (.slice a0 L.length c0) L.length (refCells L)) (hv : w.heap[gv]? = some (.cells (refA r) 75 (0, 0))) (hl : L.length ≤ 100) (hB : B ≤ w.heap.size) :
    Calls Try.prog 90 #[.slice a0 L.length c0, .int .i64 (L.length : Int), .slice (some ⟨gv, 0, none⟩) 1 1] w fun e w' => (∃ a c, e = .returned (.slice a (L.length + 1) c) ∧ w'.ownsRow B 75 33 (.slice a (L.length + 1) c) (L.length + 1) (refCells (L ++ [r]))) ∧ Below B w w' := by
  obtain ⟨i0, hi, hz0, hz1, hz2⟩ := info_parts info_refApp
  have HI := hide hi
  have Hz0 := hide hz0
  have Hz1 := hide hz1
  have Hz2 := hide hz2
  clear hi hz0 hz1 hz2
  have HO := hide hown
  have HV := hide (reads_one_ref hv)
  have C1 := hide (show L.length + 1 ≤ maxLen by unfold maxLen; omega)
  have hcap : L.length ≤ c0 ∧ c0 ≤ maxLen := by
    obtain ⟨_, ⟨h, h0⟩ | ⟨g, cap, cur, h, _, _, h2, h3, _⟩⟩ := hown
    · obtain ⟨_, h1, h2⟩ : a0 = none ∧ L.length = 0 ∧ c0 = 0 := by simpa using h
      exact ⟨by omega, by unfold maxLen; omega⟩
    · obtain ⟨_, h1⟩ : a0 = some ⟨g, 0, none⟩ ∧ c0 = cap := by simpa using h
      subst h1; exact ⟨h2, h3⟩
  obtain ⟨hc1, hc2⟩ := hcap
  unfold maxLen at hc2
  have hform : (a0 = none ∧ c0 = 0 ∧ L.length = 0) ∨ ∃ g, a0 = some ⟨g, 0, none⟩ := by
    obtain ⟨_, ⟨h, h0⟩ | ⟨g, cap, cur, h, _⟩⟩ := hown
    · obtain ⟨h1, h2, h3⟩ : a0 = none ∧ L.length = 0 ∧ c0 = 0 := by simpa using h
      exact .inl ⟨h1, h3, h2⟩
    · obtain ⟨h1, _⟩ : a0 = some ⟨g, 0, none⟩ ∧ c0 = cap := by simpa using h
      exact .inr ⟨g, h1⟩
  clear hown hv
  have hge := owned_ge HO.out
  rcases hform with ⟨rfl, rfl, h0⟩ | ⟨g, rfl⟩
  · obtain rfl : L = [] := List.eq_nil_of_length_eq_zero h0
    go_enter Try.func90, Try.ntmps90
    go_wp2_with (at_builtin; refine wpList_append_reads2 _ _ 70 26 B 75 i0 (.agg (refA ([], dig0))) 33 48 Try.underlying70 Try.underlying26 HI.out Hz0.out Hz1.out Hz2.out zero_cells (by decide) _ 0 [] rfl HO.out _ 1 (refL r) rfl HV.out C1.out (by simp) hB ?_; intro a' c' w3 hown3 hg3)
    go_ret
    exact ⟨⟨a', c', rfl, by simpa [refCells] using hown3⟩, (Below.refl B w).grown hg3 hB (fun k hk => by cases hk)⟩
  · go_enter Try.func90, Try.ntmps90
    go_wp2_with (at_builtin; refine wpList_append_reads2 _ _ 70 26 B 75 i0 (.agg (refA ([], dig0))) 33 48 Try.underlying70 Try.underlying26 HI.out Hz0.out Hz1.out Hz2.out zero_cells (by decide) _ L.length (refCells L) rfl HO.out _ 1 (refL r) rfl HV.out C1.out (by omega) hB ?_; intro a' c' w3 hown3 hg3)
    all_goals go_ret
    all_goals exact ⟨⟨a', c', rfl, by rw [refCells_append, refCells_single]; exact hown3⟩, (Below.refl B w).grown hg3 hB (fun k hk => hge k hk)⟩
end Go.Proofs.Ytjmbnfcjambdkaa
