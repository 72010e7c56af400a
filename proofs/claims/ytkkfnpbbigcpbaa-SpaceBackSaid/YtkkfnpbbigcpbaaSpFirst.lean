/- SpaceFirst: its parts: a claim that may fail; what the first long run is. -/
import Derived.Test.YtkkfnpbbigcpbaaSpAwake
namespace Go.Proofs.Ytkkfnpbbigcpbaa
open Go.RowKit Go.Shelf
theorem grown_of_below {w w' : World} (b : Nat) (h : Below w.heap.size w w') : w.grownBy w' (some b) := ⟨h.os, h.tape, h.output, h.size, fun k hk _ => h.block k hk⟩
/-- A claim of one run, told as two cells: whatever it answers, the space has as many sectors. -/
theorem claim_one (b g : Nat) (f : Int) (fs : List Bool) (p n : Int) (w : World) (h : IsSp w b f fs) (hc0 : w.cell? ⟨g, 0, none⟩ = some (.int .i64 p)) (hc1 : w.cell? ⟨g, 1, none⟩ = some (.int .i64 n)) (hn2 : n ≤ 1000000) (hf : -100000 ≤ f) (hf2 : f ≤ 100000) (hp : -100000 ≤ p) (hp2 : p ≤ 100000) :
    Calls Try.prog 27 #[.pointer (some ⟨b, 0, none⟩), .slice (some ⟨g, 0, none⟩) 1 1] w fun e w' => ∃ q fs', e = .returned (.int .i64 q) ∧ IsSp w' b f fs' ∧ fs'.length = fs.length ∧ w.grownBy w' (some b) := by
  have hr : Reads w 2 (.slice (some ⟨g, 0, none⟩) 1 1) 1 (rcells [(p, n)]) := by
    refine ⟨rfl, fun u hu => ?_, by unfold maxLen; omega, .inr ⟨g, 0, 1, rfl, Nat.le_refl _, by unfold maxLen; omega, fun j u hj => ?_⟩⟩
    · simp [rcells] at hu
      rcases hu with rfl | rfl <;> rfl
    · match j, hj with
      | 0, hj => simp [rcells] at hj; subst hj; exact hc0
      | 1, hj => simp [rcells] at hj; subst hj; exact hc1
      | j + 2, hj => simp [rcells] at hj
  refine (claim_any b f fs _ [(p, n)] w h hr (by simp) (by omega) (by omega) (fun r hr => by simp at hr; subst hr; exact ⟨by show -1000000 ≤ p; omega, by show p ≤ 1000000; omega, hn2⟩)).mono ?_
  intro e w' hp2
  unfold TurnPost at hp2
  cases ht : turnTo f false fs [(p, n)] [(p, n)].length with
  | ok g =>
    rw [ht] at hp2
    exact ⟨_, g, hp2.1, hp2.2.1, turnTo_length ht, hp2.2.2⟩
  | error x =>
    rw [ht] at hp2
    exact ⟨_, fs, hp2.1, hp2.2.1, rfl, grown_of_below b hp2.2.2⟩
/-- Where a run was taken, none is free; ahead of it none was. -/
theorem first_free (fs : List Bool) (n : Nat) (r : Nat × Nat) (hn : 1 ≤ n) (h : (runsAt fs 0).find? (fun r => decide (n ≤ r.2)) = some r) :
    (setRun fs r.1 n false).length = fs.length ∧ r.1 < fs.length ∧ (setRun fs r.1 n false).getD r.1 false = false ∧ (r.1 = 0 ∨ (setRun fs r.1 n false).getD (r.1 - 1) false = false) := by
  have hm := List.mem_of_find?_eq_some h
  have hp : n ≤ r.2 := by simpa using List.find?_some h
  obtain ⟨h1, h2, h3, h4⟩ := runs_isRun fs r hm
  refine ⟨setRun_length _ _ _ _ (by omega), by omega, ?_, ?_⟩
  · rw [List.getD_eq_getElem?_getD, setRun_get _ _ _ _ (by omega), if_pos (by omega)]; rfl
  · rcases h4 with h4 | h4
    · exact .inl h4
    · right
      by_cases h0 : r.1 = 0
      · rw [List.getD_eq_getElem?_getD, setRun_get _ _ _ _ (by omega), if_pos (by omega)]; rfl
      · rw [List.getD_eq_getElem?_getD, setRun_get _ _ _ _ (by omega), if_neg (by omega), h4]; rfl
theorem rem_in (x k : Int) (hk : 1 ≤ k) (hk2 : k ≤ 200) : 0 ≤ wrap64 ((IntKind.u64.wrap x).tmod k) ∧ wrap64 ((IntKind.u64.wrap x).tmod k) < k := by
  have h0 : 0 ≤ IntKind.u64.wrap x := by rw [IntKind.wrap_u64]; omega
  have h1 := Int.tmod_lt_of_pos (IntKind.u64.wrap x) (show 0 < k by omega)
  have h2 := Int.tmod_nonneg k h0
  unfold wrap64; omega
theorem one_in (y : Int) (h0 : 0 ≤ y) (h1 : y < 1000) : wrap64 (1 + y) = 1 + y := by unfold wrap64; omega
theorem is_off (b : Nat) (fs : List Bool) (p : Nat) (at' : Int) (w : World) (h : IsSp w b 0 fs) (ha : at' = (p : Int)) (hp : p < 5000) (ho : fs.getD p false = false) :
    Calls Try.prog 30 #[.pointer (some ⟨b, 0, none⟩), .int .i64 at'] w fun e w' => e = .returned (.bool false) ∧ ∃ q, w' = w.drewN q := by
  subst ha
  refine (is_any b 0 fs (p : Int) w h (by omega) (by omega) (by omega) (by omega)).mono ?_
  rintro e w' ⟨rfl, hq⟩
  refine ⟨?_, hq⟩
  rw [show ((p : Int) - 0).toNat = p by omega, ho, Bool.and_false]
end Go.Proofs.Ytkkfnpbbigcpbaa
