/- dart.Insert, and the document's Same: what they compute. -/
import Derived.Test.YtkkfnpbbigcpbaaDart
namespace Go.Proofs.Ytkkfnpbbigcpbaa
open Go.RowKit

/-- How many stand ahead of the place behind d: all of them, if it isn't there. -/
def placeOf (xs : List Int) (d : Int) : Nat := if idx xs d < 0 then xs.length else (idx xs d).toNat + 1
theorem placeOf_le (xs : List Int) (d : Int) : placeOf xs d ≤ xs.length := by
  unfold placeOf
  rcases idx_or xs d with h | ⟨k, hk, h⟩ <;> rw [h]
  · simp
  · rw [if_neg (by omega)]; omega
def insAt (xs : List Int) (k : Nat) (ms : List Int) : List Int := xs.take k ++ ms ++ xs.drop k
theorem insAt_length (xs : List Int) (k : Nat) (ms : List Int) : (insAt xs k ms).length = xs.length + ms.length := by simp [insAt]; omega

set_option maxHeartbeats 400000 in
set_option maxRecDepth 20000 in
theorem insert_u32 (b o c : Nat) (xs : List Int) (d : Int) (am : Option Addr) (cm : Nat) (ms : List Int) (w : World) (hr : Reads w 1 (.slice (some ⟨b, o, none⟩) xs.length c) xs.length (nums xs)) (hm : Reads w 1 (.slice am ms.length cm) ms.length (nums ms)) (hx : (xs.length + ms.length) * 4 ≤ 140737488355328) :
    Calls Try.prog 41 #[.slice (some ⟨b, o, none⟩) xs.length c, .int .u32 d, .slice am ms.length cm] w fun e w' => (∃ a c, e = .returned (.slice a (xs.length + ms.length) c) ∧ w'.ownsRow w.heap.size 28 1 (.slice a (xs.length + ms.length) c) (xs.length + ms.length) (nums (rot (insAt xs (placeOf xs d) ms)))) ∧ Below w.heap.size w w' := by
  have hR := hide hr
  have hM := hide hm
  have hnc : xs.length ≤ c := by
    obtain ⟨_, _, _, ⟨h, _⟩ | ⟨b', o', c', e, hc, _⟩⟩ := hr
    · cases h
    · cases e; exact hc
  have hcm : c ≤ maxLen := by
    obtain ⟨_, _, _, ⟨h, _⟩ | ⟨b', o', c', e, _, hc, _⟩⟩ := hr
    · cases h
    · cases e; exact hc
  unfold maxLen at hcm
  clear hr hm
  have hi := index_u32 (.slice (some ⟨b, o, none⟩) xs.length c) xs d w hR.out
  have hpl := placeOf_le xs d
  have HI := hide hi
  obtain ⟨p, hp⟩ : ∃ p, placeOf xs d = p := ⟨_, rfl⟩
  rw [hp] at hpl
  have hpI : (idx xs d = -1 ∧ p = xs.length) ∨ (0 ≤ idx xs d ∧ idx xs d < xs.length ∧ idx xs d + 1 = p) := by
    rcases idx_or xs d with h | ⟨k, hk, h⟩
    · left; refine ⟨h, ?_⟩; rw [← hp, placeOf, h]; simp
    · right; refine ⟨by omega, by omega, ?_⟩; rw [← hp, placeOf, h, if_neg (by omega)]; simp
  have HP := hide hp
  clear hi hp
  generalize idx xs d = I at *
  -- what the slices are, and what they read
  obtain ⟨b2, o2, hb2⟩ : ∃ b2 o2, (if c = p then some (⟨b, o, none⟩ : Addr) else some ⟨b, o + p, none⟩) = some ⟨b2, o2, none⟩ := by
    split
    · exact ⟨_, _, rfl⟩
    · exact ⟨_, _, rfl⟩
  have hF : Reads w 1 (.slice (some ⟨b, o, none⟩) p c) p (nums (xs.take p)) := hR.out.front hpl
  have hB : Reads w 1 (.slice (some ⟨b2, o2, none⟩) (xs.length - p) (c - p)) (xs.length - p) (nums (xs.drop p)) := by
    by_cases hcp : c = p
    · rw [if_pos hcp] at hb2
      cases hb2
      have hn : xs.length - p = 0 := by omega
      have hd : xs.drop p = [] := List.drop_of_length_le (by omega)
      rw [hn, hd]
      exact ⟨by simp [nums], by simp [nums], by simp, .inr ⟨_, _, _, rfl, by omega, by unfold maxLen; omega, by simp [nums]⟩⟩
    · rw [if_neg hcp] at hb2
      cases hb2
      exact hR.out.back hpl
  have HF := hide hF
  have HB := hide hB
  have hpc : p ≤ c := by omega
  have hpcI : (p : Int) ≤ c := by omega
  have hpnI : (p : Int) ≤ xs.length := by omega
  have H3 := hide (show (p + ms.length + (xs.length - p)) * 4 ≤ 140737488355328 by omega)
  have hcc : Calls Try.prog 92 #[.slice (some ⟨w.heap.size, 0, none⟩) 3 3] (w.alloc (.cells #[.slice (some ⟨b, o, none⟩) p c, .slice am ms.length cm, .slice (some ⟨b2, o2, none⟩) (xs.length - p) (c - p)] 52)).drew fun e w' => (∃ a c, e = .returned (.slice a (xs.length + ms.length) c) ∧ w'.ownsRow (w.heap.size + 1) 28 1 (.slice a (xs.length + ms.length) c) (xs.length + ms.length) (nums (insAt xs p ms))) ∧ Below (w.heap.size + 1) (w.alloc (.cells #[.slice (some ⟨b, o, none⟩) p c, .slice am ms.length cm, .slice (some ⟨b2, o2, none⟩) (xs.length - p) (c - p)] 52)).drew w' := by
    have := concat3 w.heap.size 3 _ p c (xs.take p) _ ms.length cm ms _ (xs.length - p) (c - p) (xs.drop p) (w.alloc (.cells #[.slice (some ⟨b, o, none⟩) p c, .slice am ms.length cm, .slice (some ⟨b2, o2, none⟩) (xs.length - p) (c - p)] 52)).drew (List.length_take_of_le hpl) rfl List.length_drop (cell_of_row _ _ 0 _ _ _ (heap_alloc_new w _)) (cell_of_row _ _ 1 _ _ _ (heap_alloc_new w _)) (cell_of_row _ _ 2 _ _ _ (heap_alloc_new w _)) (HF.out.alloc _) (hM.out.alloc _) (HB.out.alloc _) H3.out
    rw [show p + ms.length + (xs.length - p) = xs.length + ms.length by omega, show xs.take p ++ ms ++ xs.drop p = insAt xs p ms from rfl] at this
    simpa using this
  have HCC := hide hcc
  have HN := hide (show xs.length + ms.length ≤ maxLen by unfold maxLen; omega)
  clear hF hB hcc
  have hwr : (I = -1 ∧ IntKind.i64.wrap (xs.length : Int) = p) ∨ (0 ≤ I ∧ I < xs.length ∧ IntKind.i64.wrap (I + 1) = p) := by
    rcases hpI with ⟨h1, h2⟩ | ⟨h1, h2, h3⟩
    · left; refine ⟨h1, ?_⟩; rw [IntKind.wrap_i64]; omega
    · right; refine ⟨h1, h2, ?_⟩; rw [IntKind.wrap_i64]; omega
  clear hpI
  rcases hwr with ⟨rfl, hwr⟩ | ⟨h1, h2, hwr⟩
  all_goals
    go_enter Try.func41, Try.ntmps41
    go_wp2_with (go_at_call 88; refine HI.out.mono ?_; rintro e w' ⟨rfl, rfl⟩)
    go_region_law (first
        | (go_simp; go_at_call 92; refine HCC.out.mono ?_; rintro e w1 ⟨⟨a1, c1, rfl, hown⟩, hb1⟩)
        | (go_simp; go_at_call 35; refine (normal_len _ _ (insAt xs p ms) _ (insAt_length xs p ms) (Reads.owned hown (nums_one _) HN.out) hx).mono ?_; rintro e w2 ⟨⟨a2, c2, rfl, hown2⟩, hb2⟩))
    go_wp2_with fail
    go_ret
    refine ⟨⟨a2, c2, rfl, ?_⟩, ?_⟩
    · rw [HP.out]
      exact owned_mono hown2 (by have := hb1.size; simp at this; omega)
    · exact ((((Below.refl _ w).alloc (Nat.le_refl _) _).drew).trans (hb1.mono (by omega))).trans (hb2.mono (by have := hb1.size; simp at this; omega))
end Go.Proofs.Ytkkfnpbbigcpbaa
