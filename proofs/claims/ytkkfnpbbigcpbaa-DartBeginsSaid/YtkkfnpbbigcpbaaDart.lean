/- Package dart: what its functions compute of rows of darts. -/
import Derived.Test.YtkkfnpbbigcpbaaConcat
namespace Go.Proofs.Ytkkfnpbbigcpbaa
open Go.RowKit

theorem Reads.front {w : World} {b o n c k : Nat} {xs : List Int} (h : Reads w 1 (.slice (some ⟨b, o, none⟩) n c) n (nums xs)) (hk : k ≤ n) : Reads w 1 (.slice (some ⟨b, o, none⟩) k c) k (nums (xs.take k)) := by
  obtain ⟨h1, h2, h3, h4⟩ := h
  rw [nums_length] at h1
  refine ⟨by rw [nums_length, List.length_take]; omega, nums_one _, by omega, ?_⟩
  rcases h4 with ⟨h4, _⟩ | ⟨b', o', c', e, hc, hm, h4⟩
  · cases h4
  · cases e
    refine .inr ⟨b, o, c, rfl, by omega, hm, fun j u hj => ?_⟩
    refine h4 j u ?_
    have hlt : j < k := by
      have := (List.getElem?_eq_some_iff.1 hj).1
      rw [nums_length, List.length_take] at this; omega
    simp only [nums, List.getElem?_map, List.getElem?_take, if_pos hlt] at hj ⊢
    exact hj
theorem Reads.back {w : World} {b o n c k : Nat} {xs : List Int} (h : Reads w 1 (.slice (some ⟨b, o, none⟩) n c) n (nums xs)) (hk : k ≤ n) : Reads w 1 (.slice (some ⟨b, o + k, none⟩) (n - k) (c - k)) (n - k) (nums (xs.drop k)) := by
  obtain ⟨h1, h2, h3, h4⟩ := h
  rw [nums_length] at h1
  refine ⟨by rw [nums_length, List.length_drop]; omega, nums_one _, by omega, ?_⟩
  rcases h4 with ⟨h4, _⟩ | ⟨b', o', c', e, hc, hm, h4⟩
  · cases h4
  · cases e
    refine .inr ⟨b, o + k, c - k, rfl, by omega, by omega, fun j u hj => ?_⟩
    have := h4 (k + j) u (by
      simp only [nums, List.getElem?_map, List.getElem?_drop] at hj ⊢
      exact hj)
    rw [Nat.add_assoc]; exact this

set_option maxHeartbeats 400000 in
set_option maxRecDepth 20000 in
theorem from_u32 (v : Value) (xs : List Int) (i : Nat) (w : World) (hr : Reads w 1 v xs.length (nums xs)) (hx : xs.length * 4 ≤ 140737488355328) (hlt : i < xs.length) :
    Calls Try.prog 87 #[v, .int .i64 (i : Int)] w fun e w' => (∃ a c, e = .returned (.slice a xs.length c) ∧ w'.ownsRow w.heap.size 28 1 (.slice a xs.length c) xs.length (nums (xs.drop i ++ xs.take i))) ∧ Below w.heap.size w w' := by
  obtain ⟨i0, hi, hz0, hz1, hz2⟩ := info_parts info28
  have HI := hide hi
  have Hz0 := hide hz0
  have Hz1 := hide hz1
  have Hz2 := hide hz2
  clear hi hz0 hz1 hz2
  have hR := hide hr
  obtain ⟨_, _, hm, h4⟩ := hr
  unfold maxLen at hm
  rcases h4 with ⟨rfl, hn⟩ | ⟨b, o, c, rfl, hnc, _, hc⟩
  · omega
  clear hc
  have hF := hide (hR.out.front (k := i) (by omega))
  have hB := hide (hR.out.back (k := i) (by omega))
  have hile : i ≤ xs.length := by omega
  have hci : ¬ c = i := by omega
  have hic : i ≤ c := by omega
  have C1 := hide (show (xs.length - i) + i ≤ maxLen by rw [Nat.sub_add_cancel hile]; exact hR.out.2.2.1)
  have C2 := hide (show ((xs.length - i) + i) * 4 ≤ 140737488355328 by omega)
  have hcl : ∀ w', Reads w' 1 (.slice (some ⟨b, o + i, none⟩) (xs.length - i) (c - i)) (xs.length - i) (nums (xs.drop i)) → Calls Try.prog 94 #[.slice (some ⟨b, o + i, none⟩) (xs.length - i) (c - i)] w' fun e w'' => (∃ a c, e = .returned (.slice a (xs.length - i) c) ∧ w''.ownsRow w'.heap.size 28 1 (.slice a (xs.length - i) c) (xs.length - i) (nums (xs.drop i))) ∧ Below w'.heap.size w' w'' := by
    intro w' h
    have := clone_u32 (.slice (some ⟨b, o + i, none⟩) (xs.length - i) (c - i)) (xs.drop i) w' (by rw [List.length_drop]; exact h) (by rw [List.length_drop]; omega)
    rw [List.length_drop] at this
    exact this
  have HCL := hide hcl
  clear hcl
  go_enter Try.func87, Try.ntmps87
  go_wp2_with fail
  go_region_law (first
    | (go_simp; go_at_call 94; refine (HCL.out _ hB.out.drew).mono ?_; rintro e w1 ⟨⟨a1, c1, rfl, hown⟩, hb1⟩)
    | (refine step_append_reads rfl _ _ 52 rfl w.heap.size 28 i0 (.int .u32 0) 1 4 Try.underlying52 HI.out Hz0.out Hz1.out Hz2.out rfl (by decide) _ (xs.length - i) _ rfl hown _ i (nums (xs.take i)) rfl (hF.out.drew.below hb1) C1.out C2.out hb1.size ?_; intro a' c' w2 hown2 hg))
  go_wp2_with fail
  go_ret
  rw [← nums_append, Nat.sub_add_cancel hile] at hown2
  exact ⟨⟨a', c', rfl, hown2⟩, (((Below.refl _ w).drew).trans hb1).grown hg hb1.size (owned_ge hown)⟩

theorem idx_mem {xs : List Int} {d : Int} (h : d ∈ xs) : ∃ k : Nat, k < xs.length ∧ idx xs d = k := by
  unfold idx
  cases hf : xs.findIdx? (fun x => d == x) with
  | none =>
    have := List.findIdx?_eq_none_iff.1 hf d h
    simp at this
  | some k => exact ⟨k, (List.findIdx?_eq_some_iff_getElem.1 hf).1, rfl⟩
theorem idx_or (xs : List Int) (d : Int) : idx xs d = -1 ∨ ∃ k : Nat, k < xs.length ∧ idx xs d = k := by
  unfold idx
  cases hf : xs.findIdx? (fun x => d == x) with
  | none => exact .inl rfl
  | some k => exact .inr ⟨k, (List.findIdx?_eq_some_iff_getElem.1 hf).1, rfl⟩
theorem foldl_min_mem : ∀ (l : List Int) (x : Int), l.foldl min x = x ∨ l.foldl min x ∈ l
  | [], x => .inl rfl
  | y :: l, x => by
    simp only [List.foldl_cons]
    rcases foldl_min_mem l (min x y) with h | h
    · rw [h]
      rcases Int.le_total x y with h2 | h2
      · left; omega
      · right; rw [Int.min_eq_right h2]; exact List.mem_cons_self
    · right; exact List.mem_cons_of_mem _ h
theorem minOf_mem {xs : List Int} (h : 0 < xs.length) : minOf xs ∈ xs := by
  match xs, h with
  | x :: l, _ =>
    rcases foldl_min_mem l x with h | h
    · show l.foldl min x ∈ x :: l
      rw [h]; exact List.mem_cons_self
    · exact List.mem_cons_of_mem _ h
/-- A turn, from a place on. -/
def rotAt (xs : List Int) (i : Nat) : List Int := xs.drop i ++ xs.take i
/-- A turn, the least one first. -/
def rot (xs : List Int) : List Int := rotAt xs (idx xs (minOf xs)).toNat
theorem rotAt_length (xs : List Int) (i : Nat) : (rotAt xs i).length = xs.length := by simp [rotAt]; omega
theorem rot_length (xs : List Int) : (rot xs).length = xs.length := rotAt_length xs _

set_option maxHeartbeats 400000 in
theorem normal_u32 (v : Value) (xs : List Int) (w : World) (hr : Reads w 1 v xs.length (nums xs)) (hx : xs.length * 4 ≤ 140737488355328) :
    Calls Try.prog 35 #[v] w fun e w' => (∃ a c, e = .returned (.slice a xs.length c) ∧ w'.ownsRow w.heap.size 28 1 (.slice a xs.length c) xs.length (nums (rot xs))) ∧ Below w.heap.size w w' := by
  have hR := hide hr
  have hv : ∃ a c, v = .slice a xs.length c := by
    obtain ⟨_, _, _, ⟨rfl, hn⟩ | ⟨b, o, c, rfl, _⟩⟩ := hr
    · exact ⟨none, 0, by rw [hn]⟩
    · exact ⟨_, _, rfl⟩
  obtain ⟨a, c, rfl⟩ := hv
  clear hr
  by_cases hn : xs.length = 0
  · obtain rfl : xs = [] := List.eq_nil_of_length_eq_zero hn
    clear hn
    go_enter Try.func35, Try.ntmps35
    go_wp2_with fail
    go_ret
    exact ⟨⟨none, 0, rfl, World.ownsRow_nil _ _ _ _⟩, Below.refl _ _⟩
  · have hp : 0 < xs.length := by omega
    have hne : ((xs.length : Int) == 0) = false := by rw [beq_eq_false_iff_ne]; omega
    obtain ⟨k, hk, hidx⟩ := idx_mem (minOf_mem hp)
    have HK := hide hidx
    have hrot : rot xs = xs.drop k ++ xs.take k := by rw [rot, hidx]; rfl
    have hi := index_u32 (.slice a xs.length c) xs (minOf xs) w hR.out
    rw [hidx] at hi
    have hI := hide hi
    clear hidx hi hn
    have HRot := hide hrot
    clear hrot
    go_enter Try.func35, Try.ntmps35
    go_wp2_with (first
      | (go_at_call 89; refine (min_u32 _ xs _ hR.out hp).mono ?_; rintro e w' ⟨rfl, rfl⟩)
      | (go_at_call 88; refine hI.out.mono ?_; rintro e w' ⟨rfl, rfl⟩)
      | (go_at_call 87; refine (from_u32 _ xs k _ hR.out hx hk).mono ?_; rintro e w' ⟨⟨a', c', rfl, hown⟩, hb⟩))
    go_ret
    exact ⟨⟨a', c', rfl, by rw [HRot.out]; exact hown⟩, hb⟩
theorem normal_len (v : Value) (n : Nat) (xs : List Int) (w : World) (hn : xs.length = n) (hr : Reads w 1 v n (nums xs)) (hx : n * 4 ≤ 140737488355328) :
    Calls Try.prog 35 #[v] w fun e w' => (∃ a c, e = .returned (.slice a n c) ∧ w'.ownsRow w.heap.size 28 1 (.slice a n c) n (nums (rot xs))) ∧ Below w.heap.size w w' := by
  subst hn
  exact normal_u32 v xs w hr hx
end Go.Proofs.Ytkkfnpbbigcpbaa
