/- SpaceBack: what is taken is apart; given back in any order all is free. Plain. -/
import Derived.Test.YtkkfnpbbigcpbaaSpFirst
namespace Go.Proofs.Ytkkfnpbbigcpbaa
open Go.RowKit
/-- Of N sectors all but those of some runs, which are apart, are free. -/
def Taken (N : Nat) (fs : List Bool) (rs : List (Nat × Nat)) : Prop :=
  fs.length = N ∧ (∀ r ∈ rs, 1 ≤ r.2 ∧ r.1 + r.2 ≤ N) ∧ rs.Pairwise (fun a b => a.1 + a.2 ≤ b.1 ∨ b.1 + b.2 ≤ a.1) ∧ (∀ i, i < N → (fs[i]? = some true ↔ ∀ r ∈ rs, i < r.1 ∨ r.1 + r.2 ≤ i)) ∧ fs.count true + (rs.map (·.2)).sum = N
theorem Taken.start (N : Nat) : Taken N (List.replicate N true) [] := by
  refine ⟨by simp, by simp, List.Pairwise.nil, fun i hi => ?_, by simp⟩
  simp [List.getElem?_replicate, hi]
theorem count_setRun (fs : List Bool) (p n : Nat) (h : p + n ≤ fs.length) (c : Bool) (hall : ∀ j, j < n → fs[p + j]? = some (!c)) :
    fs.count (!c) = (setRun fs p n c).count (!c) + n := by
  have e : fs = fs.take p ++ (List.replicate n (!c) ++ fs.drop (p + n)) := by
    apply List.ext_getElem?
    intro i
    by_cases h1 : i < p
    · rw [List.getElem?_append_left (by rw [List.length_take]; omega), List.getElem?_take, if_pos h1]
    · rw [List.getElem?_append_right (by rw [List.length_take]; omega), List.length_take, Nat.min_eq_left (by omega)]
      by_cases h2 : i < p + n
      · rw [List.getElem?_append_left (by rw [List.length_replicate]; omega), List.getElem?_replicate, if_pos (by omega)]
        have := hall (i - p) (by omega)
        rwa [show p + (i - p) = i by omega] at this
      · rw [List.getElem?_append_right (by rw [List.length_replicate]; omega), List.length_replicate, List.getElem?_drop]
        congr 1; omega
  have h1 : fs.count (!c) = (fs.take p).count (!c) + (n + (fs.drop (p + n)).count (!c)) := by
    conv => lhs; rw [e]
    rw [List.count_append, List.count_append, List.count_replicate_self]
  have h2 : (setRun fs p n c).count (!c) = (fs.take p).count (!c) + (fs.drop (p + n)).count (!c) := by
    unfold setRun
    simp only [List.count_append]
    rw [List.count_replicate]
    cases c <;> simp
  omega
theorem Taken.take {N K : Nat} {fs : List Bool} {rs : List (Nat × Nat)} {r : Nat × Nat} (h : Taken N fs rs) (hK : 1 ≤ K) (hf : (runsAt fs 0).find? (fun r => decide (K ≤ r.2)) = some r) :
    Taken N (setRun fs r.1 K false) (rs ++ [(r.1, K)]) ∧ ∀ q ∈ rs, ¬ (r.1 < q.1 + q.2 ∧ q.1 < r.1 + K) := by
  obtain ⟨h1, h2, h3, h4, h5⟩ := h
  have hm := List.mem_of_find?_eq_some hf
  have hp : K ≤ r.2 := by simpa using List.find?_some hf
  obtain ⟨g1, g2, g3, _⟩ := runs_isRun fs r hm
  have hap : ∀ q ∈ rs, ¬ (r.1 < q.1 + q.2 ∧ q.1 < r.1 + K) := by
    intro q hq ⟨k1, k2⟩
    have ⟨q1, q2⟩ := h2 q hq
    by_cases hc : r.1 ≤ q.1
    · have e := g3 (q.1 - r.1) (by omega)
      rw [show r.1 + (q.1 - r.1) = q.1 by omega] at e
      have := (h4 q.1 (by omega)).1 e q hq
      omega
    · have e := g3 0 (by omega)
      have := (h4 r.1 (by omega)).1 e q hq
      omega
  refine ⟨⟨by rw [setRun_length _ _ _ _ (by omega), h1], ?_, ?_, ?_, ?_⟩, hap⟩
  · intro q hq
    rcases List.mem_append.1 hq with hq | hq
    · exact h2 q hq
    · rw [List.mem_singleton.1 hq]; exact ⟨hK, by show r.1 + K ≤ N; omega⟩
  · rw [List.pairwise_append]
    refine ⟨h3, List.pairwise_singleton _ _, fun a ha b hb => ?_⟩
    rw [List.mem_singleton.1 hb]
    have := hap a ha
    show a.1 + a.2 ≤ r.1 ∨ r.1 + K ≤ a.1
    omega
  · intro i hi
    rw [setRun_get _ _ _ _ (by omega)]
    by_cases hc : r.1 ≤ i ∧ i < r.1 + K
    · rw [if_pos hc]
      simp only [Option.some.injEq, Bool.false_eq_true, false_iff]
      intro hx
      have := hx (r.1, K) (by simp)
      simp only at this
      omega
    · rw [if_neg hc, h4 i hi]
      constructor
      · intro hx q hq
        rcases List.mem_append.1 hq with hq | hq
        · exact hx q hq
        · rw [List.mem_singleton.1 hq]; show i < r.1 ∨ r.1 + K ≤ i; omega
      · intro hx q hq
        exact hx q (List.mem_append.2 (.inl hq))
  · have := count_setRun fs r.1 K (by omega) false (fun j hj => g3 j (by omega))
    simp only [Bool.not_false] at this
    rw [List.map_append, List.sum_append]
    simp only [List.map_cons, List.map_nil, List.sum_cons, List.sum_nil]
    omega
theorem Taken.perm {N : Nat} {fs : List Bool} {rs qs : List (Nat × Nat)} (h : Taken N fs rs) (hp : qs.Perm rs) : Taken N fs qs := by
  obtain ⟨h1, h2, h3, h4, h5⟩ := h
  refine ⟨h1, fun r hr => h2 r (hp.mem_iff.1 hr), (hp.pairwise_iff (fun {a b} h => by omega)).2 h3, fun i hi => ?_, ?_⟩
  · rw [h4 i hi]
    exact ⟨fun hx r hr => hx r (hp.mem_iff.1 hr), fun hx r hr => hx r (hp.mem_iff.2 hr)⟩
  · rw [(hp.map (·.2)).sum_nat]; exact h5
theorem Taken.give {N : Nat} {fs : List Bool} {r : Nat × Nat} {rs : List (Nat × Nat)} (f : Int) (h : Taken N fs (r :: rs)) :
    runTo f true fs (f + r.1) r.2 = .ok (setRun fs r.1 r.2 true) ∧ Taken N (setRun fs r.1 r.2 true) rs := by
  obtain ⟨h1, h2, h3, h4, h5⟩ := h
  obtain ⟨r1, r2⟩ := h2 r (by simp)
  rw [List.pairwise_cons] at h3
  have hoff : ∀ j, j < r.2 → fs[r.1 + j]? = some (!true) := by
    intro j hj
    have hi : r.1 + j < fs.length := by omega
    have hs := List.getElem?_eq_getElem hi
    cases hb : fs[r.1 + j] with
    | false => rw [hs, hb]; rfl
    | true =>
      rw [hb] at hs
      have := (h4 _ (by omega)).1 hs r (by simp)
      omega
  refine ⟨runTo_ok f true fs r.1 r.2 (by omega) hoff r.2 (Nat.le_refl _), by rw [setRun_length _ _ _ _ (by omega), h1], fun q hq => h2 q (by simp [hq]), h3.2, fun i hi => ?_, ?_⟩
  · rw [setRun_get _ _ _ _ (by omega)]
    by_cases hc : r.1 ≤ i ∧ i < r.1 + r.2
    · rw [if_pos hc]
      simp only [true_iff]
      intro q hq
      have := h3.1 q hq
      omega
    · rw [if_neg hc, h4 i hi]
      constructor
      · intro hx q hq
        exact hx q (by simp [hq])
      · intro hx q hq
        rcases List.mem_cons.1 hq with hq | hq
        · subst hq; omega
        · exact hx q hq
  · have a := count_setRun fs r.1 r.2 (by omega) true hoff
    have b : ∀ l : List Bool, l.count true + l.count false = l.length := by
      intro l
      induction l with
      | nil => rfl
      | cons x l ih => cases x <;> simp <;> omega
    have c := b fs
    have d := b (setRun fs r.1 r.2 true)
    rw [setRun_length _ _ _ _ (by omega)] at d
    simp only [Bool.not_true] at a
    simp only [List.map_cons, List.sum_cons] at h5
    omega
theorem Taken.none {N : Nat} {fs : List Bool} (h : Taken N fs []) : fs = List.replicate N true := by
  obtain ⟨h1, _, _, h4, _⟩ := h
  apply List.ext_getElem?
  intro i
  by_cases hi : i < N
  · rw [(h4 i hi).2 (by simp), List.getElem?_replicate, if_pos hi]
  · rw [List.getElem?_eq_none (by omega), List.getElem?_eq_none (by simp; omega)]
/-- Runs as they are told. -/
def told (f : Int) (qs : List (Nat × Nat)) : List (Int × Int) := qs.map fun r => (f + (r.1 : Int), (r.2 : Int))
theorem told_length (f : Int) (qs : List (Nat × Nat)) : (told f qs).length = qs.length := by simp [told]
theorem Taken.back {N : Nat} {fs : List Bool} {qs : List (Nat × Nat)} (f : Int) (h : Taken N fs qs) : turnTo f true fs (told f qs) (told f qs).length = .ok (List.replicate N true) := by
  have key : ∀ k, k ≤ qs.length → ∃ g, turnTo f true fs (told f qs) k = .ok g ∧ Taken N g (qs.drop k) := by
    intro k
    induction k with
    | zero => intro _; exact ⟨fs, rfl, h⟩
    | succ k ih =>
      intro hk
      obtain ⟨g, hg, ht⟩ := ih (by omega)
      rw [List.drop_eq_getElem_cons (by omega : k < qs.length)] at ht
      obtain ⟨a, b⟩ := ht.give f
      refine ⟨_, ?_, b⟩
      rw [turnTo, hg]
      have hq : (told f qs).getD k (0, 0) = (f + (qs[k].1 : Int), (qs[k].2 : Int)) := by
        rw [List.getD_eq_getElem?_getD, told, List.getElem?_map, List.getElem?_eq_getElem (by omega : k < qs.length)]; rfl
      have h2 := (ht.2.1 qs[k] List.mem_cons_self).1
      simp only [hq]
      rw [if_neg (by omega), Int.toNat_natCast]
      exact a
  obtain ⟨g, hg, ht⟩ := key qs.length (Nat.le_refl _)
  rw [List.drop_length] at ht
  rw [told_length, hg, ht.none]
/-- What is free can't be given. -/
theorem give_there (N : Nat) (f : Int) (r : Nat × Nat) (h1 : 1 ≤ r.2) (h2 : r.1 + r.2 ≤ N) : turnTo f true (List.replicate N true) [(f + (r.1 : Int), (r.2 : Int))] 1 = .error 17 := by
  rw [turnTo, turnTo]
  simp only [List.getD_cons_zero]
  rw [if_neg (by omega), Int.toNat_natCast]
  refine runTo_err (k := 1) ?_ _ h1
  rw [runTo, runTo]
  simp only
  unfold stepOne
  rw [if_neg (by rw [List.length_replicate]; omega)]
  have : (List.replicate N true).getD (f + (r.1 : Int) + ((0 : Nat) : Int) - f).toNat false = true := by
    rw [List.getD_eq_getElem?_getD, List.getElem?_replicate, if_pos (by omega)]; rfl
  rw [this, if_pos rfl]
theorem sum_take_succ (rs : List (Nat × Nat)) (j : Nat) (h : j < rs.length) : ((rs.take (j + 1)).map (·.2)).sum = ((rs.take j).map (·.2)).sum + rs[j].2 := by
  rw [List.take_succ_eq_append_getElem h, List.map_append, List.sum_append]; simp
theorem sum_take_le (rs : List (Nat × Nat)) (j : Nat) : ((rs.take j).map (·.2)).sum ≤ (rs.map (·.2)).sum := by
  conv => rhs; rw [← List.take_append_drop j rs]
  rw [List.map_append, List.sum_append]; omega
theorem told_set (f : Int) (rs : List (Nat × Nat)) (i : Nat) (r : Nat × Nat) : told f (rs.set i r) = (told f rs).set i (f + (r.1 : Int), (r.2 : Int)) := by simp [told, List.map_set]
theorem rcells_set : ∀ (l : List (Int × Int)) (i : Nat) (r : Int × Int), i < l.length → rcells (l.set i r) = ((rcells l).set (i * 2) (.int .i64 r.1)).set (i * 2 + 1) (.int .i64 r.2)
  | x :: l, 0, r, _ => rfl
  | x :: l, i + 1, r, h => by
    have ih := rcells_set l i r (by simpa using h)
    show .int .i64 x.1 :: .int .i64 x.2 :: rcells (l.set i r) = _
    rw [ih, show (i + 1) * 2 = i * 2 + 2 by omega, show i * 2 + 2 + 1 = i * 2 + 1 + 2 by omega]
    rfl
end Go.Proofs.Ytkkfnpbbigcpbaa
