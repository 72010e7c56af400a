/- Rows of bools as runs: plain. -/
import Derived.Test.YtkkfnpbbigcpbaaLib
namespace Go.Proofs.Ytkkfnpbbigcpbaa
open Go.RowKit

/-- How many stand ahead that are true. -/
def lead : List Bool → Nat
  | true :: l => lead l + 1
  | _ => 0
theorem lead_le : ∀ l : List Bool, lead l ≤ l.length
  | [] => Nat.le_refl _
  | true :: l => by simp only [lead, List.length_cons]; have := lead_le l; omega
  | false :: l => by simp [lead]
theorem lead_true : ∀ (l : List Bool) (j : Nat), j < lead l → l[j]? = some true
  | true :: l, 0, _ => rfl
  | true :: l, j + 1, h => by
    rw [List.getElem?_cons_succ]; exact lead_true l j (by simp only [lead] at h; omega)
  | [], j, h => by simp [lead] at h
  | false :: l, j, h => by simp [lead] at h
theorem lead_stop : ∀ l : List Bool, lead l < l.length → l[lead l]? = some false
  | [], h => by simp at h
  | true :: l, h => by
    simp only [lead, List.getElem?_cons_succ]
    exact lead_stop l (by simp only [lead, List.length_cons] at h; omega)
  | false :: l, _ => rfl
theorem lead_eq (l : List Bool) (m : Nat) (h1 : ∀ j, j < m → l[j]? = some true) (h2 : m = l.length ∨ l[m]? = some false) : lead l = m := by
  have a := lead_le l
  by_cases h : lead l < m
  · have h3 := h1 _ h
    have h4 : m ≤ l.length := by
      rcases h2 with h2 | h2
      · omega
      · have := (List.getElem?_eq_some_iff.1 h2).1; omega
    rw [lead_stop l (by omega)] at h3
    cases h3
  · by_cases h5 : m < lead l
    · have h6 := lead_true l m h5
      rcases h2 with h2 | h2
      · omega
      · rw [h2] at h6; cases h6
    · omega
theorem lead_count : ∀ l : List Bool, l.count true = lead l + (l.drop (lead l + 1)).count true
  | [] => rfl
  | true :: l => by
    have := lead_count l
    simp only [lead, List.count_cons, List.drop_succ_cons]
    simp; omega
  | false :: l => by simp [lead, List.count_cons]
/-- How long the run is that begins at a place. -/
def runLen (fs : List Bool) (i : Nat) : Nat := lead (fs.drop i)
theorem runLen_le (fs : List Bool) (i : Nat) (h : i ≤ fs.length) : i + runLen fs i ≤ fs.length := by
  have := lead_le (fs.drop i)
  rw [List.length_drop] at this
  unfold runLen; omega
theorem runLen_true (fs : List Bool) (i j : Nat) (h : j < runLen fs i) : fs[i + j]? = some true := by
  have := lead_true (fs.drop i) j h
  rwa [List.getElem?_drop] at this
theorem runLen_stop (fs : List Bool) (i : Nat) (h : i + runLen fs i < fs.length) : fs[i + runLen fs i]? = some false := by
  have := lead_stop (fs.drop i) (by rw [List.length_drop]; unfold runLen at h; omega)
  rwa [List.getElem?_drop] at this
theorem runLen_eq (fs : List Bool) (i m : Nat) (h1 : ∀ j, j < m → fs[i + j]? = some true) (h2 : i + m = fs.length ∨ fs[i + m]? = some false) : runLen fs i = m := by
  refine lead_eq _ _ (fun j hj => by rw [List.getElem?_drop]; exact h1 j hj) ?_
  rcases h2 with h2 | h2
  · left; rw [List.length_drop]; omega
  · right; rw [List.getElem?_drop]; exact h2
def runsFrom (fs : List Bool) : Nat → Nat → List (Nat × Nat)
  | 0, _ => []
  | f + 1, i => if i < fs.length then (if runLen fs i = 0 then [] else [(i, runLen fs i)]) ++ runsFrom fs f (i + runLen fs i + 1) else []
theorem runsFrom_fuel (fs : List Bool) : ∀ (f g i : Nat), fs.length < f + i → fs.length < g + i → runsFrom fs f i = runsFrom fs g i
  | 0, 0, _, _, _ => rfl
  | 0, g + 1, i, h, _ => by rw [runsFrom, runsFrom, if_neg (by omega)]
  | f + 1, 0, i, _, h => by rw [runsFrom, runsFrom, if_neg (by omega)]
  | f + 1, g + 1, i, h1, h2 => by
    rw [runsFrom, runsFrom]
    by_cases h : i < fs.length
    · rw [if_pos h, if_pos h, runsFrom_fuel fs f g (i + runLen fs i + 1) (by omega) (by omega)]
    · rw [if_neg h, if_neg h]
/-- The runs from a place on. -/
def runsAt (fs : List Bool) (i : Nat) : List (Nat × Nat) := runsFrom fs (fs.length + 1) i
theorem runsAt_end (fs : List Bool) (i : Nat) (h : fs.length ≤ i) : runsAt fs i = [] := by rw [runsAt, runsFrom, if_neg (by omega)]
theorem runsAt_step (fs : List Bool) (i : Nat) (h : i < fs.length) : runsAt fs i = (if runLen fs i = 0 then [] else [(i, runLen fs i)]) ++ runsAt fs (i + runLen fs i + 1) := by
  rw [runsAt, runsFrom, if_pos h, runsAt]
  congr 1
  exact runsFrom_fuel fs _ _ _ (by omega) (by omega)
/-- What a run is. -/
def IsRun (fs : List Bool) (r : Nat × Nat) : Prop := 1 ≤ r.2 ∧ r.1 + r.2 ≤ fs.length ∧ (∀ j, j < r.2 → fs[r.1 + j]? = some true) ∧ (r.1 = 0 ∨ fs[r.1 - 1]? = some false)
theorem runsAt_isRun (fs : List Bool) : ∀ (m i : Nat), fs.length < m + i → (i = 0 ∨ fs.length < i ∨ fs[i - 1]? = some false) → ∀ r ∈ runsAt fs i, IsRun fs r
  | 0, i, h, _, r, hr => by rw [runsAt_end fs i (by omega)] at hr; cases hr
  | m + 1, i, h, hi, r, hr => by
    by_cases hlt : i < fs.length
    · rw [runsAt_step fs i hlt, List.mem_append] at hr
      have hle := runLen_le fs i (by omega)
      rcases hr with hr | hr
      · by_cases h0 : runLen fs i = 0
        · rw [if_pos h0] at hr; cases hr
        · rw [if_neg h0, List.mem_singleton] at hr
          subst hr
          refine ⟨by show 1 ≤ runLen fs i; omega, hle, fun j hj => runLen_true fs i j hj, ?_⟩
          rcases hi with hi | hi | hi
          · exact .inl hi
          · omega
          · exact .inr hi
      · refine runsAt_isRun fs m _ (by omega) ?_ r hr
        right
        by_cases hs : i + runLen fs i < fs.length
        · right
          have := runLen_stop fs i hs
          simpa using this
        · left; omega
    · rw [runsAt_end fs i (by omega)] at hr; cases hr
theorem runs_isRun (fs : List Bool) : ∀ r ∈ runsAt fs 0, IsRun fs r := runsAt_isRun fs (fs.length + 1) 0 (by omega) (.inl rfl)
theorem runsAt_sum (fs : List Bool) : ∀ (m i : Nat), fs.length < m + i → ((runsAt fs i).map (·.2)).sum = (fs.drop i).count true
  | 0, i, h => by rw [runsAt_end fs i (by omega), List.drop_of_length_le (by omega)]; rfl
  | m + 1, i, h => by
    by_cases hlt : i < fs.length
    · have ih := runsAt_sum fs m (i + runLen fs i + 1) (by omega)
      rw [runsAt_step fs i hlt, List.map_append, List.sum_append, ih, lead_count (fs.drop i), List.drop_drop]
      unfold runLen
      by_cases h0 : lead (fs.drop i) = 0
      · rw [if_pos h0, h0]; simp
      · rw [if_neg h0]; simp [Nat.add_assoc]
    · rw [runsAt_end fs i (by omega), List.drop_of_length_le (by omega)]; rfl
theorem runs_sum (fs : List Bool) : ((runsAt fs 0).map (·.2)).sum = fs.count true := by
  have := runsAt_sum fs (fs.length + 1) 0 (by omega)
  simpa using this
/-- Behind a part of the runs less than all came. -/
theorem sum_pre (l m : List (Nat × Nat)) (h : l <+: m) : (l.map (·.2)).sum ≤ (m.map (·.2)).sum := by
  obtain ⟨k, rfl⟩ := h
  rw [List.map_append, List.sum_append]; omega
theorem len_le_sum : ∀ l : List (Nat × Nat), (∀ r ∈ l, 1 ≤ r.2) → l.length ≤ (l.map (·.2)).sum
  | [], _ => Nat.le_refl _
  | r :: l, h => by
    have h1 := h r (by simp)
    have h2 := len_le_sum l (fun x hx => h x (by simp [hx]))
    simp only [List.length_cons, List.map_cons, List.sum_cons]; omega
theorem runs_len (fs : List Bool) : (runsAt fs 0).length ≤ fs.length := by
  have h1 := len_le_sum (runsAt fs 0) (fun r hr => (runs_isRun fs r hr).1)
  have h2 := runs_sum fs
  have h3 : fs.count true ≤ fs.length := List.count_le_length
  omega
theorem runLen_next (fs : List Bool) (k j : Nat) (hj : j ≤ runLen fs k) (h : fs[k + j]? = some true) : j + 1 ≤ runLen fs k := by
  by_cases he : j = runLen fs k
  · have := runLen_stop fs k (by rw [← he]; exact (List.getElem?_eq_some_iff.1 h).1)
    rw [← he, h] at this
    cases this
  · omega
theorem runLen_done (fs : List Bool) (k j : Nat) (hj : j ≤ runLen fs k) (h : fs[k + j]? = some false) : j = runLen fs k := by
  by_cases he : j < runLen fs k
  · have := runLen_true fs k j he
    rw [h] at this
    cases this
  · omega
end Go.Proofs.Ytkkfnpbbigcpbaa
