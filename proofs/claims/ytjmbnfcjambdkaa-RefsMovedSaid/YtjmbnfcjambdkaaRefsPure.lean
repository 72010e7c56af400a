/- Tables of refs, as lists: places, and what is put or taken. -/
import Derived.Test.YtjmbnfcjambdkaaShaLess
import Derived.Test.YtjmbnfcjambdkaaNib
namespace Go.Proofs.Ytjmbnfcjambdkaa
open Go.RowKit
abbrev RefT := List UInt8 × Dig
abbrev lessL (a b : List UInt8) : Bool := Op.bytesLess a b
theorem less_trans : ∀ a b c : List UInt8, lessL a b = true → lessL b c = true → lessL a c = true
  | _, [], _, h, _ => by simp [lessL, Op.bytesLess] at h
  | _, _ :: _, [], _, h => by simp [lessL, Op.bytesLess] at h
  | [], _ :: _, _ :: _, _, _ => by simp [lessL, Op.bytesLess]
  | x :: a, y :: b, z :: c, h1, h2 => by
    simp only [lessL, Op.bytesLess, Bool.or_eq_true, Bool.and_eq_true, decide_eq_true_eq, beq_iff_eq] at h1 h2 ⊢
    rcases h1 with h1 | ⟨h1, h1'⟩ <;> rcases h2 with h2 | ⟨h2, h2'⟩
    · exact .inl (UInt8.lt_trans h1 h2)
    · subst h2; exact .inl h1
    · subst h1; exact .inl h2
    · subst h1; subst h2; exact .inr ⟨rfl, less_trans a b c h1' h2'⟩
theorem less_irrefl (a : List UInt8) : lessL a a = false := less_self a
theorem less_total : ∀ a b : List UInt8, lessL a b = false → lessL b a = false → a = b
  | [], [], _, _ => rfl
  | [], _ :: _, h, _ => by simp [lessL, Op.bytesLess] at h
  | _ :: _, [], _, h => by simp [lessL, Op.bytesLess] at h
  | x :: a, y :: b, h1, h2 => by
    simp only [lessL, Op.bytesLess, Bool.or_eq_false_iff, decide_eq_false_iff_not, Bool.and_eq_false_iff] at h1 h2
    have hxy : x = y := UInt8.le_antisymm (UInt8.not_lt.1 h2.1) (UInt8.not_lt.1 h1.1)
    subst hxy
    have r1 : lessL a b = false := by rcases h1.2 with h | h; simp at h; exact h
    have r2 : lessL b a = false := by rcases h2.2 with h | h; simp at h; exact h
    rw [less_total a b r1 r2]
theorem compare_zero : ∀ a b : List UInt8, (Lib.compareBytes a b == 0) = (a == b)
  | [], [] => rfl
  | [], _ :: _ => by simp [Lib.compareBytes]
  | _ :: _, [] => by simp [Lib.compareBytes]
  | x :: a, y :: b => by
    have ih := compare_zero a b
    unfold Lib.compareBytes
    by_cases h : x < y
    · have : x ≠ y := fun e => by subst e; exact UInt8.lt_irrefl _ h
      simp [h, this]
    · by_cases h2 : y < x
      · have : x ≠ y := fun e => by subst e; exact UInt8.lt_irrefl _ h2
        simp [h, h2, this]
      · have : x = y := UInt8.le_antisymm (UInt8.not_lt.1 h2) (UInt8.not_lt.1 h)
        subst this
        simp only [h, if_false]
        rw [ih]; simp
theorem compare_range (a b : List UInt8) : -1 ≤ Lib.compareBytes a b ∧ Lib.compareBytes a b ≤ 1 := by
  induction a generalizing b with
  | nil => cases b <;> simp [Lib.compareBytes]
  | cons x a ih =>
    cases b with
    | nil => simp [Lib.compareBytes]
    | cons y b =>
      unfold Lib.compareBytes
      split
      · omega
      · split
        · omega
        · exact ih b
/-- Rising names. -/
def Rising (L : List RefT) : Prop := ∀ i j (hi : i < L.length) (hj : j < L.length), i < j → lessL L[i].1 L[j].1 = true
/-- How many names are less. -/
def lowI (L : List RefT) (n : List UInt8) : Nat := (L.takeWhile fun r => lessL r.1 n).length
theorem lowI_le (L : List RefT) (n : List UInt8) : lowI L n ≤ L.length := by
  unfold lowI; exact (List.takeWhile_sublist _).length_le
theorem lowI_lt (L : List RefT) (n : List UInt8) (k : Nat) (hk : k < lowI L n) (h : k < L.length) : lessL L[k].1 n = true := by
  induction L generalizing k with
  | nil => simp at h
  | cons r L ih =>
    unfold lowI at hk
    rw [List.takeWhile_cons] at hk
    split at hk
    · rename_i hr
      cases k with
      | zero => exact hr
      | succ k => exact ih k (by simpa [lowI] using hk) (by simpa using h)
    · simp at hk
theorem lowI_at (L : List RefT) (n : List UInt8) (h : lowI L n < L.length) : lessL L[lowI L n].1 n = false := by
  induction L with
  | nil => simp at h
  | cons r L ih =>
    by_cases hr : lessL r.1 n = true
    · have e : lowI (r :: L) n = lowI L n + 1 := by simp [lowI, List.takeWhile_cons, hr]
      have h2 : lowI L n < L.length := by rw [e] at h; simpa using h
      have := ih h2
      simp only [e, List.getElem_cons_succ]
      exact this
    · have e : lowI (r :: L) n = 0 := by simp [lowI, List.takeWhile_cons, hr]
      simp only [e, List.getElem_cons_zero]
      simpa using hr
theorem lowI_ge (L : List RefT) (n : List UInt8) (hL : Rising L) (k : Nat) (hk : lowI L n ≤ k) (h : k < L.length) : lessL L[k].1 n = false := by
  have h0 : lowI L n < L.length := by omega
  have h1 := lowI_at L n h0
  by_cases e : lowI L n = k
  · simp only [e] at h1; exact h1
  · have h2 := hL (lowI L n) k h0 h (by omega)
    cases h3 : lessL L[k].1 n with
    | false => rfl
    | true => rw [less_trans _ _ _ h2 h3] at h1; cases h1
theorem lowI_eq (L : List RefT) (n : List UInt8) (i : Nat) (hi : i ≤ L.length) (h1 : ∀ k (h : k < L.length), k < i → lessL L[k].1 n = true) (h2 : ∀ k (h : k < L.length), i ≤ k → lessL L[k].1 n = false) : i = lowI L n := by
  have hl := lowI_le L n
  rcases Nat.lt_trichotomy i (lowI L n) with h | h | h
  · have a := lowI_lt L n i h (by omega)
    rw [h2 i (by omega) (Nat.le_refl _)] at a; cases a
  · exact h
  · have a := lowI_at L n (by omega)
    rw [h1 (lowI L n) (by omega) h] at a; cases a
/-- Is the name there? -/
def foundI (L : List RefT) (n : List UInt8) : Bool := match L[lowI L n]? with
  | some r => r.1 == n
  | none => false
def atI (L : List RefT) (n : List UInt8) : Dig := match L[lowI L n]? with
  | some r => if r.1 == n then r.2 else dig0
  | none => dig0
theorem found_lt {L : List RefT} {n : List UInt8} (h : foundI L n = true) : lowI L n < L.length := by
  unfold foundI at h
  split at h
  · rename_i r hr; exact (List.getElem?_eq_some_iff.1 hr).1
  · cases h
theorem found_name {L : List RefT} {n : List UInt8} (h : foundI L n = true) (hl : lowI L n < L.length) : L[lowI L n].1 = n := by
  unfold foundI at h
  rw [List.getElem?_eq_getElem hl] at h
  simpa using h
theorem found_eq {L : List RefT} {n : List UInt8} (hl : lowI L n < L.length) : foundI L n = (L[lowI L n].1 == n) := by
  unfold foundI; rw [List.getElem?_eq_getElem hl]
theorem atI_found {L : List RefT} {n : List UInt8} (h : foundI L n = true) (hl : lowI L n < L.length) : atI L n = L[lowI L n].2 := by
  have := found_name h hl
  unfold atI
  rw [List.getElem?_eq_getElem hl]
  simp [this]
theorem atI_none {L : List RefT} {n : List UInt8} (h : foundI L n = false) : atI L n = dig0 := by
  unfold foundI at h
  unfold atI
  split
  · rename_i r hr
    rw [hr] at h
    simp only [h]; rfl
  · rfl
/-- A name more, in its place. -/
def insI (L : List RefT) (n : List UInt8) (d : Dig) : List RefT := L.take (lowI L n) ++ [(n, d)] ++ L.drop (lowI L n)
def setI (L : List RefT) (n : List UInt8) (d : Dig) : List RefT := L.take (lowI L n) ++ [(n, d)] ++ L.drop (lowI L n + 1)
def delI (L : List RefT) (n : List UInt8) : List RefT := L.take (lowI L n) ++ L.drop (lowI L n + 1)
end Go.Proofs.Ytjmbnfcjambdkaa
