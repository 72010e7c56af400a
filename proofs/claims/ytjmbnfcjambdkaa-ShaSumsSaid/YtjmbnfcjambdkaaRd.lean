/- A reader: what it takes off bytes. Plain. -/
import Derived.Test.YtjmbnfcjambdkaaWireOut2
namespace Go.Proofs.Ytjmbnfcjambdkaa
open Go.RowKit

structure Rd where
  err : Int
  s : List UInt8
def Rd.note (r : Rd) (e : Int) : Rd := if r.err = 0 then ⟨e, r.s⟩ else r
def Rd.raw (r : Rd) (n : Int) : List UInt8 × Rd := if r.err ≠ 0 then ([], r) else if n < 0 ∨ (r.s.length : Int) < n then ([], ⟨3, r.s⟩) else (r.s.take n.toNat, ⟨0, r.s.drop n.toNat⟩)
/-- The number that bytes are, the highest first. -/
def num (l : List UInt8) : Nat := l.foldl (fun a c => a * 256 + c.toNat) 0
def Rd.number (r : Rd) (k : Nat) : Nat × Rd := (num (r.raw k).1, (r.raw k).2)
def Rd.text (r : Rd) (most : Int) : List UInt8 × Rd := if max most 0 < ((r.number 4).1 : Int) then ([], (r.number 4).2.note 5) else (r.number 4).2.raw (r.number 4).1
def Rd.count (r : Rd) (most : Int) : Int × Rd := if max most 0 < ((r.number 4).1 : Int) then (0, (r.number 4).2.note 6) else ((r.number 4).1, (r.number 4).2)
def Rd.fin (r : Rd) : Int := if r.err = 0 then (if 0 < r.s.length then 4 else 0) else r.err
theorem num_snoc (l : List UInt8) (c : UInt8) : num (l ++ [c]) = num l * 256 + c.toNat := by simp [num]
theorem num_lt_from (l : List UInt8) : ∀ a : Nat, l.foldl (fun a c => a * 256 + c.toNat) a < (a + 1) * 256 ^ l.length := by
  induction l with
  | nil => intro a; simp
  | cons c l ih =>
    intro a
    have h := ih (a * 256 + c.toNat)
    have hc := c.toNat_lt
    have h2 : (a * 256 + c.toNat + 1) * 256 ^ l.length ≤ ((a + 1) * 256) * 256 ^ l.length := Nat.mul_le_mul_right _ (by omega)
    rw [List.foldl_cons, List.length_cons, Nat.pow_succ, Nat.mul_comm (256 ^ l.length) 256, ← Nat.mul_assoc]
    omega
theorem num_lt (l : List UInt8) : num l < 256 ^ l.length := by
  have := num_lt_from l 0
  simpa [num] using this
theorem num_be (k n : Nat) : num (be k n) = n % 256 ^ k := by
  induction k generalizing n with
  | zero => simp [be, num]; omega
  | succ k ih =>
    rw [be, num_snoc, ih, Nat.pow_succ]
    simp only [UInt8.toNat_ofNat']
    rw [Nat.mul_comm (256 ^ k) 256, Nat.mod_mul]
    have : n % 2 ^ 8 = n % 256 := rfl
    omega
theorem num_take_lt (l : List UInt8) (k m : Nat) (h : l.length ≤ m) : num (l.take k) < 256 ^ m :=
  Nat.lt_of_lt_of_le (num_lt _) (Nat.pow_le_pow_right (by omega) (by simp; omega))
theorem Rd.raw_length (r : Rd) (n : Int) : (r.raw n).1.length ≤ n.toNat := by
  unfold Rd.raw
  split
  · simp
  · split
    · simp
    · simp; omega
theorem Rd.raw_small (r : Rd) (n : Int) : (r.raw n).2.s.length ≤ r.s.length := by
  unfold Rd.raw
  split
  · simp
  · split
    · simp
    · simp
theorem Rd.raw_cases (r : Rd) (k : Nat) : (r.raw k).1.length = k ∨ (r.raw k).1 = [] := by
  unfold Rd.raw
  split
  · exact .inr rfl
  · split
    · exact .inr rfl
    · left; simp; omega
theorem Rd.number_lt (r : Rd) (k : Nat) : (r.number k).1 < 256 ^ k := by
  refine Nat.lt_of_lt_of_le (num_lt _) (Nat.pow_le_pow_right (by omega) ?_)
  have := r.raw_length k
  simpa using this
/-- What is read of what was laid. -/
theorem Rd.raw_app (a b : List UInt8) (n : Int) (h : n = a.length) : (Rd.mk 0 (a ++ b)).raw n = (a, ⟨0, b⟩) := by
  subst h
  simp only [Rd.raw, ne_eq, not_true_eq_false, if_false]
  rw [if_neg (by simp; omega)]
  simp
theorem Rd.number_app (k n : Nat) (b : List UInt8) : (Rd.mk 0 (be k n ++ b)).number k = (n % 256 ^ k, ⟨0, b⟩) := by
  rw [Rd.number, Rd.raw_app _ _ _ (by rw [be_length]), num_be]
theorem Rd.text_app (t b : List UInt8) (most : Int) (h : t.length < 4294967296) (hm : (t.length : Int) ≤ most) : (Rd.mk 0 (be 4 t.length ++ t ++ b)).text most = (t, ⟨0, b⟩) := by
  have h1 : (Rd.mk 0 (be 4 t.length ++ t ++ b)).number 4 = (t.length, ⟨0, t ++ b⟩) := by
    rw [List.append_assoc, Rd.number_app, Nat.mod_eq_of_lt (by omega)]
  rw [Rd.text, h1]
  simp only
  rw [if_neg (by omega), Rd.raw_app _ _ _ rfl]
theorem Rd.count_app (n : Nat) (b : List UInt8) (most : Int) (h : n < 4294967296) : (Rd.mk 0 (be 4 n ++ b)).count most = if max most 0 < (n : Int) then (0, ⟨6, b⟩) else ((n : Int), ⟨0, b⟩) := by
  rw [Rd.count, Rd.number_app, Nat.mod_eq_of_lt (by omega)]
  rfl
end Go.Proofs.Ytjmbnfcjambdkaa
