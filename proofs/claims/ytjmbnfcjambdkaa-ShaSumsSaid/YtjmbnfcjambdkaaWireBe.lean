/- Numbers as bytes, the highest first: plain. -/
import Derived.Test.YtjmbnfcjambdkaaTail
namespace Go.Proofs.Ytjmbnfcjambdkaa
open Go.RowKit

/-- A number in k bytes, the highest first. -/
def be : Nat → Nat → List UInt8
  | 0, _ => []
  | k + 1, n => be k (n / 256) ++ [UInt8.ofNat n]
theorem be_length (k n : Nat) : (be k n).length = k := by
  induction k generalizing n with
  | zero => rfl
  | succ k ih => simp [be, ih]
theorem be_split (j i n : Nat) : be (j + i) n = be j (n / 256 ^ i) ++ be i n := by
  induction i generalizing n with
  | zero => simp [be]
  | succ i ih =>
    show be (j + i) (n / 256) ++ [UInt8.ofNat n] = _
    rw [ih, List.append_assoc, Nat.div_div_eq_div_mul, Nat.mul_comm, ← Nat.pow_succ]
    rfl
theorem be_step (i n : Nat) : be (i + 1) n = UInt8.ofNat (n / 256 ^ i) :: be i n := by
  rw [Nat.add_comm, be_split]; rfl
theorem be_get (k n j : Nat) (h : j < k) : (be k n)[j]? = some (UInt8.ofNat (n / 256 ^ (k - 1 - j))) := by
  obtain ⟨m, rfl⟩ : ∃ m, k = m + 1 := ⟨k - 1, by omega⟩
  induction m generalizing j with
  | zero => obtain rfl : j = 0 := by omega
            simp [be]
  | succ m ih =>
    rw [be_step]
    cases j with
    | zero => simp
    | succ j => simpa using ih j (by omega)
/-- Bytes as cells. -/
def u8s (l : List UInt8) : List Value := l.map fun c => .int .u8 (c.toNat : Int)
/-- The cells while the last i of k bytes are laid. -/
def laidBe (k n i : Nat) : List UInt8 := List.replicate (k - i) 0 ++ be i n
theorem laidBe_full (k n : Nat) : laidBe k n k = be k n := by simp [laidBe]
theorem laidBe_set (k n i : Nat) (h : i < k) : (laidBe k n i).set (k - 1 - i) (UInt8.ofNat (n / 256 ^ i)) = laidBe k n (i + 1) := by
  have h1 : k - i = (k - 1 - i) + 1 := by omega
  have h2 : k - (i + 1) = k - 1 - i := by omega
  unfold laidBe
  rw [h1, h2, List.replicate_succ', List.append_assoc, be_step, List.set_append_right _ _ (by simp)]
  simp
end Go.Proofs.Ytjmbnfcjambdkaa
