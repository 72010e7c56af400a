/- ShaParts: the numbers. -/
import Derived.Test.YtjmbnfcjambdkaaShaAwake
import Derived.Test.YtjmbnfcjambdkaaInv
namespace Go.Proofs.Ytjmbnfcjambdkaa.shaPartsP
open Go.RowKit
theorem rest_nat (a : Int) (n : Nat) (h : n ≤ 100000) : ∃ I : Nat, wrap64 ((IntKind.u64.wrap a).tmod ((n : Int) + 1)) = (I : Int) ∧ I ≤ n := by
  have h1 : 0 ≤ IntKind.u64.wrap a := by
    simp only [IntKind.wrap, IntKind.signed, IntKind.bits]
    first | exact Int.emod_nonneg _ (by decide) | (simp; omega)
  have h2 : 0 ≤ (IntKind.u64.wrap a).tmod ((n : Int) + 1) := Int.tmod_nonneg _ h1
  have h3 : (IntKind.u64.wrap a).tmod ((n : Int) + 1) < (n : Int) + 1 := Int.tmod_lt_of_pos _ (by omega)
  refine ⟨((IntKind.u64.wrap a).tmod ((n : Int) + 1)).toNat, ?_, by omega⟩
  generalize (IntKind.u64.wrap a).tmod ((n : Int) + 1) = x at *
  have : wrap64 x = x := by simp only [wrap64]; omega
  rw [this]
  omega
theorem facts (n I J K : Nat) (h : n ≤ 2000) (hI : I ≤ n) (hJ : J ≤ n - I) (hK : K = I + J) : wrap64 ((n : Int) - I) = (n : Int) - I ∧ wrap64 ((n : Int) - I + 1) = (n : Int) - I + 1 ∧ IntKind.u64.wrap ((n : Int) - I + 1) = (n : Int) - I + 1 ∧ wrap64 ((I : Int) + J) = (K : Int) ∧ ¬ ((n : Int) - I + 1 = 0) ∧ ¬ ((n : Int) + 1 = 0) := by
  refine ⟨by simp only [wrap64]; omega, by simp only [wrap64]; omega, ?_, by simp only [wrap64]; omega, by omega, by omega⟩
  simp [IntKind.wrap, IntKind.signed, IntKind.bits]
  omega
end Go.Proofs.Ytjmbnfcjambdkaa.shaPartsP
