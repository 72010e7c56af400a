/- Rows of uint32. -/
import Derived.Test.YtjmbnfcjambdkaaSl
import Derived.BigQuiet
import Derived.Deep.DeepCutAuto
import Derived.Deep.CutBlock
import Derived.Deep.QuietTactic
namespace Go.Proofs.Ytjmbnfcjambdkaa
open Go.RowKit

/-- A row of uint32 as cells. -/
def nums (xs : List Int) : List Value := xs.map (Value.int .u32)
theorem nums_length (xs : List Int) : (nums xs).length = xs.length := by simp [nums]
theorem nums_get (xs : List Int) (k : Nat) (h : k < xs.length) : (nums xs)[k]? = some (.int .u32 xs[k]) := by simp [nums, List.getElem?_eq_getElem h]
theorem nums_one (xs : List Int) : ∀ u ∈ nums xs, u.oneCell' = true := by
  intro u hu
  obtain ⟨x, _, rfl⟩ := List.mem_map.1 hu
  rfl
theorem nums_append (a b : List Int) : nums (a ++ b) = nums a ++ nums b := by simp [nums]
/-- The first place of a number; -1. -/
def idx (xs : List Int) (d : Int) : Int := match xs.findIdx? (fun x => d == x) with | some i => (i : Int) | none => -1
theorem idx_at {xs : List Int} {d : Int} {k : Nat} (hk : k < xs.length) (he : (d == xs[k]) = true) (hb : ∀ j (h : j < k), (d == xs[j]) = false) : idx xs d = k := by
  have : xs.findIdx? (fun x => d == x) = some k := List.findIdx?_eq_some_iff_getElem.2 ⟨hk, he, fun j hj => by rw [hb j hj]; simp⟩
  simp [idx, this]
theorem idx_none {xs : List Int} {d : Int} (hb : ∀ j (h : j < xs.length), (d == xs[j]) = false) : idx xs d = -1 := by
  have : xs.findIdx? (fun x => d == x) = none := List.findIdx?_eq_none_iff.2 fun x hx => by
    obtain ⟨j, hj, rfl⟩ := List.mem_iff_getElem.1 hx
    exact hb j hj
  simp [idx, this]

end Go.Proofs.Ytjmbnfcjambdkaa
