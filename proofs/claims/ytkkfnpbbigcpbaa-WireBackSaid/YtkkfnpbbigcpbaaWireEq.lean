/- slices.Equal at rows of texts that read the same. -/
import Derived.Test.YtkkfnpbbigcpbaaWireRows
namespace Go.Proofs.Ytkkfnpbbigcpbaa
open Go.RowKit

theorem equal_strs (v u : Value) (xs : List ByteArray) (w : World) (h1 : Reads w 1 v xs.length (strs xs)) (h2 : Reads w 1 u xs.length (strs xs)) (hn : xs.length ≤ 1000000000) :
    Calls Try.prog 79 #[v, u] w fun e w' => e = .returned (.bool true) ∧ Below w.heap.size w w' := by
  by_cases h0 : xs.length = 0
  · obtain ⟨a1, c1, rfl⟩ := h1.shape
    obtain ⟨a2, c2, rfl⟩ := h2.shape
    rw [h0]
    refine (Try.slices_Equal_string_empty a1 a2 c1 0 c2 w (by omega)).mono ?_
    rintro e w' ⟨rfl, rfl⟩
    exact ⟨rfl, Below.refl _ _⟩
  · obtain ⟨b1, o1, c1, rfl⟩ := h1.isRow (by omega)
    obtain ⟨b2, o2, c2, rfl⟩ := h2.isRow (by omega)
    have get : ∀ j, j < xs.length → (strs xs)[j]? = some (.string (xs.getD j ByteArray.empty)) := fun j hj => by
      rw [strs_get xs j hj, List.getD_eq_getElem?_getD, List.getElem?_eq_getElem hj]; rfl
    refine (Try.slices_Equal_string b1 o1 xs.length c1 b2 o2 xs.length c2 xs xs w (by omega) (by omega) (by omega) (by omega) (fun j hj => h1.cellAt j _ (get j hj)) (fun j hj => h2.cellAt j _ (get j hj))).mono ?_
    rintro e w' ⟨rfl, q, rfl⟩
    exact ⟨by simp, below_drewN (Below.refl _ _) _⟩
theorem grown_reads {w w' : World} {b size n : Nat} {v : Value} {cs : List Value} (h : Reads w size v n cs) (hg : w.grownBy w' (some b)) (hne : v.ownBlock ≠ some b) : Reads w' size v n cs := h.grown hg (fun k hk => by cases hk; exact hne)
end Go.Proofs.Ytkkfnpbbigcpbaa
