/- The chapter's example of a digest. -/
import Derived.Test.YtjmbnfcjambdkaaShaAbc
import Derived.Test.YtjmbnfcjambdkaaHex
namespace Go.Proofs.Ytjmbnfcjambdkaa
open Go.RowKit
theorem first_four (B : List UInt8) (h : B.take 4 = [186, 120, 22, 191]) : B.getD 0 0 = 186 ∧ B.getD 1 0 = 120 ∧ B.getD 2 0 = 22 ∧ B.getD 3 0 = 191 := by
  match B, h with
  | x0 :: x1 :: x2 :: x3 :: L, h =>
    simp only [List.take_succ_cons, List.take_zero, List.cons.injEq, and_true] at h
    obtain ⟨rfl, rfl, rfl, rfl⟩ := h
    exact ⟨rfl, rfl, rfl, rfl⟩
theorem ba_len' (a : List UInt8) : (⟨a.toArray⟩ : ByteArray).size = a.length := by simp [ByteArray.size]
theorem one_text (v : Value) (x : ByteArray) (w : World) (c : Nat) (hv : v = .slice (some ⟨w.heap.size, 0, none⟩) 1 1) (hc : c = 1) (T : TypeId) : Reads (w.alloc (.cells #[.string x] T)) 1 v c (strs [x]) := by
  subst hv hc
  exact reads_fresh w (strs [x]) T 1 1 rfl (by intro u hu; simp [strs] at hu; subst hu; rfl) (by decide)
set_option maxRecDepth 20000 in
set_option maxHeartbeats 2000000 in
theorem awake01_any (w : World) : Calls Try.prog 22 #[] w fun e w' => e = .returned (.bool true) ∧ Below w.heap.size w w' := by
  have HR := hide (one_text (.slice (some ⟨w.heap.size, 0, none⟩) 1 1) ⟨#[97, 98, 99]⟩ w 1 rfl rfl 9)
  have HA := hide (sum_any (.slice (some ⟨w.heap.size, 0, none⟩) 1 1) [⟨#[97, 98, 99]⟩] [97, 98, 99] (by rfl) _ HR.out (by decide) (by decide))
  have hG := first_four _ sha_abc
  obtain ⟨D, hD⟩ : ∃ D, shaOf [97, 98, 99] = D := ⟨_, rfl⟩
  rw [hD] at HA hG
  clear hD HR
  obtain ⟨g0, g1, g2, g3⟩ := hG
  go_enter Try.func22, Try.ntmps22
  go_wp2_with fail
  refine HA.out.mono ?_
  rintro e1 w1 ⟨rfl, hb1⟩
  have HB1 := hide ((((Below.refl _ w).alloc (Nat.le_refl _) _).trans (hb1.mono (by simp))))
  clear hb1 HA
  have hrow : ((w1.alloc (.cells (dgst dig0) 24)).setRow w1.heap.size (dgst D)).rowCells w1.heap.size = dgst D := rowCells_setRow_same _ (rowOk_of 32 (heap_alloc_new w1 _))
  have hB2 := HB1.out.trans (below_setRow (((Below.refl _ w1).alloc (Nat.le_refl _) (.cells (dgst dig0) 24))) (Nat.le_refl _) (dgst D) |>.mono HB1.out.size)
  have c0 := cell_dgst hrow 0 (by omega)
  have c1 := cell_dgst hrow 1 (by omega)
  have c2 := cell_dgst hrow 2 (by omega)
  have c3 := cell_dgst hrow 3 (by omega)
  rw [g0] at c0
  rw [g1] at c1
  rw [g2] at c2
  rw [g3] at c3
  have HB2 := hide hB2
  clear hB2
  go_wp2_with fail
  refine (hex_any D _).mono ?_
  rintro e3 w3 ⟨rfl, hb3⟩
  have HB3 := hide (HB2.out.trans (hb3.mono HB2.out.size))
  have hl := ba_len' (hexText D.bytes)
  rw [hexText_length, D.len] at hl
  clear hb3
  go_wp2_with fail
  go_ret
  exact ⟨rfl, HB3.out⟩
end Go.Proofs.Ytjmbnfcjambdkaa
