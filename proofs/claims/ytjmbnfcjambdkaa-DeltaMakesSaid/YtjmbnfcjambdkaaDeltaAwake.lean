/- Deltas that Make makes, applied; the chapter's example. -/
import Derived.Test.YtjmbnfcjambdkaaDeltaMake
namespace Go.Proofs.Ytjmbnfcjambdkaa
open Go.RowKit
/-- The delta of a text by a base. -/
def dOf (a b : List UInt8) : List UInt8 := deltaOf a.length b.length (partsOf a b)
theorem dOf_length (a b : List UInt8) (ha : a.length ≤ 32768) (hb : b.length ≤ 32768) : (dOf a b).length ≤ 312027 := by
  have h1 := delta_length a.length b.length (partsOf a b) (fun p hp => (parts_plain a b ha hb p hp).1.1)
  have h2 := (parts_le a b).2.2
  unfold dOf
  omega
theorem make_d (a b : List UInt8) (w : World) (ha : a.length ≤ 32768) (hb : b.length ≤ 32768) :
    Calls Try.prog 19 #[.string ⟨a.toArray⟩, .string ⟨b.toArray⟩] w fun q w' => q = .returned (.string ⟨(dOf a b).toArray⟩) ∧ Below w.heap.size w w' := make_any a b w ha hb
theorem apply_d (a b : List UInt8) (w : World) (ha : a.length ≤ 32768) (hb : b.length ≤ 32768) :
    Calls Try.prog 21 #[.string ⟨a.toArray⟩, .string ⟨(dOf a b).toArray⟩] w fun q w' => q = .returned (.tuple #[.string ⟨b.toArray⟩, .int .i64 0]) ∧ Below w.heap.size w w' := by
  have h := apply_ok a a.length b.length (partsOf a b) (dOf a b) rfl w (by omega) (by omega) (by have := (parts_le a b).2.2; omega) (fun p hp => (parts_plain a b ha hb p hp).1) (by omega) rfl (fun p hp => (parts_plain a b ha hb p hp).2) (by rw [text_back]; exact hb) (by rw [text_back])
  rw [text_back] at h
  exact h
theorem apply_far (c a b : List UInt8) (w : World) (ha : a.length ≤ 32768) (hb : b.length ≤ 32768) (hc : c.length ≤ 100000) (hne : a.length ≠ c.length) :
    Calls Try.prog 21 #[.string ⟨c.toArray⟩, .string ⟨(dOf a b).toArray⟩] w fun q w' => q = .returned (.tuple #[.string ⟨#[]⟩, .int .i64 31]) ∧ Below w.heap.size w w' :=
  apply_other c a.length b.length (partsOf a b) (dOf a b) rfl w (by omega) (by omega) (by have := (parts_le a b).2.2; omega) (fun p hp => (parts_plain a b ha hb p hp).1) (by omega) hne
set_option maxRecDepth 20000 in
set_option maxHeartbeats 2000000 in
theorem awake20_any (w : World) : Calls Try.prog 16 #[] w fun e w' => e = .returned (.bool true) ∧ Below w.heap.size w w' := by
  have hD := hide (show (dOf [97, 98, 99] [97, 98, 99]).length = 21 by decide +kernel)
  go_enter Try.func16, Try.ntmps16
  go_wp2_with fail
  refine (make_d [97, 98, 99] [97, 98, 99] w (by simp) (by simp)).mono ?_
  rintro e1 w1 ⟨rfl, hb1⟩
  have HB1 := hide hb1
  have HA := hide (apply_d [97, 98, 99] [97, 98, 99] w1 (by simp) (by simp))
  clear hb1
  obtain ⟨D, hDD⟩ : ∃ D, dOf [97, 98, 99] [97, 98, 99] = D := ⟨_, rfl⟩
  rw [hDD] at hD HA ⊢
  clear hDD
  go_wp2_with fail
  refine HA.out.mono ?_
  rintro e2 w2 ⟨rfl, hb2⟩
  have HB2 := hide (HB1.out.trans (hb2.mono HB1.out.size))
  clear hb2
  have hl := ba_len D
  rw [hD.out] at hl
  have hl2 := hD.out
  go_wp2_with fail
  go_ret
  exact ⟨rfl, HB2.out⟩
end Go.Proofs.Ytjmbnfcjambdkaa
