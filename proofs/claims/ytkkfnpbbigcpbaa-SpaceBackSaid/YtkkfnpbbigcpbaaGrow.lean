/- slices.Grow of the nil slice of uint32 (the kit's contract at this program's numbers). -/
import Derived.Test.YtkkfnpbbigcpbaaSlU32
import Derived.Shelf.Spec.SlicesGrow
namespace Go.Proofs
open Go.Shelf
def Try.growU32_ren : Go.Shelf.Ren := ⟨fun | 4 => 109 | n => n, fun | 0 => 0 | 3 => 3 | 4 => 4 | 9 => 9 | 20 => 20 | 22 => 52 | 25 => 28 | n => n, fun | n => n⟩
theorem Try.growU32 : Go.Proofs.Lays8.n4 Try.prog Try.growU32_ren := {
  mixed := by kernel_rfl
  f4 := ⟨Try.f109.name, by decide, Try.func109.trans (congrArg some (by kernel_rfl))⟩
  t0 := Try.underlying0
  a0 := Try.isAgg0
  z0 := Try.sizeOf0
  v0 := Try.zeroValue0
  t3 := Try.underlying3
  a3 := Try.isAgg3
  z3 := Try.sizeOf3
  v3 := Try.zeroValue3
  t4 := Try.underlying4
  a4 := Try.isAgg4
  z4 := Try.sizeOf4
  v4 := Try.zeroValue4
  t9 := Try.underlying9
  a9 := Try.isAgg9
  z9 := Try.sizeOf9
  v9 := Try.zeroValue9
  t20 := Try.underlying20
  a20 := Try.isAgg20
  z20 := Try.sizeOf20
  v20 := Try.zeroValue20
  t22 := Try.underlying52
  a22 := Try.isAgg52
  z22 := Try.sizeOf52
  v22 := Try.zeroValue52 }
end Go.Proofs
namespace Go.Proofs.Ytkkfnpbbigcpbaa
open Go.RowKit
theorem grow_u32 (n : Nat) (w : World) (hn : n * 4 ≤ 140737488355328) :
    Calls Try.prog 109 #[.slice none 0 0, .int .i64 (n : Int)] w fun e w' => (∃ a c, e = .returned (.slice a 0 c) ∧ w'.ownsRow w.heap.size 28 1 (.slice a 0 c) 0 []) ∧ Below w.heap.size w w' := by
  obtain ⟨i0, hi, hz0, hz1, hz2⟩ := info_parts info28
  by_cases h0 : n = 0
  · subst h0
    refine (Any8.slices_Grow_room Try.growU32 none 0 0 0 w (by omega) (by omega) (by omega) (by omega)).mono ?_
    rintro e w' ⟨rfl, rfl⟩
    exact ⟨⟨none, 0, rfl, World.ownsRow_nil _ _ _ _⟩, Below.refl _ _⟩
  · refine (Any8.slices_Grow_grow Try.growU32 i0 (.int .u32 0) hi hz0 (by omega) none 0 0 n [] w (by omega) (by omega) (by rw [hz2]; omega) (by omega) (by simp) (by simp) (fun a h => by cases h)).mono ?_
    rintro e w' ⟨rfl, rfl⟩
    refine ⟨⟨_, _, rfl, ?_⟩, ((Below.refl _ w).drew).alloc (Nat.le_refl _) _⟩
    refine ⟨by simp, .inr ⟨_, _, _, rfl, Nat.le_refl _, heap_alloc_new w.drew _, Nat.zero_le _, ?_, ?_, by simp⟩⟩
    · exact grownCap_le_maxLen w _ 0 _ (by unfold maxLen; omega)
    · have := grownCap_ge w (0 + n) 0 28
      simp only [Array.size_append, size_zeroCells, List.size_toArray, List.length_nil]
      show 0 + (0 + n - 0) * 1 + (grownCap w (0 + n) 0 28 - (0 + n)) * 1 = grownCap w (0 + n) 0 28 * 1
      omega
end Go.Proofs.Ytkkfnpbbigcpbaa
