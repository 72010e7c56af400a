/- parterreref01: rotr, k. -/
import Derived.Test.YtjmbnfcjambdkaaShaRefPure
namespace Go.Proofs.Ytjmbnfcjambdkaa
open Go.RowKit
set_option maxRecDepth 20000 in
set_option maxHeartbeats 4000000 in
theorem rotr_any (x : UInt32) (n : Nat) (h : n = 7 ∨ n = 18 ∨ n = 17 ∨ n = 19 ∨ n = 6 ∨ n = 11 ∨ n = 25 ∨ n = 2 ∨ n = 13 ∨ n = 22) (w : World) :
    Calls Try.prog 65 #[.int .u32 (x.toNat : Int), .int .i64 (n : Int)] w fun e w' => e = .returned (.int .u32 ((rotl x (32 - n)).toNat : Int)) ∧ ∃ q, w' = w.drewN q := by
  have HR := hide (rotr_rotl x n (by omega))
  have hr := (shr_nat x n).symm
  have hl := (shl_nat x (32 - n)).symm
  rcases h with rfl | rfl | rfl | rfl | rfl | rfl | rfl | rfl | rfl | rfl
  all_goals
    simp only [Nat.reduceSub, Int.reducePow] at hr hl HR ⊢
    simp only [Int.cast_ofNat_Int]
    go_enter Try.func65, Try.ntmps65
    go_wp2_with fail
    go_quiet (fail)
    go_wp2_with fail
    go_ret
    refine ⟨?_, _, rfl⟩
    rw [← HR.out]
    rfl
theorem rotr_at (x : UInt32) (k : Int) (s : Nat) (h : (32 - s = 7 ∨ 32 - s = 18 ∨ 32 - s = 17 ∨ 32 - s = 19 ∨ 32 - s = 6 ∨ 32 - s = 11 ∨ 32 - s = 25 ∨ 32 - s = 2 ∨ 32 - s = 13 ∨ 32 - s = 22) ∧ k = ((32 - s : Nat) : Int)) (w : World) :
    Calls Try.prog 65 #[.int .u32 (x.toNat : Int), .int .i64 k] w fun e w' => e = .returned (.int .u32 ((rotl x s).toNat : Int)) ∧ ∃ q, w' = w.drewN q := by
  obtain ⟨h1, rfl⟩ := h
  have := rotr_any x (32 - s) h1 w
  rwa [show 32 - (32 - s) = s by omega] at this
/-- Such a call in a region that draws, behind nothing else, and behind other regions. -/
theorem quiet_one {P : Program} {fn : FuncId} {args : Array Value} {v : Value} (h : ∀ W : World, Calls P fn args W fun e w' => e = .returned v ∧ ∃ q, w' = W.drewN q) (w : World) (n : Nat) :
    Calls P fn args (w.drewN n) fun e w' => e = .returned v ∧ ∃ m, w' = w.drewN m :=
  (h _).mono fun _ _ ⟨h1, q, h2⟩ => ⟨h1, n + q, by rw [h2]; simp⟩
theorem quiet_next {P : Program} {fn : FuncId} {args : Array Value} {v : Value} (h : ∀ W : World, Calls P fn args W fun e w' => e = .returned v ∧ ∃ q, w' = W.drewN q) (w : World) (x n : Nat) :
    Calls P fn args (w.drewN (x + n)) fun e w' => e = .returned v ∧ ∃ m, w' = w.drewN (x + m) :=
  (h _).mono fun _ _ ⟨h1, q, h2⟩ => ⟨h1, n + q, by rw [h2]; simp [Nat.add_assoc]⟩
set_option maxRecDepth 100000 in
set_option maxHeartbeats 1000000 in
theorem k_any (w : World) : Calls Try.prog 64 #[] w fun e w' => ∃ g, e = .returned (.slice (some ⟨g, 0, none⟩) 64 64) ∧ w.heap.size ≤ g ∧ w'.heap[g]? = some (.cells (wsv keysW) 83 (0, 0)) ∧ Below w.heap.size w w' := by
  have hk : wsv keysW = (wcells kL).toArray := by rw [wsv, keys_kL]
  rw [hk]
  go_enter Try.func64, Try.ntmps64
  go_wp2_with fail
  go_ret
  exact ⟨w.heap.size, rfl, Nat.le_refl _, heap_alloc_new w _, (Below.refl _ w).alloc (Nat.le_refl _) _⟩
end Go.Proofs.Ytjmbnfcjambdkaa
