/- The chapter's example of a space. -/
import Derived.Test.YtkkfnpbbigcpbaaSpCopy
import Derived.Test.YtkkfnpbbigcpbaaSpNew
import Derived.Test.YtkkfnpbbigcpbaaSpMore
namespace Go.Proofs.Ytkkfnpbbigcpbaa
open Go.RowKit Go.Shelf
set_option maxRecDepth 100000 in
set_option maxHeartbeats 4000000 in
theorem awake05_any (w : World) : Calls Try.prog 25 #[] w fun e w' => e = .returned (.bool true) ∧ Below w.heap.size w w' := by
  go_enter Try.func25, Try.ntmps25
  go_wp2_with (go_at_call 26; refine (new_any 5 9 _ (by decide) (by decide)).mono ?_; rintro e1 w1 ⟨b, rfl, hb, hs1, hB1⟩; rw [show List.replicate (sectors 5 9) true = [true, true, true, true] by decide] at hs1; have HS1 := hide hs1; have HB1 := hide hB1; have Hb := hide hb; clear hs1 hB1 hb)
  have hT := take_any b 5 [true, true, true, true] 3 w1 HS1.out (by omega) (by omega) (by omega) (by omega)
  unfold TakePost at hT
  rw [show (runsAt [true, true, true, true] 0).find? (fun r => decide (3 ≤ r.2)) = some (0, 4) by decide] at hT
  refine hT.mono ?_
  rintro e2 w2 ⟨rfl, hs2, hg2⟩
  rw [show setRun [true, true, true, true] 0 3 false = [false, false, false, true] by decide] at hs2
  have HS2 := hide hs2
  have HB2 := hide (HB1.out.grown hg2 HB1.out.size (fun k hk => by cases hk; exact Hb.out))
  clear hs2 hg2 hT
  go_wp2_with fail
  have hF := free_any b 5 [false, false, false, true] w2 HS2.out (by omega) (by simp)
  rw [show [false, false, false, true].count true = 1 by decide] at hF
  refine hF.mono ?_
  rintro e3 w3 ⟨rfl, hb3⟩
  have HS3 := hide (HS2.out.below hb3)
  have HB3 := hide (HB2.out.trans (hb3.mono HB2.out.size))
  clear hb3 hF
  go_wp2_with fail
  refine (is_any b 5 [false, false, false, true] 8 w3 HS3.out (by omega) (by omega) (by omega) (by omega)).mono ?_
  rintro e4 w4 ⟨rfl, q, rfl⟩
  go_wp2_with fail
  refine (is_any b 5 [false, false, false, true] 5 (w3.drewN q) (HS3.out.below ⟨rfl, rfl, rfl, Nat.le_refl _, fun _ _ => rfl⟩) (by omega) (by omega) (by omega) (by omega)).mono ?_
  rintro e5 w5 ⟨rfl, q2, rfl⟩
  go_wp2_with fail
  go_ret
  exact ⟨rfl, ⟨HB3.out.os, HB3.out.tape, HB3.out.output, HB3.out.size, HB3.out.block⟩⟩
end Go.Proofs.Ytkkfnpbbigcpbaa
