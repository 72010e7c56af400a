/- The law package's own example of layer 7, and what NameRefs returns of any text. -/
import Derived.Test.YtkkfnpbbigcpbaaNameRef
import Derived.Test.YtkkfnpbbigcpbaaNameOf
namespace Go.Proofs.Ytkkfnpbbigcpbaa
open Go.RowKit

theorem build_dig (w : World) : (Instr.build 25 #[]).run Try.prog w = .ok (.agg (dgst dig0)) w := by kernel_rfl

set_option maxHeartbeats 400000 in
theorem awake07_any (w : World) :
    Calls Try.prog 16 #[] w fun e w' => e = .returned (.bool true) ∧ Below w.heap.size w w' := by
  have h1 := ref_any ⟨#[109, 97, 105, 110]⟩ w (by decide)
  have h2 := ref_any ⟨#[49, 97]⟩ w (by decide)
  rw [show refText (⟨#[109, 97, 105, 110]⟩ : ByteArray).data.toList = true by decide] at h1
  rw [show refText (⟨#[49, 97]⟩ : ByteArray).data.toList = false by decide] at h2
  have H1 := hide h1
  have H2 := hide h2
  clear h1 h2
  have hbd := build_dig
  go_enter Try.func16, Try.ntmps16
  go_wp2_with fail
  refine H1.out.mono ?_
  rintro e w' ⟨rfl, rfl⟩
  go_wp2_with fail
  refine H2.out.mono ?_
  rintro e w' ⟨rfl, rfl⟩
  go_wp2_with fail
  refine (object_any dig0 _).mono ?_
  rintro e w' ⟨rfl, hb⟩
  have h66 : ((((fileText 111 dig0).length : Nat) : Int) == 66) = true := by rw [fileText_length]; rfl
  go_wp2_with fail
  go_ret
  exact ⟨rfl, hb⟩

set_option maxHeartbeats 400000 in
theorem refRef_any (s : ByteArray) (w : World) (hs : s.size ≤ maxLen) :
    Calls Try.prog 18 #[.string s] w fun e w' => e = .returned (.bool (refText s.data.toList)) ∧ w = w' := by
  unfold maxLen at hs
  by_cases h0 : s.size = 0
  · rw [refText_empty s h0]
    go_enter Try.func18, Try.ntmps18
    go_wp2
    go_ret
    exact ⟨rfl, rfl⟩
  by_cases h24 : 24 < s.size
  · rw [refText_long s h24]
    go_enter Try.func18, Try.ntmps18
    go_wp2_with fail
    go_ret
    exact ⟨rfl, rfl⟩
  have hp : 0 < s.size := by omega
  go_enter Try.func18, Try.ntmps18
  go_wp2_with fail
  go_loop [3, 4, 5] (fun i _ _ => ∃ k : Nat, k ≤ s.size ∧ i = .int .i64 k ∧ (s.data.toList.take k).all refByte = true ∧ (0 < k → isLetter s[0].toNat = true)) (fun i _ _ => s.size - (intOf i).toNat)
  case atStart => exact ⟨0, by omega, rfl, rfl, by omega⟩
  case round =>
    obtain ⟨k, hk, rfl, hall, hfst⟩ := hrel
    have HA := hide hall
    have HF := hide hfst
    clear hall hfst
    by_cases hlt : k < s.size
    · have hc := byte_le s[k]
      have HN := hide (refText_byte s k hlt)
      have HS := hide (all_snoc refByte s k hlt)
      by_cases hk0 : k = 0
      · subst hk0
        have HL := hide (refText_first s hp)
        go_wp2_with fail
        all_goals first
          | (go_ret; exact ⟨ret_bool (HL.out (isLetter_no _ (by simp at *; omega))).symm, rfl⟩)
          | (go_ret; exact ⟨ret_bool (HN.out (refByte_false _ (by simp at *; omega))).symm, rfl⟩)
          | (go_round
             case rel => exact ⟨1, by omega, by go_num, by rw [HS.out, HA.out, refByte_true _ (by simp at *; omega)]; rfl, fun _ => isLetter_yes _ (by simp at *; omega)⟩
             case measure => simp [intOf]; omega)
      · go_wp2_with fail
        all_goals first
          | (go_ret; exact ⟨ret_bool (HN.out (refByte_false _ (by simp at *; omega))).symm, rfl⟩)
          | (go_round
             case rel => exact ⟨k + 1, by omega, by go_num, by rw [HS.out, HA.out, refByte_true _ (by simp at *; omega)]; rfl, fun _ => HF.out (by omega)⟩
             case measure => simp [intOf]; omega)
    · go_wp2
      go_ret
      exact ⟨ret_bool (refText_yes s hp h24 (HF.out (by omega)) k (by omega) HA.out).symm, rfl⟩
end Go.Proofs.Ytkkfnpbbigcpbaa
