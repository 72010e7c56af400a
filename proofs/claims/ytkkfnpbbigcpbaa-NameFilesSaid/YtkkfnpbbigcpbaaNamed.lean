/- files.Named: which texts are files' names. -/
import Derived.Test.YtkkfnpbbigcpbaaCutDot
namespace Go.Proofs.Ytkkfnpbbigcpbaa
open Go.RowKit

def namedByte (c : UInt8) : Bool := decide (33 ≤ c.toNat) && decide (c.toNat ≤ 126)
def namedText (l : List UInt8) : Bool := l.all namedByte && (decide (1 ≤ l.length) && decide (l.length ≤ 72))
theorem namedText_byte (s : ByteArray) (k : Nat) (h : k < s.size) (hl : namedByte s[k] = false) : namedText s.data.toList = false := by
  simp [namedText, all_no namedByte s k h hl]
set_option maxHeartbeats 800000 in
theorem named_any (s : ByteArray) (w : World) (hs : s.size ≤ maxLen) :
    Calls Try.prog 74 #[.string s] w fun e w' => e = .returned (.bool (namedText s.data.toList)) ∧ w = w' := by
  unfold maxLen at hs
  go_enter Try.func74, Try.ntmps74
  go_wp2
  go_loop [6, 3] (fun i _ => ∃ k : Nat, k ≤ s.size ∧ i = .int .i64 k ∧ (s.data.toList.take k).all namedByte = true) (fun i _ => s.size - (intOf i).toNat)
  case atStart => exact ⟨0, by omega, rfl, rfl⟩
  case round =>
    obtain ⟨k, hk, rfl, hall⟩ := hrel
    have HA := hide hall
    clear hall
    by_cases hlt : k < s.size
    · have hc := byte_le s[k]
      have HN := hide (namedText_byte s k hlt)
      have HS := hide (all_snoc namedByte s k hlt)
      by_cases h1 : (s[k].toNat : Int) < 33
      · go_wp2_with fail
        go_ret
        exact ⟨ret_bool (HN.out (by simp [namedByte]; omega)).symm, rfl⟩
      by_cases h2 : 126 < (s[k].toNat : Int)
      · go_wp2_with fail
        go_ret
        exact ⟨ret_bool (HN.out (by simp [namedByte]; omega)).symm, rfl⟩
      go_wp2_with fail
      go_round
      case rel => exact ⟨k + 1, by omega, by go_num, by rw [HS.out, HA.out]; simp [namedByte]; omega⟩
      case measure => simp [intOf]; omega
    · have hall2 : s.data.toList.all namedByte = true := by
        have := HA.out
        rwa [List.take_of_length_le (by simp; omega)] at this
      have HB := hide hall2
      by_cases h0 : s.size = 0
      · have hne := emp_true s h0
        go_wp2_with fail
        go_ret
        have hs1 : s.data.toList.length = s.size := by simp
        have hN : namedText s.data.toList = false := by
          rw [namedText, hs1, decide_eq_false (by omega : ¬ 1 ≤ s.size)]
          simp
        exact ⟨ret_bool hN.symm, rfl⟩
      · have hne := emp_false s (by omega)
        go_wp2_with fail
        go_ret
        have hs1 : s.data.toList.length = s.size := by simp
        have hN : namedText s.data.toList = decide ((s.size : Int) ≤ 72) := by
          rw [namedText, HB.out, Bool.true_and, hs1, decide_eq_true (by omega : 1 ≤ s.size), Bool.true_and]
          exact decide_eq_decide.2 (by omega)
        exact ⟨ret_bool hN.symm, rfl⟩
end Go.Proofs.Ytkkfnpbbigcpbaa
