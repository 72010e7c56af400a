/- name.letter, name.Ref and the document's Ref: what each computes of any text. -/
import Derived.Test.YtjmbnfcjambdkaaLib
namespace Go.Proofs.Ytjmbnfcjambdkaa
open Go.RowKit

def isLetter (c : Int) : Bool := decide (97 ≤ c) && decide (c ≤ 122)

theorem isLetter_no (c : Int) (h : c < 97 ∨ 122 < c) : isLetter c = false := by
  unfold isLetter
  rcases h with h | h
  · rw [decide_eq_false (by omega : ¬ 97 ≤ c)]; rfl
  · rw [decide_eq_false (by omega : ¬ c ≤ 122)]; simp
theorem isLetter_yes (c : Int) (h : 97 ≤ c ∧ c ≤ 122) : isLetter c = true := by
  unfold isLetter; rw [decide_eq_true h.1, decide_eq_true h.2]; rfl
set_option maxHeartbeats 400000 in
theorem letter_any (c : Int) (w : World) (h0 : 0 ≤ c) (h1 : c ≤ 255) :
    Calls Try.prog 86 #[.int .u8 c] w fun e w' => e = .returned (.bool (isLetter c)) ∧ w = w' := by
  go_enter Try.func86, Try.ntmps86
  go_wp2
  · go_ret
    exact ⟨by simp [isLetter]; omega, rfl⟩
  · go_ret
    exact ⟨by simp [isLetter]; omega, rfl⟩
theorem letter_yes (c : Int) (w : World) (h0 : 0 ≤ c) (h1 : c ≤ 255) (h : isLetter c = true) :
    Calls Try.prog 86 #[.int .u8 c] w fun e w' => e = .returned (.bool true) ∧ w = w' := h ▸ letter_any c w h0 h1
theorem letter_no (c : Int) (w : World) (h0 : 0 ≤ c) (h1 : c ≤ 255) (h : isLetter c = false) :
    Calls Try.prog 86 #[.int .u8 c] w fun e w' => e = .returned (.bool false) ∧ w = w' := h ▸ letter_any c w h0 h1

/-- May a byte stand in a ref's name? -/
def refByte (c : UInt8) : Bool := isLetter c.toNat || (decide (48 ≤ c.toNat) && decide (c.toNat ≤ 57)) || c.toNat == 45 || c.toNat == 95
theorem refByte_no (c : UInt8) (hl : isLetter c.toNat = false) (h1 : (c.toNat : Int) < 48 ∨ 57 < (c.toNat : Int)) (h2 : (c.toNat : Int) ≠ 45) (h3 : (c.toNat : Int) ≠ 95) : refByte c = false := by
  simp only [refByte, hl, Bool.false_or]
  simp; omega
theorem refByte_yes (c : UInt8) (h : (48 ≤ (c.toNat : Int) ∧ (c.toNat : Int) ≤ 57) ∨ (c.toNat : Int) = 45 ∨ (c.toNat : Int) = 95) : refByte c = true := by
  simp [refByte]; omega
theorem refByte_true (c : UInt8) (h : (97 ≤ (c.toNat : Int) ∧ (c.toNat : Int) ≤ 122) ∨ (48 ≤ (c.toNat : Int) ∧ (c.toNat : Int) ≤ 57) ∨ (c.toNat : Int) = 45 ∨ (c.toNat : Int) = 95) : refByte c = true := by
  simp [refByte, isLetter]; omega
theorem refByte_false (c : UInt8) (h : ¬ ((97 ≤ (c.toNat : Int) ∧ (c.toNat : Int) ≤ 122) ∨ (48 ≤ (c.toNat : Int) ∧ (c.toNat : Int) ≤ 57) ∨ (c.toNat : Int) = 45 ∨ (c.toNat : Int) = 95)) : refByte c = false := by
  simp [refByte, isLetter]; omega
/-- Is a text a ref's name? -/
def refText (l : List UInt8) : Bool := decide (1 ≤ l.length) && decide (l.length ≤ 24) && isLetter (l.getD 0 0).toNat && l.all refByte
theorem refText_empty (s : ByteArray) (h : s.size = 0) : refText s.data.toList = false := by rw [data_nil s h]; rfl
theorem refText_long (s : ByteArray) (h : 24 < s.size) : refText s.data.toList = false := by simp [refText]; omega
theorem refText_first (s : ByteArray) (h : 0 < s.size) (hl : isLetter s[0].toNat = false) : refText s.data.toList = false := by
  simp only [refText, getD_byte s 0 h, hl]; simp
theorem refText_byte (s : ByteArray) (k : Nat) (h : k < s.size) (hl : refByte s[k] = false) : refText s.data.toList = false := by
  simp [refText, all_no refByte s k h hl]
theorem refText_yes (s : ByteArray) (h : 0 < s.size) (h2 : ¬ 24 < s.size) (hl : isLetter s[0].toNat = true) (k : Nat) (hk : s.size ≤ k) (ha : (s.data.toList.take k).all refByte = true) : refText s.data.toList = true := by
  rw [List.take_of_length_le (by simpa using hk)] at ha
  simp only [refText, getD_byte s 0 h, hl, ha]
  simp; omega

set_option maxHeartbeats 400000 in
theorem ref_any (s : ByteArray) (w : World) (hs : s.size ≤ maxLen) :
    Calls Try.prog 39 #[.string s] w fun e w' => e = .returned (.bool (refText s.data.toList)) ∧ w = w' := by
  unfold maxLen at hs
  by_cases h0 : s.size = 0
  · have hne := emp_true s h0
    rw [refText_empty s h0]
    go_enter Try.func39, Try.ntmps39
    go_wp2
    go_ret
    exact ⟨rfl, rfl⟩
  have hne := emp_false s (by omega)
  by_cases h24 : 24 < s.size
  · rw [refText_long s h24]
    go_enter Try.func39, Try.ntmps39
    go_wp2_with fail
    go_ret
    exact ⟨rfl, rfl⟩
  have hp : 0 < s.size := by omega
  have hb := byte_le s[0]
  cases hl : isLetter s[0].toNat
  · rw [refText_first s hp hl]
    go_enter Try.func39, Try.ntmps39
    go_wp2_with (go_at_call 86; refine (letter_no _ _ (by omega) (by omega) (by assumption)).mono ?_; rintro e w' ⟨rfl, rfl⟩)
    go_ret
    exact ⟨rfl, rfl⟩
  · have HL := hide hl
    clear hl
    go_enter Try.func39, Try.ntmps39
    go_wp2_with (go_at_call 86; refine (letter_yes _ _ (by omega) (by omega) HL.out).mono ?_; rintro e w' ⟨rfl, rfl⟩)
    go_loop [20, 3, 4] (fun i _ _ => ∃ k : Nat, k ≤ s.size ∧ i = .int .i64 k ∧ (s.data.toList.take k).all refByte = true) (fun i _ _ => s.size - (intOf i).toNat)
    case atStart => exact ⟨0, by omega, rfl, rfl⟩
    case round =>
      obtain ⟨k, hk, rfl, hall⟩ := hrel
      have HA := hide hall
      clear hall
      by_cases hlt : k < s.size
      · have hc := byte_le s[k]
        have HN := hide (refText_byte s k hlt)
        have HS := hide (all_snoc refByte s k hlt)
        cases hv : isLetter s[k].toNat
        · go_wp2_with (go_at_call 86; refine (letter_no _ _ (by omega) (by omega) (by assumption)).mono ?_; rintro e w' ⟨rfl, rfl⟩)
          all_goals first
            | (go_ret; exact ⟨ret_bool (HN.out (refByte_no _ (by assumption) (by simp at *; omega) (by simp at *; omega) (by simp at *; omega))).symm, rfl⟩)
            | (go_round
               case rel => exact ⟨k + 1, by omega, by go_num, by rw [HS.out, HA.out, refByte_yes _ (by simp at *; omega)]; rfl⟩
               case measure => simp [intOf]; omega)
        · go_wp2_with (go_at_call 86; refine (letter_yes _ _ (by omega) (by omega) (by assumption)).mono ?_; rintro e w' ⟨rfl, rfl⟩)
          go_round
          case rel => exact ⟨k + 1, by omega, by go_num, by rw [HS.out, HA.out]; simp [refByte, hv]⟩
          case measure => simp [intOf]; omega
      · go_wp2
        go_ret
        exact ⟨ret_bool (refText_yes s hp h24 HL.out k (by omega) HA.out).symm, rfl⟩

end Go.Proofs.Ytjmbnfcjambdkaa
