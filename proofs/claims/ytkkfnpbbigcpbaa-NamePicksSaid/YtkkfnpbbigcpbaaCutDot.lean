/- strings.Cut at a single byte. -/
import Derived.Test.YtkkfnpbbigcpbaaHex
import Derived.Deep.QuietTactic
import Derived.BigQuiet
import Derived.OwnWalk
namespace Go.Proofs.Ytkkfnpbbigcpbaa
open Go.RowKit

/-- The text ahead of the first such byte, and behind it; is there one? -/
def cutAt (c : UInt8) : List UInt8 → List UInt8 × List UInt8 × Bool
  | [] => ([], [], false)
  | b :: l => if b == c then ([], l, true) else let r := cutAt c l; (b :: r.1, r.2.1, r.2.2)
theorem cutAt_none (c : UInt8) (l : List UInt8) (h : Lib.indexByte l c < 0) : cutAt c l = (l, [], false) := by
  induction l with
  | nil => rfl
  | cons b l ih =>
    have hg := Lib.indexByte_ge l c
    unfold Lib.indexByte at h
    by_cases hb : (b == c) = true
    · rw [if_pos hb] at h; omega
    · rw [if_neg hb] at h
      by_cases h1 : (Lib.indexByte l c == -1) = true
      · have : Lib.indexByte l c = -1 := by simpa using h1
        rw [cutAt, if_neg hb, ih (by omega)]
      · rw [if_neg h1] at h
        have : Lib.indexByte l c ≠ -1 := by simpa using h1
        omega
theorem cutAt_some (c : UInt8) (l : List UInt8) (n : Nat) (h : Lib.indexByte l c = (n : Int)) : n < l.length ∧ cutAt c l = (l.take n, l.drop (n + 1), true) := by
  induction l generalizing n with
  | nil => simp [Lib.indexByte] at h
  | cons b l ih =>
    have hg := Lib.indexByte_ge l c
    unfold Lib.indexByte at h
    by_cases hb : (b == c) = true
    · rw [if_pos hb] at h
      have : n = 0 := by omega
      subst this
      rw [cutAt, if_pos hb]
      exact ⟨by simp, by simp⟩
    · rw [if_neg hb] at h
      by_cases h1 : (Lib.indexByte l c == -1) = true
      · rw [if_pos h1] at h; omega
      · rw [if_neg h1] at h
        have h2 : Lib.indexByte l c ≠ -1 := by simpa using h1
        obtain ⟨m, rfl⟩ : ∃ m, n = m + 1 := ⟨n - 1, by omega⟩
        obtain ⟨h3, h4⟩ := ih m (by omega)
        rw [cutAt, if_neg hb, h4]
        exact ⟨by simpa using h3, by simp⟩
@[go_sem] def cutVal (r : List UInt8 × List UInt8 × Bool) : Value := .tuple #[.string ⟨r.1.toArray⟩, .string ⟨r.2.1.toArray⟩, .bool r.2.2]
theorem index_one (s : ByteArray) (c : UInt8) (w : World) :
    Calls Try.prog 119 #[.string s, .string ⟨#[c]⟩] w fun e w' => e = .returned (.int .i64 (Lib.indexByte s.data.toList c)) ∧ w = w' :=
  (Try.stringslite_Index_one s c w).mono (by rintro e w' ⟨rfl, rfl⟩; exact ⟨rfl, rfl⟩)
theorem size_one (c : UInt8) : (⟨#[c]⟩ : ByteArray).size = 1 := rfl
theorem ba_eta (s : ByteArray) : s = ⟨s.data.toList.toArray⟩ := by cases s; simp
theorem ba_take (s : ByteArray) (n : Nat) : s.extract 0 n = ⟨(s.data.toList.take n).toArray⟩ := by
  apply ByteArray.ext
  apply Array.toList_inj.1
  simp [ByteArray.data_extract, List.extract]
theorem ba_drop (s : ByteArray) (n : Nat) : s.extract n s.size = ⟨(s.data.toList.drop n).toArray⟩ := by
  apply ByteArray.ext
  apply Array.toList_inj.1
  simp only [ByteArray.data_extract, Array.toList_extract, List.extract]
  exact List.take_of_length_le (by simp)
theorem ret_cut {r : List UInt8 × List UInt8 × Bool} {s t : ByteArray} {b : Bool} (h1 : s = ⟨r.1.toArray⟩) (h2 : t = ⟨r.2.1.toArray⟩) (h3 : b = r.2.2) : Ending.returned (.tuple #[.string s, .string t, .bool b]) = .returned (cutVal r) := by subst h1; subst h2; subst h3; rfl
set_option maxHeartbeats 400000 in
theorem cutlite_one (s : ByteArray) (c : UInt8) (w : World) (hs : s.size ≤ maxLen) :
    Calls Try.prog 114 #[.string s, .string ⟨#[c]⟩] w fun e w' => e = .returned (cutVal (cutAt c s.data.toList)) ∧ Below w.heap.size w w' := by
  unfold maxLen at hs
  have h1 := size_one c
  have hge := Lib.indexByte_ge s.data.toList c
  by_cases hn : Lib.indexByte s.data.toList c < 0
  · have HC := hide (cutAt_none c _ hn)
    go_enter Try.func114, Try.ntmps114
    go_wp2_with (go_at_call 119; refine (index_one _ _ _).mono ?_; rintro e w' ⟨rfl, rfl⟩)
    go_ret3
    exact ⟨by rw [HC.out]; exact ret_cut (ba_eta s) rfl rfl, Below.refl _ _⟩
  · obtain ⟨n, hi⟩ : ∃ n : Nat, Lib.indexByte s.data.toList c = (n : Int) := ⟨(Lib.indexByte s.data.toList c).toNat, by omega⟩
    obtain ⟨hl, hc⟩ := cutAt_some c _ n hi
    have hls : n < s.size := by simpa using hl
    have HC := hide hc
    clear hc hge hn
    go_enter Try.func114, Try.ntmps114
    go_wp2_with (go_at_call 119; refine (index_one _ _ _).mono ?_; rw [hi]; rintro e w' ⟨rfl, rfl⟩)
    have q1 : (n : Int) < (s.size : Int) := by omega
    have q2 : (n : Int) + 1 ≤ (s.size : Int) := by omega
    have q3 : IntKind.i64.wrap ((n : Int) + 1) = (n : Int) + 1 := by rw [IntKind.wrap_i64]; omega
    go_quiet (fail)
    go_wp2
    go_ret3
    exact ⟨by rw [HC.out]; exact ret_cut (ba_take s n) (ba_drop s (n + 1)) rfl, below_drewN (Below.refl _ _) _⟩
theorem cut_one (s : ByteArray) (c : UInt8) (w : World) (hs : s.size ≤ maxLen) :
    Calls Try.prog 104 #[.string s, .string ⟨#[c]⟩] w fun e w' => e = .returned (cutVal (cutAt c s.data.toList)) ∧ Below w.heap.size w w' := by
  go_enter Try.func104, Try.ntmps104
  go_wp2_with (go_at_call 114; refine (cutlite_one s c w hs).mono ?_; rintro e w' ⟨rfl, hb⟩)
  go_ret3
  exact ⟨rfl, hb⟩
end Go.Proofs.Ytkkfnpbbigcpbaa
