/- delta.Alike. -/
import Derived.Test.YtjmbnfcjambdkaaDeltaPure
import Derived.BigQuiet
import Derived.Deep.QuietTactic
import Derived.WalkSpells
import Derived.IntWalk
namespace Go.Proofs.Ytjmbnfcjambdkaa
open Go.RowKit
theorem ba_len (a : List UInt8) : (⟨a.toArray⟩ : ByteArray).size = a.length := by simp [ByteArray.size]
theorem ba_get (a : List UInt8) (k : Nat) (h : k < (⟨a.toArray⟩ : ByteArray).size) : (⟨a.toArray⟩ : ByteArray)[k]'h = a[k]'(by rwa [ba_len] at h) := by
  show a.toArray[k]'_ = _
  simp
theorem eq_byte (x y : UInt8) : ((x.toNat : Int) == (y.toNat : Int)) = decide (x = y) := by
  rw [Bool.eq_iff_iff]
  simp only [beq_iff_eq, decide_eq_true_eq]
  constructor
  · intro h; exact UInt8.toNat_inj.1 (by omega)
  · intro h; rw [h]
theorem slice_tail (s : List UInt8) (n : Nat) (m : Nat) (hm : m = s.length) : (⟨s.toArray⟩ : ByteArray).extract n m = ⟨(s.drop n).toArray⟩ := by subst hm; exact slice_back s n
theorem ex_drewN2 (w : World) (a b : Nat) : ∃ q, (w.drewN a).drewN b = w.drewN q := ⟨a + b, by simp⟩
theorem ex_drewN3 (w : World) (a b c : Nat) : ∃ q, ((w.drewN a).drewN b).drewN c = w.drewN q := ⟨a + b + c, by simp⟩
set_option maxRecDepth 20000 in
set_option maxHeartbeats 2000000 in
theorem alike_any (a b : List UInt8) (w : World) (ha : a.length ≤ 1000000) (hb : b.length ≤ 1000000) :
    Calls Try.prog 17 #[.string ⟨a.toArray⟩, .string ⟨b.toArray⟩] w fun e w' => e = .returned (.tuple #[.int .i64 (frontOf a b : Int), .int .i64 (backOf a b : Int)]) ∧ ∃ q, w' = w.drewN q := by
  have ha2 := ba_len a
  have hb2 := ba_len b
  go_enter Try.func17, Try.ntmps17
  go_wp2_with fail
  go_loopw [4] (fun n wr => ∃ k : Nat, k ≤ cp a b ∧ n = .int .i64 k ∧ ∃ q, wr = w.drewN q) (fun n _ => cp a b - (intOf n).toNat)
  case atStart => exact ⟨0, by omega, rfl, 0, rfl⟩
  case round =>
    obtain ⟨k, hk, rfl, q, rfl⟩ := hrel
    have hcl := cp_le a b
    by_cases h0 : k < a.length ∧ k < b.length ∧ a[k]? = b[k]?
    · obtain ⟨h1, h2, h3⟩ := h0
      have hmin : (k : Int) < min (a.length : Int) (b.length : Int) := by omega
      have hq : ((((⟨a.toArray⟩ : ByteArray)[k]'(by omega)).toNat : Int) == (((⟨b.toArray⟩ : ByteArray)[k]'(by omega)).toNat : Int)) = true := by
        rw [eq_byte, ba_get, ba_get]
        rw [List.getElem?_eq_getElem h1, List.getElem?_eq_getElem h2] at h3
        simpa using h3
      have hmore := cp_more a b k hk h1 h2 h3
      clear h3
      go_wp2_with fail
      go_quiet (fail)
      go_wp2_with fail
      go_roundw
      case rel => exact ⟨k + 1, hmore, by go_num, _, rfl⟩
      case measure => simp [intOf]; omega
    · have hkd : k = cp a b := cp_done a b k hk (by
        by_cases h1 : k < a.length
        · by_cases h2 : k < b.length
          · exact .inr (.inr fun h3 => h0 ⟨h1, h2, h3⟩)
          · right; left; omega
        · left; omega)
      have hbl := back_le a b
      obtain ⟨a', ha'⟩ : ∃ a', Hid (a.drop k = a') := ⟨_, hide rfl⟩
      obtain ⟨b', hb'⟩ : ∃ b', Hid (b.drop k = b') := ⟨_, hide rfl⟩
      have hsa := slice_tail a k a.length rfl
      have hsb := slice_tail b k b.length rfl
      rw [ha'.out] at hsa
      rw [hb'.out] at hsb
      have hal : a'.length = a.length - k := by rw [← ha'.out, List.length_drop]
      have hbl' : b'.length = b.length - k := by rw [← hb'.out, List.length_drop]
      have HBK := hide (show backOf a b = cp a'.reverse b'.reverse by unfold backOf; rw [← hkd, ha'.out, hb'.out])
      have HKD := hide hkd
      have HAL := hide hal
      have HBL := hide hbl'
      have ha3 := ba_len a'
      have hb3 := ba_len b'
      have hca := cp_le a'.reverse b'.reverse
      rw [List.length_reverse, List.length_reverse] at hca
      have hal2 : a'.length ≤ 1000000 := by omega
      have hbl2 : b'.length ≤ 1000000 := by omega
      have hka : k ≤ a.length := by omega
      have hkb : k ≤ b.length := by omega
      have hkm : k ≤ 1000000 := by omega
      by_cases h1 : k < a.length ∧ k < b.length
      case' pos =>
        obtain ⟨h1, h2⟩ := h1
        have hmin : (k : Int) < min (a.length : Int) (b.length : Int) := by omega
        have hq : ((((⟨a.toArray⟩ : ByteArray)[k]'(by omega)).toNat : Int) == (((⟨b.toArray⟩ : ByteArray)[k]'(by omega)).toNat : Int)) = false := by
          rw [eq_byte, ba_get, ba_get, decide_eq_false_iff_not]
          intro h3
          exact h0 ⟨h1, h2, by rw [List.getElem?_eq_getElem h1, List.getElem?_eq_getElem h2, h3]⟩
        clear h0 hkd hal hbl' hbl hcl
        go_wp2_with fail
        go_quiet (fail)
        clear hq hmin
      case' neg =>
        have hmin : decide ((k : Int) < min (a.length : Int) (b.length : Int)) = false := by simp; omega
        clear h0 h1 hkd hal hbl' hbl hcl
        go_wp2_with fail
        go_quiet (fail)
        clear hmin
      all_goals
        go_wp2_with fail
        go_quiet (fail)
        go_wp2_with fail
        go_loopw [5] (fun n wr => ∃ m : Nat, m ≤ cp a'.reverse b'.reverse ∧ n = .int .i64 m ∧ ∃ q, wr = w.drewN q) (fun n _ => cp a'.reverse b'.reverse - (intOf n).toNat)
        case atStart => exact ⟨0, by omega, rfl, ex_drewN3 _ _ _ _⟩
        case round =>
          obtain ⟨m, hm, rfl, q2, rfl⟩ := hrel
          by_cases h0 : m < a'.length ∧ m < b'.length ∧ a'.reverse[m]? = b'.reverse[m]?
          · obtain ⟨h1, h2, h3⟩ := h0
            have hmin2 : (m : Int) < min (a'.length : Int) (b'.length : Int) := by omega
            have hmore := cp_more a'.reverse b'.reverse m hm (by rw [List.length_reverse]; exact h1) (by rw [List.length_reverse]; exact h2) h3
            obtain ⟨i, hi⟩ : ∃ i : Nat, a'.length = m + 1 + i := ⟨a'.length - 1 - m, by omega⟩
            obtain ⟨j, hj⟩ : ∃ j : Nat, b'.length = m + 1 + j := ⟨b'.length - 1 - m, by omega⟩
            have hia : i < a'.length := by omega
            have hjb : j < b'.length := by omega
            have hia2 : i < (⟨a'.toArray⟩ : ByteArray).size := by omega
            have hjb2 : j < (⟨b'.toArray⟩ : ByteArray).size := by omega
            have hq2 : ((((⟨a'.toArray⟩ : ByteArray)[i]'hia2).toNat : Int) == (((⟨b'.toArray⟩ : ByteArray)[j]'hjb2).toNat : Int)) = true := by
              rw [eq_byte, ba_get, ba_get]
              rw [List.getElem?_reverse h1, List.getElem?_reverse h2, show a'.length - 1 - m = i by omega, show b'.length - 1 - m = j by omega, List.getElem?_eq_getElem hia, List.getElem?_eq_getElem hjb] at h3
              simpa using h3
            have w1 : IntKind.i64.wrap ((a'.length : Int) - 1) = (a'.length : Int) - 1 := IntWalk.i64_in _ (by omega)
            have w2 : IntKind.i64.wrap ((a'.length : Int) - 1 - (m : Int)) = (i : Int) := (IntWalk.i64_in _ (by omega)).trans (by omega)
            have w3 : IntKind.i64.wrap ((b'.length : Int) - 1) = (b'.length : Int) - 1 := IntWalk.i64_in _ (by omega)
            have w4 : IntKind.i64.wrap ((b'.length : Int) - 1 - (m : Int)) = (j : Int) := (IntWalk.i64_in _ (by omega)).trans (by omega)
            clear h3 hi hj
            go_wp2_with fail
            go_quiet (fail)
            clear w1 w2 w3 w4
            go_wp2_with fail
            go_roundw
            case rel => exact ⟨m + 1, hmore, by go_num, _, rfl⟩
            case measure => simp [intOf]; omega
          · have hmd : m = cp a'.reverse b'.reverse := cp_done _ _ m hm (by
              rw [List.length_reverse, List.length_reverse]
              by_cases h1 : m < a'.length
              · by_cases h2 : m < b'.length
                · exact .inr (.inr fun h3 => h0 ⟨h1, h2, h3⟩)
                · right; left; omega
              · left; omega)
            have HMD := hide hmd
            clear hmd
            by_cases h1 : m < a'.length ∧ m < b'.length
            · obtain ⟨h1, h2⟩ := h1
              have hmin2 : (m : Int) < min (a'.length : Int) (b'.length : Int) := by omega
              obtain ⟨i, hi⟩ : ∃ i : Nat, a'.length = m + 1 + i := ⟨a'.length - 1 - m, by omega⟩
              obtain ⟨j, hj⟩ : ∃ j : Nat, b'.length = m + 1 + j := ⟨b'.length - 1 - m, by omega⟩
              have hia : i < a'.length := by omega
              have hjb : j < b'.length := by omega
              have hia2 : i < (⟨a'.toArray⟩ : ByteArray).size := by omega
              have hjb2 : j < (⟨b'.toArray⟩ : ByteArray).size := by omega
              have hq2 : ((((⟨a'.toArray⟩ : ByteArray)[i]'hia2).toNat : Int) == (((⟨b'.toArray⟩ : ByteArray)[j]'hjb2).toNat : Int)) = false := by
                rw [eq_byte, ba_get, ba_get, decide_eq_false_iff_not]
                intro h3
                refine h0 ⟨h1, h2, ?_⟩
                rw [List.getElem?_reverse h1, List.getElem?_reverse h2, show a'.length - 1 - m = i by omega, show b'.length - 1 - m = j by omega, List.getElem?_eq_getElem hia, List.getElem?_eq_getElem hjb, h3]
              have w1 : IntKind.i64.wrap ((a'.length : Int) - 1) = (a'.length : Int) - 1 := IntWalk.i64_in _ (by omega)
              have w2 : IntKind.i64.wrap ((a'.length : Int) - 1 - (m : Int)) = (i : Int) := (IntWalk.i64_in _ (by omega)).trans (by omega)
              have w3 : IntKind.i64.wrap ((b'.length : Int) - 1) = (b'.length : Int) - 1 := IntWalk.i64_in _ (by omega)
              have w4 : IntKind.i64.wrap ((b'.length : Int) - 1 - (m : Int)) = (j : Int) := (IntWalk.i64_in _ (by omega)).trans (by omega)
              clear h0 hi hj
              go_wp2_with fail
              go_quiet (fail)
              clear w1 w2 w3 w4
              go_wp2_with fail
              go_ret2
              refine ⟨?_, by first | exact ⟨_, rfl⟩ | exact ex_drewN2 _ _ _⟩
              rw [HBK.out, ← HMD.out, frontOf, ← HKD.out]; rfl
            · have hmin2 : decide ((m : Int) < min (a'.length : Int) (b'.length : Int)) = false := by simp; omega
              clear h0 h1
              go_wp2_with fail
              go_quiet (fail)
              go_wp2_with fail
              go_ret2
              refine ⟨?_, by first | exact ⟨_, rfl⟩ | exact ex_drewN2 _ _ _⟩
              rw [HBK.out, ← HMD.out, frontOf, ← HKD.out]; rfl
end Go.Proofs.Ytjmbnfcjambdkaa
