/- The document's Alike. -/
import Derived.Test.YtjmbnfcjambdkaaDeltaAwake
namespace Go.Proofs.Ytjmbnfcjambdkaa
open Go.RowKit
theorem rev_drop_get (a : List UInt8) (n m : Nat) (h : m < a.length - n) : (a.drop n).reverse[m]? = some (a[a.length - 1 - m]'(by omega)) := by
  rw [List.getElem?_reverse (by rw [List.length_drop]; exact h), List.length_drop, List.getElem?_drop, List.getElem?_eq_getElem (by omega)]
  congr 2; omega
set_option maxRecDepth 20000 in
set_option maxHeartbeats 4000000 in
theorem alikeRef_any (a b : List UInt8) (w : World) (ha : a.length ≤ 1000000) (hb : b.length ≤ 1000000) :
    Calls Try.prog 18 #[.string ⟨a.toArray⟩, .string ⟨b.toArray⟩] w fun e w' => e = .returned (.tuple #[.int .i64 (frontOf a b : Int), .int .i64 (backOf a b : Int)]) ∧ ∃ q, w' = w.drewN q := by
  have ha2 := ba_len a
  have hb2 := ba_len b
  go_enter Try.func18, Try.ntmps18
  go_wp2_with fail
  go_loopw [6] (fun n wr => ∃ k : Nat, k ≤ cp a b ∧ n = .int .i64 k ∧ ∃ q, wr = w.drewN q) (fun n _ => cp a b - (intOf n).toNat)
  case atStart => exact ⟨0, by omega, rfl, 0, rfl⟩
  case round =>
    obtain ⟨k, hk, rfl, q, rfl⟩ := hrel
    have hcl := cp_le a b
    by_cases h0 : k < a.length ∧ k < b.length ∧ a[k]? = b[k]?
    · obtain ⟨h1, h2, h3⟩ := h0
      have h1i : (k : Int) < (a.length : Int) := by omega
      have h2i : (k : Int) < (b.length : Int) := by omega
      have hq : ((((⟨a.toArray⟩ : ByteArray)[k]'(by omega)).toNat : Int) == (((⟨b.toArray⟩ : ByteArray)[k]'(by omega)).toNat : Int)) = true := by
        rw [eq_byte, ba_get, ba_get]
        rw [List.getElem?_eq_getElem h1, List.getElem?_eq_getElem h2] at h3
        simpa using h3
      have hmore := cp_more a b k hk h1 h2 h3
      clear h3
      go_wp2_with fail
      go_quiet (fail)
      go_wp2_with fail
      go_roundw
      case rel => exact ⟨k + 1, hmore, by go_num, _, rfl⟩
      case measure => simp [intOf]; omega
    · have hkd : k = cp a b := cp_done a b k hk (by
        by_cases h1 : k < a.length
        · by_cases h2 : k < b.length
          · exact .inr (.inr fun h3 => h0 ⟨h1, h2, h3⟩)
          · right; left; omega
        · left; omega)
      have hbl := back_le a b
      have HBK := hide (show backOf a b = cp (a.drop k).reverse (b.drop k).reverse by unfold backOf; rw [← hkd])
      have HKD := hide hkd
      have hka : k ≤ a.length := by omega
      have hkb : k ≤ b.length := by omega
      obtain ⟨la, hla⟩ : ∃ la, a.length = k + la := ⟨a.length - k, by omega⟩
      obtain ⟨lb, hlb⟩ : ∃ lb, b.length = k + lb := ⟨b.length - k, by omega⟩
      have hca := cp_le (a.drop k).reverse (b.drop k).reverse
      rw [List.length_reverse, List.length_reverse, List.length_drop, List.length_drop] at hca
      obtain ⟨C, hC⟩ : ∃ C, Hid (cp (a.drop k).reverse (b.drop k).reverse = C) := ⟨_, hide rfl⟩
      rw [hC.out] at hca HBK
      have v1 : IntKind.i64.wrap ((a.length : Int) - (k : Int)) = (la : Int) := (IntWalk.i64_in _ (by omega)).trans (by omega)
      have v2 : IntKind.i64.wrap ((b.length : Int) - (k : Int)) = (lb : Int) := (IntWalk.i64_in _ (by omega)).trans (by omega)
      have u1 : IntKind.i64.wrap ((a.length : Int) - 1) = (a.length : Int) - 1 := IntWalk.i64_in _ (by omega)
      have u3 : IntKind.i64.wrap ((b.length : Int) - 1) = (b.length : Int) - 1 := IntWalk.i64_in _ (by omega)
      have V1 := hide v1
      have V2 := hide v2
      have U1 := hide u1
      have U3 := hide u3
      have hca1 : C ≤ la := by omega
      have hca2 : C ≤ lb := by omega
      have HLA := hide hla
      have HLB := hide hlb
      clear v1 v2 u1 u3 hca hla hlb
      have hc3 : (k < a.length ∧ k < b.length) ∨ (k < a.length ∧ ¬ k < b.length) ∨ ¬ k < a.length := by omega
      rcases hc3 with ⟨h1, h2⟩ | ⟨h1, h2⟩ | h1
      case' inl =>
        have h1i : (k : Int) < (a.length : Int) := by omega
        have h2i : (k : Int) < (b.length : Int) := by omega
        have hq : ((((⟨a.toArray⟩ : ByteArray)[k]'(by omega)).toNat : Int) == (((⟨b.toArray⟩ : ByteArray)[k]'(by omega)).toNat : Int)) = false := by
          rw [eq_byte, ba_get, ba_get, decide_eq_false_iff_not]
          intro h3
          exact h0 ⟨h1, h2, by rw [List.getElem?_eq_getElem h1, List.getElem?_eq_getElem h2, h3]⟩
        clear h0 hkd hbl hcl
        go_wp2_with fail
        go_quiet (fail)
        clear hq
      case' inr.inl =>
        have h1i : (k : Int) < (a.length : Int) := by omega
        have h2i : decide ((k : Int) < (b.length : Int)) = false := by simp; omega
        clear h0 hkd hbl hcl
        go_wp2_with fail
        go_quiet (fail)
        clear h2i
      case' inr.inr =>
        have h1i : decide ((k : Int) < (a.length : Int)) = false := by simp; omega
        clear h0 hkd hbl hcl
        go_wp2_with fail
        go_quiet (fail)
        clear h1i
      all_goals
        go_wp2_with fail
        go_loopw [7] (fun n wr => ∃ m : Nat, m ≤ C ∧ n = .int .i64 m ∧ ∃ q, wr = w.drewN q) (fun n _ => C - (intOf n).toNat)
        case atStart => exact ⟨0, by omega, rfl, by first | exact ⟨_, rfl⟩ | exact ex_drewN2 _ _ _⟩
        case round =>
          obtain ⟨m, hm, rfl, q2, rfl⟩ := hrel
          by_cases h0 : m < la ∧ m < lb ∧ (a.drop k).reverse[m]? = (b.drop k).reverse[m]?
          · obtain ⟨h1, h2, h3⟩ := h0
            have hla := HLA.out
            have hlb := HLB.out
            have h1i : (m : Int) < (la : Int) := by omega
            have h2i : (m : Int) < (lb : Int) := by omega
            have hmb : (m : Int) ≤ 1000000 := by omega
            have hmore := cp_more _ _ m (hC.out ▸ hm) (by rw [List.length_reverse, List.length_drop]; omega) (by rw [List.length_reverse, List.length_drop]; omega) h3
            rw [hC.out] at hmore
            obtain ⟨i, hi⟩ : ∃ i : Nat, a.length = m + 1 + i := ⟨a.length - 1 - m, by omega⟩
            obtain ⟨j, hj⟩ : ∃ j : Nat, b.length = m + 1 + j := ⟨b.length - 1 - m, by omega⟩
            have hia : i < a.length := by omega
            have hjb : j < b.length := by omega
            have hia2 : i < (⟨a.toArray⟩ : ByteArray).size := by omega
            have hjb2 : j < (⟨b.toArray⟩ : ByteArray).size := by omega
            have hq2 : ((((⟨a.toArray⟩ : ByteArray)[i]'hia2).toNat : Int) == (((⟨b.toArray⟩ : ByteArray)[j]'hjb2).toNat : Int)) = true := by
              rw [eq_byte, ba_get, ba_get]
              rw [rev_drop_get a k m (by omega), rev_drop_get b k m (by omega)] at h3
              simp only [show a.length - 1 - m = i by omega, show b.length - 1 - m = j by omega] at h3
              simpa using h3
            have w2 : IntKind.i64.wrap ((a.length : Int) - 1 - (m : Int)) = (i : Int) := (IntWalk.i64_in _ (by omega)).trans (by omega)
            have w4 : IntKind.i64.wrap ((b.length : Int) - 1 - (m : Int)) = (j : Int) := (IntWalk.i64_in _ (by omega)).trans (by omega)
            have v1 := V1.out
            have v2 := V2.out
            have u1 := U1.out
            have u3 := U3.out
            clear h3 hi hj hla hlb
            go_wp2_with fail
            go_quiet (fail)
            clear v1 v2 u1 u3 w2 w4 hq2
            go_wp2_with fail
            go_roundw
            case rel => exact ⟨m + 1, hmore, by go_num, _, rfl⟩
            case measure => simp [intOf]; omega
          · have hmc : m ≤ cp (a.drop k).reverse (b.drop k).reverse := by rw [hC.out]; exact hm
            have hd : m = (a.drop k).reverse.length ∨ m = (b.drop k).reverse.length ∨ (a.drop k).reverse[m]? ≠ (b.drop k).reverse[m]? := by
              rw [List.length_reverse, List.length_reverse, List.length_drop, List.length_drop, HLA.out, HLB.out]
              by_cases h1 : m < la
              · by_cases h2 : m < lb
                · exact .inr (.inr fun h3 => h0 ⟨h1, h2, h3⟩)
                · right; left; omega
              · left; omega
            have hmd := cp_done _ _ m hmc hd
            clear hmc hd
            rw [hC.out] at hmd
            have HMD := hide hmd
            clear hmd
            by_cases h1 : m < la
            · have h1i : (m : Int) < (la : Int) := by omega
              by_cases h2 : m < lb
              · have hla := HLA.out
                have hlb := HLB.out
                have h2i : (m : Int) < (lb : Int) := by omega
                obtain ⟨i, hi⟩ : ∃ i : Nat, a.length = m + 1 + i := ⟨a.length - 1 - m, by omega⟩
                obtain ⟨j, hj⟩ : ∃ j : Nat, b.length = m + 1 + j := ⟨b.length - 1 - m, by omega⟩
                have hia : i < a.length := by omega
                have hjb : j < b.length := by omega
                have hia2 : i < (⟨a.toArray⟩ : ByteArray).size := by omega
                have hjb2 : j < (⟨b.toArray⟩ : ByteArray).size := by omega
                have hq2 : ((((⟨a.toArray⟩ : ByteArray)[i]'hia2).toNat : Int) == (((⟨b.toArray⟩ : ByteArray)[j]'hjb2).toNat : Int)) = false := by
                  rw [eq_byte, ba_get, ba_get, decide_eq_false_iff_not]
                  intro h3
                  refine h0 ⟨h1, h2, ?_⟩
                  rw [rev_drop_get a k m (by omega), rev_drop_get b k m (by omega)]
                  simp only [show a.length - 1 - m = i by omega, show b.length - 1 - m = j by omega]
                  rw [h3]
                have w2 : IntKind.i64.wrap ((a.length : Int) - 1 - (m : Int)) = (i : Int) := (IntWalk.i64_in _ (by omega)).trans (by omega)
                have w4 : IntKind.i64.wrap ((b.length : Int) - 1 - (m : Int)) = (j : Int) := (IntWalk.i64_in _ (by omega)).trans (by omega)
                have v1 := V1.out
                have v2 := V2.out
                have u1 := U1.out
                have u3 := U3.out
                clear h0 hi hj hla hlb
                go_wp2_with fail
                go_quiet (fail)
                clear v1 v2 u1 u3 w2 w4 hq2
                go_wp2_with fail
                go_ret2
                refine ⟨?_, by first | exact ⟨_, rfl⟩ | exact ex_drewN2 _ _ _⟩
                rw [HBK.out, ← HMD.out, frontOf, ← HKD.out]; rfl
              · have h2i : decide ((m : Int) < (lb : Int)) = false := by simp; omega
                have v1 := V1.out
                have v2 := V2.out
                clear h0
                go_wp2_with fail
                go_quiet (fail)
                clear v1 v2
                go_wp2_with fail
                go_ret2
                refine ⟨?_, by first | exact ⟨_, rfl⟩ | exact ex_drewN2 _ _ _⟩
                rw [HBK.out, ← HMD.out, frontOf, ← HKD.out]; rfl
            · have h1i : decide ((m : Int) < (la : Int)) = false := by simp; omega
              have v1 := V1.out
              have v2 := V2.out
              clear h0
              go_wp2_with fail
              go_quiet (fail)
              clear v1 v2
              go_wp2_with fail
              go_ret2
              refine ⟨?_, by first | exact ⟨_, rfl⟩ | exact ex_drewN2 _ _ _⟩
              rw [HBK.out, ← HMD.out, frontOf, ← HKD.out]; rfl
end Go.Proofs.Ytjmbnfcjambdkaa
