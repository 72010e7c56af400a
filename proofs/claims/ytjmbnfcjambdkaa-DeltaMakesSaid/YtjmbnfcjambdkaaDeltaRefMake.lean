/- The document's Make. -/
import Derived.Test.YtjmbnfcjambdkaaDeltaRef
namespace Go.Proofs.Ytjmbnfcjambdkaa
open Go.RowKit
theorem lay_zero (at' ln : Nat) : layPt ⟨0, at', ln, []⟩ = [0] ++ (be 4 at' ++ be 4 ln) := rfl
set_option maxRecDepth 20000 in
set_option maxHeartbeats 4000000 in
theorem makeRef_any (a b : List UInt8) (w : World) (ha : a.length ≤ 32768) (hb : b.length ≤ 32768) :
    Calls Try.prog 20 #[.string ⟨a.toArray⟩, .string ⟨b.toArray⟩] w fun q w' => q = .returned (.string ⟨(dOf a b).toArray⟩) ∧ Below w.heap.size w w' := by
  have hal := ba_len a
  have hbl := ba_len b
  have hbk := back_le a b
  obtain ⟨hbk1, hbk2⟩ := hbk
  have HML := hide (mid_length a b)
  have HSM := hide (show (⟨b.toArray⟩ : ByteArray).extract (frontOf a b) (b.length - backOf a b) = ⟨(midOf a b).toArray⟩ from slice_mid b _ _)
  have P1 := hide (show part1 a b = if 0 < frontOf a b then [⟨0, 0, frontOf a b, []⟩] else [] from rfl)
  have P2 := hide (show part2 a b = part1 a b ++ if midOf a b ≠ [] then [⟨1, 0, 0, midOf a b⟩] else [] from rfl)
  have P3 := hide (part3 a b)
  obtain ⟨n, hn⟩ : ∃ n, frontOf a b = n := ⟨_, rfl⟩
  obtain ⟨m, hm⟩ : ∃ m, backOf a b = m := ⟨_, rfl⟩
  have HAL := hide (alikeRef_any a b w (by omega) (by omega))
  rw [hn, hm] at HAL HML HSM hbk1 hbk2
  rw [hn] at P1
  rw [hm] at P3
  clear hn hm
  go_enter Try.func20, Try.ntmps20
  go_upto_if 16 with (go_at_call 18; refine HAL.out.mono ?_; rintro e w' ⟨rfl, q, rfl⟩)
  go_cut [7, 8] (fun s u wx => s = .int .i64 ((part1 a b).length : Int) ∧ (∃ T : List UInt8, u = .string ⟨T.toArray⟩ ∧ Hid (T = (part1 a b).flatMap layPt)) ∧ Below w.heap.size w wx)
  case first =>
    by_cases h1 : 0 < n
    · have h1i : (0 : Int) < (n : Int) := by omega
      obtain ⟨B1, hB1⟩ : ∃ B, Hid (B = be 4 (0)) := ⟨_, hide rfl⟩
      obtain ⟨B2, hB2⟩ : ∃ B, Hid (B = be 4 (n)) := ⟨_, hide rfl⟩
      obtain ⟨T1, hT1⟩ : ∃ T1, Hid (T1 = ([] : List UInt8) ++ [0]) := ⟨_, hide rfl⟩
      obtain ⟨T2, hT2⟩ : ∃ T2, Hid (T2 = T1 ++ B1) := ⟨_, hide rfl⟩
      obtain ⟨T3, hT3⟩ : ∃ T3, Hid (T3 = T2 ++ B2) := ⟨_, hide rfl⟩
      have k1 : (⟨([] : List UInt8).toArray⟩ : ByteArray) ++ ⟨#[0]⟩ = ⟨T1.toArray⟩ := by rw [hT1.out]; exact cat_str ([] : List UInt8) [0]
      have k2 : (⟨T1.toArray⟩ : ByteArray) ++ ⟨B1.toArray⟩ = ⟨T2.toArray⟩ := by rw [hT2.out]; exact cat_str T1 B1
      have k3 : (⟨T2.toArray⟩ : ByteArray) ++ ⟨B2.toArray⟩ = ⟨T3.toArray⟩ := by rw [hT3.out]; exact cat_str T2 B2
      have b1 : B1.length = 4 := by rw [hB1.out, be_length]
      have b2 : B2.length = 4 := by rw [hB2.out, be_length]
      have t1 : T1.length = 1 := by rw [hT1.out]; rfl
      have t2 : T2.length = T1.length + 4 := by rw [hT2.out, List.length_append, b1]
      have j1 : ¬ 9223372036854775807 < ([] : List UInt8).length + 1 := by simp
      have j2 : ¬ 9223372036854775807 < T1.length + B1.length := by omega
      have j3 : ¬ 9223372036854775807 < T2.length + B2.length := by omega
      clear b1 b2 t1 t2
      go_wp2_with fail
      refine (num4_named 0 B1 (by omega) (by omega) (by rw [hB1.out]; rfl) _).mono ?_
      rintro e2 w2 ⟨rfl, hb2⟩
      have HB2 := hide ((show Below w.heap.size w (w.drewN q) from ⟨rfl, rfl, rfl, Nat.le_refl _, fun _ _ => rfl⟩).trans hb2)
      clear hb2
      go_wp2_with fail
      refine (num4_named (n : Int) B2 (by omega) (by omega) (by rw [hB2.out]; simp) _).mono ?_
      rintro e3 w3 ⟨rfl, hb3⟩
      have HB3 := hide (HB2.out.trans (hb3.mono HB2.out.size))
      clear hb3
      go_wp2_with fail
      go_meet
      case rel =>
        rw [P1.out, if_pos h1]
        refine ⟨rfl, ⟨T3, rfl, hide ?_⟩, HB3.out⟩
        rw [hT3.out, hT2.out, hT1.out, hB1.out, hB2.out]; simp [lay_zero]
    · have h1i : ¬ (0 : Int) < (n : Int) := by omega
      go_wp2_with fail
      go_meet
      case rel =>
        rw [P1.out, if_neg h1]
        exact ⟨rfl, ⟨[], rfl, hide rfl⟩, ⟨rfl, rfl, rfl, Nat.le_refl _, fun _ _ => rfl⟩⟩
  case rest =>
    obtain ⟨rfl, ⟨T, rfl, hT⟩, hb1⟩ := hcut
    have HB := hide hb1
    clear hb1
    have hTl : T.length ≤ 1000000 := by
      rw [hT.out]
      have := flat_len layPt 100005 (part1 a b) (fun p hp => layPt_length p (parts_plain a b ha hb p (by rw [part3, P2.out]; simp [hp])).1.1)
      have := (parts_le a b).1
      omega
    have hp1 := (parts_le a b).1
    obtain ⟨l1, hl1⟩ : ∃ l1, Hid ((part1 a b).length = l1) := ⟨_, hide rfl⟩
    rw [hl1.out] at hp1 ⊢
    go_upto_if 32 with fail
    go_cut [7, 8] (fun s u wx => s = .int .i64 ((part2 a b).length : Int) ∧ (∃ T : List UInt8, u = .string ⟨T.toArray⟩ ∧ Hid (T = (part2 a b).flatMap layPt)) ∧ Below w.heap.size w wx)
    case first =>
      obtain ⟨M, hM⟩ : ∃ M, midOf a b = M := ⟨_, rfl⟩
      rw [hM] at HSM P2 HML
      clear hM
      by_cases h1 : n + m < b.length
      · have h1i : (n : Int) + (m : Int) < (b.length : Int) := by omega
        have hM0 : M ≠ [] := fun e => by have := HML.out; rw [e] at this; simp at this; omega
        have HM0 := hide hM0
        have hsm := HSM.out
        have hMl : M.length ≤ 32768 := by have := HML.out; omega
        obtain ⟨B1, hB1⟩ : ∃ B, Hid (B = lenText ⟨M.toArray⟩) := ⟨_, hide rfl⟩
        obtain ⟨T1, hT1⟩ : ∃ T1, Hid (T1 = T ++ [1]) := ⟨_, hide rfl⟩
        obtain ⟨T2, hT2⟩ : ∃ T2, Hid (T2 = T1 ++ B1) := ⟨_, hide rfl⟩
        have k1 : (⟨T.toArray⟩ : ByteArray) ++ ⟨#[1]⟩ = ⟨T1.toArray⟩ := by rw [hT1.out]; exact cat_str T [1]
        have k2 : (⟨T1.toArray⟩ : ByteArray) ++ ⟨B1.toArray⟩ = ⟨T2.toArray⟩ := by rw [hT2.out]; exact cat_str T1 B1
        have b1 : B1.length = 4 + M.length := by rw [hB1.out, lenText_length, ba_len]
        have t1 : T1.length = T.length + 1 := by rw [hT1.out, List.length_append]; rfl
        have j1 : ¬ 9223372036854775807 < T.length + 1 := by omega
        have j2 : ¬ 9223372036854775807 < T1.length + B1.length := by omega
        clear b1 t1 hM0
        go_wp2_with fail
        refine (textRef ⟨M.toArray⟩ B1 hB1.out _ (by rw [ba_len]; omega)).mono ?_
        rintro e2 w2 ⟨rfl, hb2⟩
        have HB2 := hide (HB.out.trans (hb2.mono HB.out.size))
        clear hb2
        go_wp2_with fail
        go_meet
        case rel =>
          rw [P2.out, if_pos HM0.out]
          refine ⟨by rw [List.length_append, hl1.out]; rfl, ⟨T2, rfl, hide ?_⟩, HB2.out⟩
          rw [hT2.out, hT1.out, hB1.out, lenL_text, hT.out, List.flatMap_append]; simp [layPt]
      · have h1i : ¬ (n : Int) + (m : Int) < (b.length : Int) := by omega
        have hM0 : M = [] := List.eq_nil_of_length_eq_zero (by have := HML.out; omega)
        subst hM0
        go_wp2_with fail
        go_meet
        case rel =>
          rw [P2.out, if_neg (by simp), List.append_nil]
          exact ⟨by rw [hl1.out], ⟨T, rfl, hT⟩, HB.out⟩
    case rest =>
      clear HB hT hTl
      obtain ⟨rfl, ⟨T, rfl, hT⟩, hb1⟩ := hcut
      have HB := hide hb1
      clear hb1
      have hTl : T.length ≤ 1000000 := by
        rw [hT.out]
        have := flat_len layPt 100005 (part2 a b) (fun p hp => layPt_length p (parts_plain a b ha hb p (by rw [part3]; simp [hp])).1.1)
        have := (parts_le a b).2.1
        omega
      have hp2 := (parts_le a b).2.1
      obtain ⟨l2, hl2⟩ : ∃ l2, Hid ((part2 a b).length = l2) := ⟨_, hide rfl⟩
      rw [hl2.out] at hp2 ⊢
      go_upto_if 47 with fail
      go_cut [7, 8] (fun s u wx => s = .int .i64 ((partsOf a b).length : Int) ∧ (∃ T : List UInt8, u = .string ⟨T.toArray⟩ ∧ Hid (T = (partsOf a b).flatMap layPt)) ∧ Below w.heap.size w wx)
      case first =>
        by_cases h1 : 0 < m
        · have h1i : (0 : Int) < (m : Int) := by omega
          obtain ⟨B1, hB1⟩ : ∃ B, Hid (B = be 4 (a.length - m)) := ⟨_, hide rfl⟩
          obtain ⟨B2, hB2⟩ : ∃ B, Hid (B = be 4 (m)) := ⟨_, hide rfl⟩
          obtain ⟨T1, hT1⟩ : ∃ T1, Hid (T1 = T ++ [0]) := ⟨_, hide rfl⟩
          obtain ⟨T2, hT2⟩ : ∃ T2, Hid (T2 = T1 ++ B1) := ⟨_, hide rfl⟩
          obtain ⟨T3, hT3⟩ : ∃ T3, Hid (T3 = T2 ++ B2) := ⟨_, hide rfl⟩
          have k1 : (⟨T.toArray⟩ : ByteArray) ++ ⟨#[0]⟩ = ⟨T1.toArray⟩ := by rw [hT1.out]; exact cat_str T [0]
          have k2 : (⟨T1.toArray⟩ : ByteArray) ++ ⟨B1.toArray⟩ = ⟨T2.toArray⟩ := by rw [hT2.out]; exact cat_str T1 B1
          have k3 : (⟨T2.toArray⟩ : ByteArray) ++ ⟨B2.toArray⟩ = ⟨T3.toArray⟩ := by rw [hT3.out]; exact cat_str T2 B2
          have b1 : B1.length = 4 := by rw [hB1.out, be_length]
          have b2 : B2.length = 4 := by rw [hB2.out, be_length]
          have t1 : T1.length = T.length + 1 := by rw [hT1.out, List.length_append]; rfl
          have t2 : T2.length = T1.length + 4 := by rw [hT2.out, List.length_append, b1]
          have j1 : ¬ 9223372036854775807 < T.length + 1 := by omega
          have j2 : ¬ 9223372036854775807 < T1.length + B1.length := by omega
          have j3 : ¬ 9223372036854775807 < T2.length + B2.length := by omega
          clear b1 b2 t1 t2
          go_wp2_with fail
          refine (num4_named ((a.length : Int) - (m : Int)) B1 (by omega) (by omega) (by rw [hB1.out]; congr 1; omega) _).mono ?_
          rintro e2 w2 ⟨rfl, hb2⟩
          have HB2 := hide (HB.out.trans (hb2.mono HB.out.size))
          clear hb2
          go_wp2_with fail
          refine (num4_named (m : Int) B2 (by omega) (by omega) (by rw [hB2.out]; simp) _).mono ?_
          rintro e3 w3 ⟨rfl, hb3⟩
          have HB3 := hide (HB2.out.trans (hb3.mono HB2.out.size))
          clear hb3
          go_wp2_with fail
          go_meet
          case rel =>
            rw [P3.out, if_pos h1]
            refine ⟨by rw [List.length_append, hl2.out]; rfl, ⟨T3, rfl, hide ?_⟩, HB3.out⟩
            rw [hT3.out, hT2.out, hT1.out, hB1.out, hB2.out, hT.out, List.flatMap_append]; simp [lay_zero]
        · have h1i : ¬ (0 : Int) < (m : Int) := by omega
          go_wp2_with fail
          go_meet
          case rel =>
            rw [P3.out, if_neg h1, List.append_nil]
            exact ⟨by rw [hl2.out], ⟨T, rfl, hT⟩, HB.out⟩
      case rest =>
        clear HB hT hTl
        obtain ⟨rfl, ⟨T, rfl, hT⟩, hb1⟩ := hcut
        have HB := hide hb1
        clear hb1
        have hTl : T.length ≤ 1000000 := by
          rw [hT.out]
          have := flat_len layPt 100005 (partsOf a b) (fun p hp => layPt_length p (parts_plain a b ha hb p hp).1.1)
          have := (parts_le a b).2.2
          omega
        have hp3 := (parts_le a b).2.2
        obtain ⟨l3, hl3⟩ : ∃ l3, Hid ((partsOf a b).length = l3) := ⟨_, hide rfl⟩
        rw [hl3.out] at hp3 ⊢
        obtain ⟨B1, hB1⟩ : ∃ B, Hid (B = be 4 a.length) := ⟨_, hide rfl⟩
        obtain ⟨B2, hB2⟩ : ∃ B, Hid (B = be 4 b.length) := ⟨_, hide rfl⟩
        obtain ⟨B3, hB3⟩ : ∃ B, Hid (B = be 4 l3) := ⟨_, hide rfl⟩
        obtain ⟨T1, hT1⟩ : ∃ T1, Hid (T1 = B1 ++ B2) := ⟨_, hide rfl⟩
        obtain ⟨T2, hT2⟩ : ∃ T2, Hid (T2 = T1 ++ B3) := ⟨_, hide rfl⟩
        obtain ⟨T3, hT3⟩ : ∃ T3, Hid (T3 = T2 ++ T) := ⟨_, hide rfl⟩
        have k1 : (⟨B1.toArray⟩ : ByteArray) ++ ⟨B2.toArray⟩ = ⟨T1.toArray⟩ := by rw [hT1.out]; exact cat_str B1 B2
        have k2 : (⟨T1.toArray⟩ : ByteArray) ++ ⟨B3.toArray⟩ = ⟨T2.toArray⟩ := by rw [hT2.out]; exact cat_str T1 B3
        have k3 : (⟨T2.toArray⟩ : ByteArray) ++ ⟨T.toArray⟩ = ⟨T3.toArray⟩ := by rw [hT3.out]; exact cat_str T2 T
        have b1 : B1.length = 4 := by rw [hB1.out, be_length]
        have b2 : B2.length = 4 := by rw [hB2.out, be_length]
        have b3 : B3.length = 4 := by rw [hB3.out, be_length]
        have t1 : T1.length = B1.length + B2.length := by rw [hT1.out, List.length_append]
        have t2 : T2.length = T1.length + 4 := by rw [hT2.out, List.length_append, b3]
        have j1 : ¬ 9223372036854775807 < B1.length + B2.length := by omega
        have j2 : ¬ 9223372036854775807 < T1.length + B3.length := by omega
        have j3 : ¬ 9223372036854775807 < T2.length + T.length := by omega
        clear b1 b2 b3 t1 t2
        go_wp2_with fail
        refine (num4_named (a.length : Int) B1 (by omega) (by omega) (by rw [hB1.out]; simp) _).mono ?_
        rintro e2 w2 ⟨rfl, hb2⟩
        have HB2 := hide (HB.out.trans (hb2.mono HB.out.size))
        clear hb2
        go_wp2_with fail
        refine (num4_named (b.length : Int) B2 (by omega) (by omega) (by rw [hB2.out]; simp) _).mono ?_
        rintro e3 w3 ⟨rfl, hb3⟩
        have HB3 := hide (HB2.out.trans (hb3.mono HB2.out.size))
        clear hb3
        go_wp2_with fail
        refine (num4_named (l3 : Int) B3 (by omega) (by omega) (by rw [hB3.out]; simp) _).mono ?_
        rintro e4 w4 ⟨rfl, hb4⟩
        have HB4 := hide (HB3.out.trans (hb4.mono HB3.out.size))
        clear hb4
        go_wp2_with fail
        go_ret
        refine ⟨?_, HB4.out⟩
        rw [hT3.out, hT2.out, hT1.out, hB1.out, hB2.out, hB3.out, hT.out, ← hl3.out]
        simp [dOf, deltaOf]
end Go.Proofs.Ytjmbnfcjambdkaa
