/- DeltaBack: what it returns. -/
import Derived.Test.YtjmbnfcjambdkaaDeltaAwake
namespace Go.Proofs.Ytjmbnfcjambdkaa.deltaBack
open Go.RowKit
set_option maxRecDepth 20000 in
set_option maxHeartbeats 4000000 in
theorem walk (s t m : ByteArray) (w : World) (hs : s.size ≤ maxLen) (ht : t.size ≤ maxLen) (hm : m.size ≤ maxLen) :
    Calls Try.prog 5 #[.string s, .string t, .string m] w fun e w' => e = .returned (.bool true) ∧ Below w.heap.size w w' := by
  obtain ⟨a, rfl⟩ : ∃ a : List UInt8, s = ⟨a.toArray⟩ := ⟨s.data.toList, by simp⟩
  obtain ⟨b, rfl⟩ : ∃ a : List UInt8, t = ⟨a.toArray⟩ := ⟨t.data.toList, by simp⟩
  obtain ⟨c, rfl⟩ : ∃ a : List UInt8, m = ⟨a.toArray⟩ := ⟨m.data.toList, by simp⟩
  have ha := ba_len a
  have hb := ba_len b
  have hc := ba_len c
  unfold maxLen at hs ht hm
  by_cases h0 : a.length ≤ 3000 ∧ b.length ≤ 3000 ∧ c.length ≤ 3000
  · obtain ⟨h1, h2, h3⟩ := h0
    have i1 : ¬ (3000 : Int) < (a.length : Int) := by omega
    have i2 : ¬ (3000 : Int) < (b.length : Int) := by omega
    have i3 : ¬ (3000 : Int) < (c.length : Int) := by omega
    go_enter Try.func5, Try.ntmps5
    go_wp2_with fail
    refine (awake20_any _).mono ?_
    rintro e1 w1 ⟨rfl, hb1⟩
    have HB1 := hide hb1
    clear hb1
    go_wp2_with fail
    refine (make_d a b w1 (by omega) (by omega)).mono ?_
    rintro e2 w2 ⟨rfl, hb2⟩
    have HB2 := hide (HB1.out.trans (hb2.mono HB1.out.size))
    have HA := hide (apply_d a b w2 (by omega) (by omega))
    clear hb2
    obtain ⟨D, hDD⟩ : ∃ D, Hid (dOf a b = D) := ⟨_, hide rfl⟩
    rw [hDD.out] at HA ⊢
    go_wp2_with fail
    refine HA.out.mono ?_
    rintro e3 w3 ⟨rfl, hb3⟩
    have HB3 := hide (HB2.out.trans (hb3.mono HB2.out.size))
    clear hb3 HA
    have hcat := cat_str a c
    have hbk := back_le a b
    have HT := hide (cp_take a b)
    have HS := hide (back_same a b)
    have HAL := hide (fun w => alike_any a b w (by omega) (by omega))
    obtain ⟨n, hn⟩ : ∃ n, Hid (frontOf a b = n) := ⟨_, hide rfl⟩
    obtain ⟨m, hm⟩ : ∃ m, Hid (backOf a b = m) := ⟨_, hide rfl⟩
    rw [show cp a b = frontOf a b from rfl, hn.out] at HT
    rw [hm.out] at HS
    rw [hn.out, hm.out] at HAL hbk
    obtain ⟨hbk1, hbk2⟩ := hbk
    obtain ⟨p, hp⟩ : ∃ p, a.length = p + m := ⟨a.length - m, by omega⟩
    obtain ⟨q, hq⟩ : ∃ q, b.length = q + m := ⟨b.length - m, by omega⟩
    have w1 : IntKind.i64.wrap ((a.length : Int) - (m : Int)) = (p : Int) := (IntWalk.i64_in _ (by omega)).trans (by omega)
    have w2 : IntKind.i64.wrap ((b.length : Int) - (m : Int)) = (q : Int) := (IntWalk.i64_in _ (by omega)).trans (by omega)
    have w3' : IntKind.i64.wrap ((n : Int) + (m : Int)) = (n : Int) + (m : Int) := IntWalk.i64_in _ (by omega)
    have e1 := slice_front a n
    have e2 := slice_front b n
    have e3 := slice_tail a p a.length rfl
    have e4 := slice_tail b q b.length rfl
    have HPQ := HS.out
    rw [show a.length - m = p by omega, show b.length - m = q by omega] at HPQ
    rw [← HT.out] at e2
    rw [← HPQ] at e4
    have hle : (n : Int) + (m : Int) ≤ min (a.length : Int) (b.length : Int) := by omega
    have hn1 : n ≤ a.length := by omega
    have hn2 : n ≤ b.length := by omega
    have hp1 : p ≤ a.length := by omega
    have hq1 : q ≤ b.length := by omega
    obtain ⟨F, hF⟩ : ∃ F, a.take n = F := ⟨_, rfl⟩
    obtain ⟨G, hG⟩ : ∃ G, a.drop p = G := ⟨_, rfl⟩
    rw [hF] at e1 e2
    rw [hG] at e3 e4
    have W1 := hide w1
    have W2 := hide w2
    have W3 := hide w3'
    have E1 := hide e1
    have E2 := hide e2
    have E3 := hide e3
    have E4 := hide e4
    clear w1 w2 w3' e1 e2 e3 e4 hF hG HPQ hp hq
    by_cases h0 : c = []
    · subst h0
      rw [List.append_nil] at hcat
      have HAP := hide (apply_d a b w3 (by omega) (by omega))
      rw [hDD.out] at HAP
      go_wp2_with fail
      refine HAP.out.mono ?_
      rintro e4 w4 ⟨rfl, hb4⟩
      have HB4 := hide (HB3.out.trans (hb4.mono HB3.out.size))
      clear hb4 hcat
      go_wp2_with fail
      refine (HAL.out w4).mono ?_
      rintro e5 w5 ⟨rfl, q5, rfl⟩
      have hE : (⟨([] : List UInt8).toArray⟩ : ByteArray).toList.isEmpty = true := emp_true _ rfl
      have w1 := W1.out
      have w2 := W2.out
      have w3' := W3.out
      have e1 := E1.out
      have e2 := E2.out
      have e3 := E3.out
      have e4 := E4.out
      go_wp2_with fail
      go_quiet (fail)
      go_wp2_with fail
      go_ret
      exact ⟨rfl, HB4.out.os, HB4.out.tape, HB4.out.output, HB4.out.size, HB4.out.block⟩
    · have HAP := hide (apply_far (a ++ c) a b w3 (by omega) (by omega) (by rw [List.length_append]; omega) (by rw [List.length_append]; have := List.length_pos_iff.2 h0; omega))
      rw [hDD.out] at HAP
      have hE0 : c.isEmpty = false := by simpa using h0
      have HE := hide (emp_false ⟨c.toArray⟩ (by rw [hc]; exact List.length_pos_iff.2 h0))
      clear h0
      go_wp2_with fail
      refine HAP.out.mono ?_
      rintro e4 w4 ⟨rfl, hb4⟩
      have HB4 := hide (HB3.out.trans (hb4.mono HB3.out.size))
      clear hb4 hcat
      go_wp2_with fail
      refine (HAL.out w4).mono ?_
      rintro e5 w5 ⟨rfl, q5, rfl⟩
      have hE := HE.out
      have w1 := W1.out
      have w2 := W2.out
      have w3' := W3.out
      have e1 := E1.out
      have e2 := E2.out
      have e3 := E3.out
      have e4 := E4.out
      go_wp2_with fail
      go_quiet (fail)
      go_wp2_with fail
      go_ret
      exact ⟨rfl, HB4.out.os, HB4.out.tape, HB4.out.output, HB4.out.size, HB4.out.block⟩
  · by_cases h1 : a.length ≤ 3000
    · have i1 : ¬ (3000 : Int) < (a.length : Int) := by omega
      by_cases h2 : b.length ≤ 3000
      · have i2 : ¬ (3000 : Int) < (b.length : Int) := by omega
        have i3 : (3000 : Int) < (c.length : Int) := by omega
        clear h0
        go_enter Try.func5, Try.ntmps5
        go_wp2_with (go_at_call 16; refine (awake20_any _).mono ?_; rintro e1 w1 ⟨rfl, hb1⟩; have HB1 := hide hb1; clear hb1)
        go_ret
        exact ⟨rfl, HB1.out⟩
      · have i2 : (3000 : Int) < (b.length : Int) := by omega
        clear h0
        go_enter Try.func5, Try.ntmps5
        go_wp2_with (go_at_call 16; refine (awake20_any _).mono ?_; rintro e1 w1 ⟨rfl, hb1⟩; have HB1 := hide hb1; clear hb1)
        go_ret
        exact ⟨rfl, HB1.out⟩
    · have i1 : (3000 : Int) < (a.length : Int) := by omega
      clear h0
      go_enter Try.func5, Try.ntmps5
      go_wp2_with (go_at_call 16; refine (awake20_any _).mono ?_; rintro e1 w1 ⟨rfl, hb1⟩; have HB1 := hide hb1; clear hb1)
      go_ret
      exact ⟨rfl, HB1.out⟩
end Go.Proofs.Ytjmbnfcjambdkaa.deltaBack
