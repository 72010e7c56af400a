/- DeltaMakes: what it returns. -/
import Derived.Test.YtjmbnfcjambdkaaDeltaRefMake
namespace Go.Proofs.Ytjmbnfcjambdkaa.deltaMakes
open Go.RowKit
set_option maxRecDepth 20000 in
set_option maxHeartbeats 4000000 in
theorem walk (s t : ByteArray) (w : World) (hs : s.size ≤ maxLen) (ht : t.size ≤ maxLen) :
    Calls Try.prog 4 #[.string s, .string t] w fun e w' => e = .returned (.bool true) ∧ Below w.heap.size w w' := by
  obtain ⟨a, rfl⟩ : ∃ a : List UInt8, s = ⟨a.toArray⟩ := ⟨s.data.toList, by simp⟩
  obtain ⟨b, rfl⟩ : ∃ a : List UInt8, t = ⟨a.toArray⟩ := ⟨t.data.toList, by simp⟩
  have ha := ba_len a
  have hb := ba_len b
  unfold maxLen at hs ht
  by_cases h1 : a.length ≤ 3000
  · have i1 : ¬ (3000 : Int) < (a.length : Int) := by omega
    by_cases h2 : b.length ≤ 3000
    · have i2 : ¬ (3000 : Int) < (b.length : Int) := by omega
      have HA := hide (fun w => alike_any a b w (by omega) (by omega))
      have HR := hide (fun w => alikeRef_any a b w (by omega) (by omega))
      have HM := hide (fun w => make_d a b w (by omega) (by omega))
      have HN := hide (fun w => makeRef_any a b w (by omega) (by omega))
      obtain ⟨n, hn⟩ : ∃ n, Hid (frontOf a b = n) := ⟨_, hide rfl⟩
      obtain ⟨m, hm⟩ : ∃ m, Hid (backOf a b = m) := ⟨_, hide rfl⟩
      obtain ⟨D, hD⟩ : ∃ D, Hid (dOf a b = D) := ⟨_, hide rfl⟩
      rw [hn.out, hm.out] at HA HR
      rw [hD.out] at HM HN
      go_enter Try.func4, Try.ntmps4
      go_wp2_with fail
      refine (awake20_any _).mono ?_
      rintro e1 w1 ⟨rfl, hb1⟩
      have HB1 := hide hb1
      clear hb1
      go_wp2_with fail
      refine (HA.out w1).mono ?_
      rintro e2 w2 ⟨rfl, q2, rfl⟩
      go_wp2_with fail
      refine (HR.out _).mono ?_
      rintro e3 w3 ⟨rfl, q3, rfl⟩
      go_wp2_with fail
      refine (HM.out _).mono ?_
      rintro e4 w4 ⟨rfl, hb4⟩
      have HB4 := hide ((show Below w.heap.size w ((w1.drewN q2).drewN q3) from ⟨HB1.out.os, HB1.out.tape, HB1.out.output, HB1.out.size, HB1.out.block⟩).trans ((show Below w1.heap.size ((w1.drewN q2).drewN q3) w4 from ⟨hb4.os, hb4.tape, hb4.output, hb4.size, hb4.block⟩).mono HB1.out.size))
      clear hb4
      go_wp2_with fail
      refine (HN.out _).mono ?_
      rintro e5 w5 ⟨rfl, hb5⟩
      have HB5 := hide (HB4.out.trans (hb5.mono HB4.out.size))
      clear hb5
      go_wp2_with fail
      go_ret
      exact ⟨rfl, HB5.out⟩
    · have i2 : (3000 : Int) < (b.length : Int) := by omega
      go_enter Try.func4, Try.ntmps4
      go_wp2_with (go_at_call 16; refine (awake20_any _).mono ?_; rintro e1 w1 ⟨rfl, hb1⟩; have HB1 := hide hb1; clear hb1)
      go_ret
      exact ⟨rfl, HB1.out⟩
  · have i1 : (3000 : Int) < (a.length : Int) := by omega
    go_enter Try.func4, Try.ntmps4
    go_wp2_with (go_at_call 16; refine (awake20_any _).mono ?_; rintro e1 w1 ⟨rfl, hb1⟩; have HB1 := hide hb1; clear hb1)
    go_ret
    exact ⟨rfl, HB1.out⟩
end Go.Proofs.Ytjmbnfcjambdkaa.deltaMakes
