/- DartTurns: what it returns of any rows of darts. -/
import Derived.Test.YtkkfnpbbigcpbaaInsertNil
import Derived.Deep.DeepCutAuto
import Derived.Deep.CutBlock
namespace Go.Proofs.Ytkkfnpbbigcpbaa.dartTurns
open Go.RowKit

theorem rev_snoc (xs : List Int) (k : Nat) (h : k < xs.length) : xs.reverse.take (k + 1) = xs.reverse.take k ++ [nth xs (xs.length - 1 - k)] := by
  rw [take_snoc_nth (by simpa using h)]
  congr 2
  rw [nth_eq _ _ (by simpa using h), List.getElem_reverse, nth_eq _ _ (by omega)]
set_option maxHeartbeats 4000000 in
set_option maxRecDepth 100000 in
theorem walk (v0 : Value) (xs : List Int) (v1 : Value) (ms : List Int) (d : Int) (w : World) (h0 : Reads w 1 v0 xs.length (nums xs)) (_ : ∀ n ∈ xs, (Lit.int .u32 n).wf = true) (h1 : Reads w 1 v1 ms.length (nums ms)) (_ : ∀ n ∈ ms, (Lit.int .u32 n).wf = true) (_ : (Lit.int .u32 d).wf = true) :
    Calls Try.prog 9 #[v0, v1, .int .u32 d] w fun e w' => e = .returned (.bool true) ∧ Below w.heap.size w w' := by
  obtain ⟨a0, c0, rfl⟩ := h0.shape
  obtain ⟨a1, c1, rfl⟩ := h1.shape
  have hm0 := h0.2.2.1
  have hm1 := h1.2.2.1
  unfold maxLen at hm0 hm1
  obtain ⟨i0, hi, hz0, hz1, hz2⟩ := info_parts info28
  have HI := hide hi
  have Hz0 := hide hz0
  have Hz1 := hide hz1
  have Hz2 := hide hz2
  have HL := hide h0
  have HM := hide h1
  clear hi hz0 hz1 hz2 h0 h1
  have hol := outOf_len ms xs
  by_cases h60 : 60 < xs.length
  · go_enter Try.func9, Try.ntmps9
    go_wp2_with (go_at_call 21; refine (awake08_any _).mono ?_; rintro e w' ⟨rfl, hb⟩)
    go_ret
    exact ⟨rfl, hb⟩
  by_cases h60' : 60 < ms.length
  · go_enter Try.func9, Try.ntmps9
    go_wp2_with (go_at_call 21; refine (awake08_any _).mono ?_; rintro e w' ⟨rfl, hb⟩)
    go_ret
    exact ⟨rfl, hb⟩
  go_enter Try.func9, Try.ntmps9
  go_wp2_with fail
  refine (awake08_any _).mono ?_
  rintro e1 w1 ⟨rfl, hb1⟩
  go_upto_block 0 with fail
  go_cut [7] (fun s wx => ∃ (a : Option Addr) (c : Nat), s = .slice a xs.length c ∧ wx.ownsRow w.heap.size 28 1 (.slice a xs.length c) xs.length (nums xs.reverse) ∧ Below w.heap.size w wx)
  case first =>
    go_wp2_with fail
    go_loopw [8, 7] (fun i v wr => ∃ (k : Nat) (a : Option Addr) (c : Nat), k ≤ xs.length ∧ i = .int .i64 ((xs.length : Int) - 1 - k) ∧ v = .slice a k c ∧ wr.ownsRow w.heap.size 28 1 (.slice a k c) k (nums (xs.reverse.take k)) ∧ Below w.heap.size w wr) (fun i _ _ => (intOf i + 1).toNat)
    case atStart => exact ⟨0, none, 0, by omega, by simp, rfl, World.ownsRow_nil _ _ _ _, hb1⟩
    case round =>
      obtain ⟨k, a, c, hk, rfl, rfl, hown, hb⟩ := hrel
      by_cases hlt : k < xs.length
      · obtain ⟨b, o, c2, hv⟩ := HL.out.isRow (by omega)
        cases hv
        obtain ⟨j, hj⟩ : ∃ j : Nat, j + k + 1 = xs.length := ⟨xs.length - 1 - k, by omega⟩
        rw [show (xs.length : Int) - 1 - k = (j : Int) by omega]
        have hcell := (HL.out.below hb).cellNum j (by omega)
        have HS := hide (rev_snoc xs k hlt)
        rw [show xs.length - 1 - k = j by omega] at HS
        have l1 : (j : Int) < (xs.length : Int) := by omega
        have HO := hide (hown.alloc (.cells #[.int .u32 (nth xs j)] 28))
        have HB := hide (hb.alloc hb.size (.cells #[.int .u32 (nth xs j)] 28))
        have HFR := hide (reads_fresh wr [.int .u32 (nth xs j)] 28 1 1 rfl (by simp [Value.oneCell']) (by unfold maxLen; omega))
        have C1 := hide (show k + 1 ≤ maxLen by unfold maxLen; omega)
        have C2 := hide (show (k + 1) * 4 ≤ 140737488355328 by omega)
        clear hown hb hb1
        go_wp2_with (at_builtin; refine wpList_append_reads rfl _ _ 52 rfl w.heap.size 28 i0 (.int .u32 0) 1 4 Try.underlying52 HI.out Hz0.out Hz1.out Hz2.out rfl (by decide) _ k _ rfl HO.out _ 1 [.int .u32 (nth xs j)] rfl HFR.out C1.out C2.out HB.out.size ?_; intro a' c'' w' hown' hg)
        go_roundw
        case rel =>
          refine ⟨k + 1, a', c'', by omega, by go_num, rfl, ?_, HB.out.grown hg HB.out.size (owned_ge HO.out)⟩
          rw [HS.out, nums_append]
          exact hown'
        case measure => first | (simp [intOf]; done) | (simp [intOf]; omega)
      · go_wp2_with fail
        go_meet
        obtain rfl : k = xs.length := by omega
        rw [List.take_of_length_le (by simp)] at hown
        exact ⟨a, c, rfl, hown, hb⟩
  case rest =>
    obtain ⟨ab, cb, rfl, hownb, hbb⟩ := hcut
    have RL0 := hide (HL.out.below hbb)
    have RM0 := hide (HM.out.below hbb)
    have RB0 := hide (Reads.owned hownb (nums_one _) (by unfold maxLen; omega))
    have HB0 := hide hbb
    clear HL HM hownb hbb hb1
    go_wp2_with fail
    refine (normal_len _ _ xs _ rfl RL0.out (by omega)).mono ?_
    rintro e21 w21 ⟨⟨a21, c21, rfl, hown21⟩, hb21⟩
    have RL_21 := hide (RL0.out.below hb21)
    have RM_21 := hide (RM0.out.below hb21)
    have RB_21 := hide (RB0.out.below hb21)
    have HB_21 := hide (HB0.out.trans (hb21.mono HB0.out.size))
    have R1_21 := hide (Reads.owned hown21 (nums_one _) (by unfold maxLen; omega))
    clear hb21 RL0 RM0 RB0 HB0
    clear hown21
    go_wp2_with fail
    refine (refNormal_u32 _ _ xs _ rfl RL_21.out (by omega)).mono ?_
    rintro e22 w22 ⟨⟨a22, c22, rfl, hown22⟩, hb22⟩
    have RL_22 := hide (RL_21.out.below hb22)
    have RM_22 := hide (RM_21.out.below hb22)
    have RB_22 := hide (RB_21.out.below hb22)
    have R1_22 := hide (R1_21.out.below hb22)
    have HB_22 := hide (HB_21.out.trans (hb22.mono HB_21.out.size))
    have R2_22 := hide (Reads.owned hown22 (nums_one _) (by unfold maxLen; omega))
    clear hb22 RL_21 RM_21 RB_21 R1_21 HB_21
    clear hown22
    go_wp2_with fail
    refine (same_u32 _ _ _ _ (rot xs) (rot xs) _ (rot_length _) (rot_length _) R1_22.out R2_22.out).mono ?_
    rintro e23 w23 ⟨rfl, hb23⟩
    have RL_23 := hide (RL_22.out.below hb23)
    have RM_23 := hide (RM_22.out.below hb23)
    have RB_23 := hide (RB_22.out.below hb23)
    have R1_23 := hide (R1_22.out.below hb23)
    have R2_23 := hide (R2_22.out.below hb23)
    have HB_23 := hide (HB_22.out.trans (hb23.mono HB_22.out.size))
    clear hb23 RL_22 RM_22 RB_22 R1_22 R2_22 HB_22
    rw [decide_eq_true rfl]
    go_wp2_with fail
    clear R1_23
    clear R2_23
    refine (next_u32 _ xs d _ RL_23.out (by omega)).mono ?_
    rintro e24 w24 ⟨rfl, rfl⟩
    go_wp2_with fail
    refine (refNext_u32 _ xs d _ RL_23.out (by omega)).mono ?_
    rintro e25 w25 ⟨rfl, rfl⟩
    go_wp2_with fail
    refine (prev_u32 _ xs d _ RL_23.out (by omega)).mono ?_
    rintro e26 w26 ⟨rfl, rfl⟩
    go_wp2_with fail
    refine (refPrev_u32 _ xs d _ RL_23.out (by omega)).mono ?_
    rintro e27 w27 ⟨rfl, rfl⟩
    go_wp2_with fail
    refine (insertAny_u32 _ _ xs d ms _ RL_23.out RM_23.out (by omega)).mono ?_
    rintro e28 w28 ⟨⟨a28, c28, rfl, hown28⟩, hb28⟩
    have RL_28 := hide (RL_23.out.below hb28)
    have RM_28 := hide (RM_23.out.below hb28)
    have RB_28 := hide (RB_23.out.below hb28)
    have HB_28 := hide (HB_23.out.trans (hb28.mono HB_23.out.size))
    have R1_28 := hide (Reads.owned hown28 (nums_one _) (by unfold maxLen; omega))
    clear hb28 RL_23 RM_23 RB_23 HB_23
    clear hown28
    go_wp2_with fail
    refine (refInsert_u32 _ _ xs d ms _ RL_28.out RM_28.out (by omega)).mono ?_
    rintro e29 w29 ⟨⟨a29, c29, rfl, hown29⟩, hb29⟩
    have RL_29 := hide (RL_28.out.below hb29)
    have RM_29 := hide (RM_28.out.below hb29)
    have RB_29 := hide (RB_28.out.below hb29)
    have R1_29 := hide (R1_28.out.below hb29)
    have HB_29 := hide (HB_28.out.trans (hb29.mono HB_28.out.size))
    have R2_29 := hide (Reads.owned hown29 (nums_one _) (by unfold maxLen; omega))
    clear hb29 RL_28 RM_28 RB_28 R1_28 HB_28
    clear hown29
    go_wp2_with fail
    refine (same_u32 _ _ _ _ (rot (insAt xs (placeOf xs d) ms)) (rot (insAt xs (placeOf xs d) ms)) _ (by rw [rot_length, insAt_length]) (by rw [rot_length, insAt_length]) R1_29.out R2_29.out).mono ?_
    rintro e30 w30 ⟨rfl, hb30⟩
    have RL_30 := hide (RL_29.out.below hb30)
    have RM_30 := hide (RM_29.out.below hb30)
    have RB_30 := hide (RB_29.out.below hb30)
    have R1_30 := hide (R1_29.out.below hb30)
    have R2_30 := hide (R2_29.out.below hb30)
    have HB_30 := hide (HB_29.out.trans (hb30.mono HB_29.out.size))
    clear hb30 RL_29 RM_29 RB_29 R1_29 R2_29 HB_29
    rw [decide_eq_true rfl]
    go_wp2_with fail
    clear R1_30
    clear R2_30
    refine (without_u32 _ _ xs ms _ RL_30.out RM_30.out (by omega)).mono ?_
    rintro e31 w31 ⟨⟨a31, c31, rfl, hown31⟩, hb31⟩
    have RL_31 := hide (RL_30.out.below hb31)
    have RM_31 := hide (RM_30.out.below hb31)
    have RB_31 := hide (RB_30.out.below hb31)
    have HB_31 := hide (HB_30.out.trans (hb31.mono HB_30.out.size))
    have R1_31 := hide (Reads.owned hown31 (nums_one _) (by unfold maxLen; omega))
    clear hb31 RL_30 RM_30 RB_30 HB_30
    clear hown31
    go_wp2_with fail
    refine (refWithout_u32 _ _ xs ms _ RL_31.out RM_31.out (by omega)).mono ?_
    rintro e32 w32 ⟨⟨a32, c32, rfl, hown32⟩, hb32⟩
    have RL_32 := hide (RL_31.out.below hb32)
    have RM_32 := hide (RM_31.out.below hb32)
    have RB_32 := hide (RB_31.out.below hb32)
    have R1_32 := hide (R1_31.out.below hb32)
    have HB_32 := hide (HB_31.out.trans (hb32.mono HB_31.out.size))
    have R2_32 := hide (Reads.owned hown32 (nums_one _) (by unfold maxLen; omega))
    clear hb32 RL_31 RM_31 RB_31 R1_31 HB_31
    clear hown32
    go_wp2_with fail
    refine (same_u32 _ _ _ _ (rot (outOf ms xs)) (rot (outOf ms xs)) _ (rot_length _) (rot_length _) R1_32.out R2_32.out).mono ?_
    rintro e33 w33 ⟨rfl, hb33⟩
    have RL_33 := hide (RL_32.out.below hb33)
    have RM_33 := hide (RM_32.out.below hb33)
    have RB_33 := hide (RB_32.out.below hb33)
    have R1_33 := hide (R1_32.out.below hb33)
    have R2_33 := hide (R2_32.out.below hb33)
    have HB_33 := hide (HB_32.out.trans (hb33.mono HB_32.out.size))
    clear hb33 RL_32 RM_32 RB_32 R1_32 R2_32 HB_32
    rw [decide_eq_true rfl]
    go_wp2_with fail
    clear R1_33
    clear R2_33
    refine (dartSame_u32 _ _ xs ms _ RL_33.out RM_33.out (by omega) (by omega)).mono ?_
    rintro e34 w34 ⟨rfl, hb34⟩
    have RL_34 := hide (RL_33.out.below hb34)
    have RM_34 := hide (RM_33.out.below hb34)
    have RB_34 := hide (RB_33.out.below hb34)
    have HB_34 := hide (HB_33.out.trans (hb34.mono HB_33.out.size))
    clear hb34 RL_33 RM_33 RB_33 HB_33
    go_wp2_with fail
    refine (refNormal_u32 _ _ xs _ rfl RL_34.out (by omega)).mono ?_
    rintro e35 w35 ⟨⟨a35, c35, rfl, hown35⟩, hb35⟩
    have RL_35 := hide (RL_34.out.below hb35)
    have RM_35 := hide (RM_34.out.below hb35)
    have RB_35 := hide (RB_34.out.below hb35)
    have HB_35 := hide (HB_34.out.trans (hb35.mono HB_34.out.size))
    have R1_35 := hide (Reads.owned hown35 (nums_one _) (by unfold maxLen; omega))
    clear hb35 RL_34 RM_34 RB_34 HB_34
    clear hown35
    go_wp2_with fail
    refine (refNormal_u32 _ _ ms _ rfl RM_35.out (by omega)).mono ?_
    rintro e36 w36 ⟨⟨a36, c36, rfl, hown36⟩, hb36⟩
    have RL_36 := hide (RL_35.out.below hb36)
    have RM_36 := hide (RM_35.out.below hb36)
    have RB_36 := hide (RB_35.out.below hb36)
    have R1_36 := hide (R1_35.out.below hb36)
    have HB_36 := hide (HB_35.out.trans (hb36.mono HB_35.out.size))
    have R2_36 := hide (Reads.owned hown36 (nums_one _) (by unfold maxLen; omega))
    clear hb36 RL_35 RM_35 RB_35 R1_35 HB_35
    clear hown36
    go_wp2_with fail
    refine (same_u32 _ _ _ _ (rot xs) (rot ms) _ (rot_length _) (rot_length _) R1_36.out R2_36.out).mono ?_
    rintro e37 w37 ⟨rfl, hb37⟩
    have RL_37 := hide (RL_36.out.below hb37)
    have RM_37 := hide (RM_36.out.below hb37)
    have RB_37 := hide (RB_36.out.below hb37)
    have R1_37 := hide (R1_36.out.below hb37)
    have R2_37 := hide (R2_36.out.below hb37)
    have HB_37 := hide (HB_36.out.trans (hb37.mono HB_36.out.size))
    clear hb37 RL_36 RM_36 RB_36 R1_36 R2_36 HB_36
    go_wp2_with fail
    clear R1_37
    clear R2_37
    refine (mirror_u32 _ xs _ RL_37.out (by omega)).mono ?_
    rintro e38 w38 ⟨⟨a38, c38, rfl, hown38⟩, hb38⟩
    have RL_38 := hide (RL_37.out.below hb38)
    have RM_38 := hide (RM_37.out.below hb38)
    have RB_38 := hide (RB_37.out.below hb38)
    have HB_38 := hide (HB_37.out.trans (hb38.mono HB_37.out.size))
    have R1_38 := hide (Reads.owned hown38 (nums_one _) (by unfold maxLen; omega))
    clear hb38 RL_37 RM_37 RB_37 HB_37
    clear hown38
    go_wp2_with fail
    refine (refNormal_u32 _ _ xs.reverse _ (by simp) RB_38.out (by omega)).mono ?_
    rintro e39 w39 ⟨⟨a39, c39, rfl, hown39⟩, hb39⟩
    have RL_39 := hide (RL_38.out.below hb39)
    have RM_39 := hide (RM_38.out.below hb39)
    have RB_39 := hide (RB_38.out.below hb39)
    have R1_39 := hide (R1_38.out.below hb39)
    have HB_39 := hide (HB_38.out.trans (hb39.mono HB_38.out.size))
    have R2_39 := hide (Reads.owned hown39 (nums_one _) (by unfold maxLen; omega))
    clear hb39 RL_38 RM_38 RB_38 R1_38 HB_38
    clear hown39
    go_wp2_with fail
    refine (same_u32 _ _ _ _ (rot xs.reverse) (rot xs.reverse) _ (by simp [rot_length]) (by simp [rot_length]) R1_39.out R2_39.out).mono ?_
    rintro e40 w40 ⟨rfl, hb40⟩
    have RL_40 := hide (RL_39.out.below hb40)
    have RM_40 := hide (RM_39.out.below hb40)
    have RB_40 := hide (RB_39.out.below hb40)
    have R1_40 := hide (R1_39.out.below hb40)
    have R2_40 := hide (R2_39.out.below hb40)
    have HB_40 := hide (HB_39.out.trans (hb40.mono HB_39.out.size))
    clear hb40 RL_39 RM_39 RB_39 R1_39 R2_39 HB_39
    rw [decide_eq_true rfl]
    go_wp2_with fail
    go_ret
    exact ⟨rfl, HB_40.out⟩
end Go.Proofs.Ytkkfnpbbigcpbaa.dartTurns
