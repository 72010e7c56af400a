/- DartBegins: what it returns of any row of darts. -/
import Derived.Test.YtkkfnpbbigcpbaaTurnPure
import Derived.Maps.OwnSet
import Derived.Deep.DeepCutAuto
import Derived.Deep.CutBlock
namespace Go.Proofs.Ytkkfnpbbigcpbaa.dartBegins
open Go.RowKit

theorem bool_inv {e : TypeId} {v : Value} {b : Bool} {ps : List MemPlace} (he : Try.prog.underlying e = some .bool) (h : plainElem (H := Unit) Try.prog e v = some (.lit (.bool b), ps)) : v = .bool b := by
  unfold plainElem at h
  rw [he] at h
  cases v <;> simp at h
  exact congrArg Value.bool h.1
theorem keyed : Maps.Keyed Try.prog 28 := Maps.int_keyed Try.underlying28
theorem key_of {y : Int} (h : (Lit.int .u32 y).wf = true) : keyOf Try.prog 28 (.int .u32 y) = some (.int .u32 y) := Maps.keyOf_int_mk Try.underlying28 h
/-- The map of what was seen: the first number, and the first k of the row. -/
def Seen (w : World) (B k : Nat) (x : Int) (xs : List Int) : Prop := ∃ D : DataW Unit, w.ownsMap Try.prog 28 (plainElem Try.prog 4) B (k + 1) D ∧ Maps.IsMap D ∧ ∀ y, (Lit.int .u32 y).wf = true → D.atKey (.int .u32 y) (.lit (.bool false)) = .lit (.bool (decide (y = x ∨ y ∈ xs.take k)))
theorem seen_first {w : World} (x : Int) (hx : (Lit.int .u32 x).wf = true) (xs : List Int) : ∃ w', (Instr.mapUpdate 62 (.map (some w.heap.size)) (.int .u32 x) (.bool true)).run Try.prog (w.alloc (.map #[] 0)) = .ok () w' ∧ Seen w' w.heap.size 0 x xs ∧ (w.alloc (.map #[] 0)).grownBy w' (some w.heap.size) := by
  obtain ⟨w', h1, h2, h3⟩ := (World.ownsMap_made w Try.prog 28 (plainElem (H := Unit) Try.prog 4)).update keyed Try.underlying62 (by unfold maxLen; omega) (key_of hx) (plainElem_bool Try.underlying4 true)
  refine ⟨w', h1, ⟨_, h2, Maps.isMap_empty.put _ _, fun y hy => ?_⟩, h3⟩
  by_cases hyx : y = x
  · subst hyx
    rw [Maps.atKey_put_same Maps.isMap_empty (by trivial)]
    simp
  · rw [Maps.atKey_put_other (by simpa using hyx)]
    simp [hyx]
    rfl
theorem seen_look {w : World} {B k : Nat} {x : Int} {xs : List Int} (h : Seen w B k x xs) (y : Int) (hy : (Lit.int .u32 y).wf = true) : (Instr.lookup 62 (.map (some B)) (.int .u32 y) false).run Try.prog w = .ok (.bool (decide (y = x ∨ y ∈ xs.take k))) w := by
  obtain ⟨D, h1, _, h3⟩ := h
  obtain ⟨v, ps, hrun, hv⟩ := h1.lookup keyed Try.underlying62 (z := .bool false) (Try.zeroValue4 w) (plainElem_bool Try.underlying4 false) (key_of hy)
  rw [h3 y hy] at hv
  rw [hrun, bool_inv Try.underlying4 hv]
theorem seen_put {w : World} {B k : Nat} {x : Int} {xs : List Int} (h : Seen w B k x xs) (hk : k < xs.length) (hlt : xs.length ≤ 60) (hy : (Lit.int .u32 (nth xs k)).wf = true) : ∃ w', (Instr.mapUpdate 62 (.map (some B)) (.int .u32 (nth xs k)) (.bool true)).run Try.prog w = .ok () w' ∧ Seen w' B (k + 1) x xs ∧ w.grownBy w' (some B) := by
  obtain ⟨D, h1, h2, h3⟩ := h
  obtain ⟨w', g1, g2, g3⟩ := h1.update keyed Try.underlying62 (by unfold maxLen; omega) (key_of hy) (plainElem_bool Try.underlying4 true)
  refine ⟨w', g1, ⟨_, g2, h2.put _ _, fun y hyw => ?_⟩, g3⟩
  rw [take_snoc_nth hk]
  by_cases hyx : y = nth xs k
  · subst hyx
    rw [Maps.atKey_put_same h2 (by trivial)]
    simp
  · rw [Maps.atKey_put_other (by simpa using hyx), h3 y hyw]
    simp [hyx]
theorem seen_next {xs : List Int} {k : Nat} (hk : k < xs.length) {x : Int} (hn : (xs.take k).Nodup) (hx : x ∉ xs.take k) (h : ¬ (nth xs k = x ∨ nth xs k ∈ xs.take k)) : (xs.take (k + 1)).Nodup ∧ x ∉ xs.take (k + 1) := by
  rw [take_snoc_nth hk]
  refine ⟨?_, fun hm => ?_⟩
  · rw [(List.perm_append_comm (l₁ := xs.take k) (l₂ := [nth xs k])).nodup_iff]
    exact List.nodup_cons.2 ⟨fun hm => h (.inr hm), hn⟩
  · rcases List.mem_append.1 hm with hm | hm
    · exact hx hm
    · simp at hm; exact h (.inl hm.symm)
/-- What is known of the two rows and of the dart. -/
def Twins (xs ys : List Int) (d x : Int) : Prop := ys.length = xs.length ∧ rot ys = rot xs ∧ nextOf ys d = nextOf xs d ∧ prevOf ys d = prevOf xs d ∧ rot (insAt ys (placeOf ys d) [x]) = rot (insAt xs (placeOf xs d) [x]) ∧ rot ys.reverse = rot xs.reverse ∧ rot (outOf [x] (rot (insAt xs (placeOf xs d) [x]))) = rot xs ∧ (xs.length ≠ 0 → prevOf xs (nextOf xs d) = d ∧ nextOf (rot (insAt xs (placeOf xs d) [x])) d = x)
theorem twins_none (d x : Int) : Twins [] [] d x := by
  refine ⟨rfl, rfl, rfl, rfl, rfl, rfl, ?_, fun h => absurd rfl h⟩
  exact without_insert List.nodup_nil (by simp) _
theorem twins_of {xs : List Int} {d x : Int} (hn : xs.Nodup) (hx : x ∉ xs) (hd : d ∈ xs) (k : Nat) (hk : k ≤ xs.length) : Twins xs (rotAt xs k) d x :=
  ⟨rotAt_length xs k, rot_rotAt hn k hk, next_rotAt hn k hk d, prev_rotAt hn k hk d, insert_rotAt hn k hk hd hx, mirror_rotAt hn k hk, without_insert hn hx _, fun _ => ⟨prev_next hn hd, next_insert hn hd hx⟩⟩

theorem ins_len (xs : List Int) (p : Nat) (x : Int) : (rot (insAt xs p [x])).length = xs.length + 1 := by rw [rot_length, insAt_length]; rfl
theorem insertOne_u32 (v u : Value) (xs : List Int) (d x : Int) (w : World) (hr : Reads w 1 v xs.length (nums xs)) (hm : Reads w 1 u 1 [.int .u32 x]) (hx : (xs.length + 1) * 4 ≤ 140737488355328) :
    Calls Try.prog 41 #[v, .int .u32 d, u] w fun e w' => (∃ a c, e = .returned (.slice a (xs.length + 1) c) ∧ w'.ownsRow w.heap.size 28 1 (.slice a (xs.length + 1) c) (xs.length + 1) (nums (rot (insAt xs (placeOf xs d) [x])))) ∧ Below w.heap.size w w' :=
  insertAny_u32 v u xs d [x] w hr hm hx
theorem insertAs_u32 (v u : Value) (xs : List Int) (d x : Int) (Z : List Int) (hZ : Z = rot (insAt xs (placeOf xs d) [x])) (w : World) (hr : Reads w 1 v xs.length (nums xs)) (hm : Reads w 1 u 1 [.int .u32 x]) (hx : (xs.length + 1) * 4 ≤ 140737488355328) :
    Calls Try.prog 41 #[v, .int .u32 d, u] w fun e w' => (∃ a c, e = .returned (.slice a (xs.length + 1) c) ∧ w'.ownsRow w.heap.size 28 1 (.slice a (xs.length + 1) c) (xs.length + 1) (nums Z)) ∧ Below w.heap.size w w' := by
  subst hZ
  exact insertOne_u32 v u xs d x w hr hm hx
set_option maxHeartbeats 8000000 in
set_option maxRecDepth 100000 in
theorem walk (v0 : Value) (xs : List Int) (by' d x : Int) (w : World) (h0 : Reads w 1 v0 xs.length (nums xs)) (hwf : ∀ n ∈ xs, (Lit.int .u32 n).wf = true) (hby : (Lit.int .u8 by').wf = true) (hdw : (Lit.int .u32 d).wf = true) (hxw : (Lit.int .u32 x).wf = true) :
    Calls Try.prog 10 #[v0, .int .u8 by', .int .u32 d, .int .u32 x] w fun e w' => e = .returned (.bool true) ∧ Below w.heap.size w w' := by
  obtain ⟨a0, c0, rfl⟩ := h0.shape
  have hm0 := h0.2.2.1
  unfold maxLen at hm0
  obtain ⟨i0, hi, hz0, hz1, hz2⟩ := info_parts info28
  have HI := hide hi
  have Hz0 := hide hz0
  have Hz1 := hide hz1
  have Hz2 := hide hz2
  have HL := hide h0
  have HWF := hide hwf
  have hb8 : 0 ≤ by' ∧ by' ≤ 255 := by simpa [Lit.wf, IntKind.min, IntKind.max, IntKind.signed, IntKind.bits] using hby
  have hd32 : 0 ≤ d ∧ d ≤ 4294967295 := by simpa [Lit.wf, IntKind.min, IntKind.max, IntKind.signed, IntKind.bits] using hdw
  clear hi hz0 hz1 hz2 h0 hwf
  by_cases h60 : 60 < xs.length
  · go_enter Try.func10, Try.ntmps10
    go_wp2_with (go_at_call 21; refine (awake08_any _).mono ?_; rintro e w' ⟨rfl, hb⟩)
    go_ret
    exact ⟨rfl, hb⟩
  go_enter Try.func10, Try.ntmps10
  go_wp2_with fail
  refine (awake08_any _).mono ?_
  rintro e1 w1 ⟨rfl, hb1⟩
  obtain ⟨w2, hrun, hseen, hg⟩ := seen_first (w := w1) x hxw xs
  have HB := hide ((hb1.alloc hb1.size (.map #[] 0)).grown hg (by simp; exact Nat.le_succ_of_le hb1.size) (fun k hk => by cases hk; exact hb1.size))
  have hB1 := hb1.size
  clear hb1 hg
  have hmk : (Instr.makeMap 62 none).run Try.prog w1 = .ok (.map (some w1.heap.size)) (w1.alloc (.map #[] 0)) := run_makeMap _ _
  go_upto_block 0 with fail
  go_cut [] (fun wx => xs.Nodup ∧ x ∉ xs ∧ Below w.heap.size w wx)
  case first =>
    go_wp2_with fail
    clear hmk hrun
    go_loopw [24, 11] (fun i _ wr => ∃ k : Nat, k ≤ xs.length ∧ i = .int .i64 k ∧ (xs.take k).Nodup ∧ x ∉ xs.take k ∧ Seen wr w1.heap.size k x xs ∧ Below w.heap.size w wr) (fun i _ _ => xs.length - (intOf i).toNat)
    case atStart => exact ⟨0, by omega, rfl, by simp, by simp, hseen, HB.out⟩
    case round =>
      obtain ⟨k, hk, rfl, hn, hx, hs, hb⟩ := hrel
      by_cases hlt : k < xs.length
      · obtain ⟨b, o, c2, hv⟩ := HL.out.isRow (by omega)
        cases hv
        have hcell := (HL.out.below hb).cellNum k hlt
        have hyw := HWF.out (nth xs k) (nth_mem hlt)
        have hlook := seen_look hs (nth xs k) hyw
        obtain ⟨w3, hput, hs3, hg3⟩ := seen_put hs hlt (by omega) hyw
        have HS3 := hide hs3
        have HB3 := hide (hb.grown hg3 hb.size (fun k hk => by cases hk; exact hB1))
        have HN := hide (seen_next hlt hn hx)
        have HBR := hide hb
        clear hs3 hg3 hs hb hn hx hseen
        by_cases hin : nth xs k = x ∨ nth xs k ∈ xs.take k
        · rw [decide_eq_true hin] at hlook
          clear hput
          go_wp2_with fail
          go_ret
          exact ⟨rfl, HBR.out⟩
        · rw [decide_eq_false hin] at hlook
          have HIN := hide hin
          clear hin
          go_wp2_with fail
          go_roundw
          case rel =>
            obtain ⟨h1, h2⟩ := HN.out HIN.out
            exact ⟨k + 1, by omega, by go_num, h1, h2, HS3.out, HB3.out⟩
          case measure => first | (simp [intOf]; done) | (simp [intOf]; omega)
      · obtain rfl : k = xs.length := by omega
        rw [List.take_length] at hn hx
        have HN := hide hn
        have HX := hide hx
        have HBR := hide hb
        clear hn hx hs hb hseen HB
        go_wp2_with fail
        go_meet
        exact ⟨HN.out, HX.out, HBR.out⟩
  case rest =>
    obtain ⟨hn, hx, hb⟩ := hcut
    have HN := hide hn
    have HX := hide hx
    have HBR := hide hb
    have HLR := hide (HL.out.below hb)
    clear hn hx hb hseen HB HL hmk hrun hB1
    by_cases h0 : xs.length = 0
    · have : xs = [] := List.eq_nil_of_length_eq_zero h0
      subst this
      clear h0 h60
      obtain ⟨av, hr0⟩ : ∃ av : Option Addr, (∀ w', Reads w' 1 (.slice av 0 c0) 0 []) ∧ a0 = av := by
        refine ⟨a0, fun w' => ?_, rfl⟩
        obtain ⟨_, _, _, h⟩ := HLR.out
        refine ⟨rfl, by simp, by unfold maxLen; omega, ?_⟩
        rcases h with ⟨h, _⟩ | ⟨b, o, c, h, hc, hm, _⟩
        · exact .inl ⟨by simpa using h, rfl⟩
        · simp at h
          obtain ⟨rfl, rfl⟩ := h
          exact .inr ⟨b, o, c0, rfl, by omega, hm, by simp⟩
      obtain ⟨hr0, rfl⟩ := hr0
      have HR0 := hide hr0
      clear hr0
      have HO := hide ((ownsRow_made wc 28 1).drew)
      have HBW := hide (((Below.refl wc.heap.size wc).alloc (Nat.le_refl _) (.cells #[] 28)).drew)
      go_upto_region 16 with fail
      go_cut [13] (fun s wx => ∃ (a : Option Addr) (c : Nat), s = .slice a 0 c ∧ wx.ownsRow wc.heap.size 28 1 (.slice a 0 c) 0 [] ∧ Below wc.heap.size wc wx)
      case first =>
        obtain rfl | ⟨ad, rfl⟩ : a0 = none ∨ ∃ ad, a0 = some ad := by cases a0 <;> simp
        all_goals
          go_region_law (first
            | (refine step_append_reads rfl _ _ 52 rfl wc.heap.size 28 i0 (.int .u32 0) 1 4 Try.underlying52 HI.out Hz0.out Hz1.out Hz2.out rfl (by decide) _ 0 [] rfl HO.out _ 0 [] rfl (HR0.out _) (by unfold maxLen; omega) (by omega) HBW.out.size ?_; intro a1 c1 w2 hown2 hg2; have hb2 := HBW.out.grown hg2 HBW.out.size (owned_ge HO.out); rw [Nat.zero_add] at hown2)
            | (refine step_append_reads rfl _ _ 52 rfl wc.heap.size 28 i0 (.int .u32 0) 1 4 Try.underlying52 HI.out Hz0.out Hz1.out Hz2.out rfl (by decide) _ 0 _ rfl hown2 _ 0 [] rfl (HR0.out _) (by unfold maxLen; omega) (by omega) hb2.size ?_; intro a3 c3 w3 hown3 hg3; have hb3 := hb2.grown hg3 hb2.size (owned_ge hown2)))
        all_goals
          go_wp2_with fail
          go_meet
          exact ⟨a3, c3, rfl, by simpa using hown3, hb3⟩
      case rest =>
        obtain ⟨am, cm, rfl, hownm, hbm2⟩ := hcut
        have TW := hide (twins_none d x)
        have RL0 := hide (show Reads wc 1 (.slice a0 ([] : List Int).length c0) ([] : List Int).length (nums []) from HR0.out wc)
        have RM0 := hide (show Reads wc 1 (.slice am ([] : List Int).length cm) ([] : List Int).length (nums []) from Reads.owned hownm (by intro u hu; cases hu) (by unfold maxLen; omega))
        have HB0 := hide (HBR.out.trans (hbm2.mono HBR.out.size))
        clear HLR HBR hbm2 hownm HO HBW HR0
        obtain ⟨ZX, HZX⟩ : ∃ Z : List Int, Hid (Z = rot (insAt [] (placeOf [] d) [x])) := ⟨_, rfl⟩
        obtain ⟨ZY, HZY⟩ : ∃ Z : List Int, Hid (Z = rot (insAt [] (placeOf [] d) [x])) := ⟨_, rfl⟩
        have HLX := hide (show ZX.length = ([] : List Int).length + 1 by rw [HZX.out]; exact ins_len [] _ x)
        have HLY := hide (show ZY.length = ([] : List Int).length + 1 by rw [HZY.out]; exact ins_len [] _ x)
        go_wp2_with fail
        refine (normal_len _ _ ([] : List Int) _ rfl RL0.out (by first | (simp; done) | omega)).mono ?_
        rintro e41 w41 ⟨⟨a41, c41, rfl, hown41⟩, hb41⟩
        have RL_41 := hide (RL0.out.below hb41)
        have RM_41 := hide (RM0.out.below hb41)
        have HB_41 := hide (HB0.out.trans (hb41.mono HB0.out.size))
        have R1_41 := hide (Reads.owned hown41 (nums_one _) (by unfold maxLen; first | (simp; done) | omega))
        clear hb41 RL0 RM0 HB0
        clear hown41
        go_wp2_with fail
        refine (normal_len _ _ ([] : List Int) _ rfl RM_41.out (by first | (simp; done) | omega)).mono ?_
        rintro e42 w42 ⟨⟨a42, c42, rfl, hown42⟩, hb42⟩
        have RL_42 := hide (RL_41.out.below hb42)
        have RM_42 := hide (RM_41.out.below hb42)
        have R1_42 := hide (R1_41.out.below hb42)
        have HB_42 := hide (HB_41.out.trans (hb42.mono HB_41.out.size))
        have R2_42 := hide (Reads.owned hown42 (nums_one _) (by unfold maxLen; first | (simp; done) | omega))
        clear hb42 RL_41 RM_41 R1_41 HB_41
        clear hown42
        go_wp2_with fail
        refine (same_u32 _ _ _ _ (rot ([] : List Int)) (rot ([] : List Int)) _ (rot_length _) (by rw [rot_length]) R1_42.out R2_42.out).mono ?_
        rintro e43 w43 ⟨rfl, hb43⟩
        have RL_43 := hide (RL_42.out.below hb43)
        have RM_43 := hide (RM_42.out.below hb43)
        have R1_43 := hide (R1_42.out.below hb43)
        have R2_43 := hide (R2_42.out.below hb43)
        have HB_43 := hide (HB_42.out.trans (hb43.mono HB_42.out.size))
        clear hb43 RL_42 RM_42 R1_42 R2_42 HB_42
        rw [decide_eq_true (TW.out.2.1.symm)]
        clear R1_43
        clear R2_43
        go_wp2_with fail
        refine (dartSame_u32 _ _ ([] : List Int) ([] : List Int) _ RL_43.out (by exact RM_43.out) (by first | (simp; done) | omega) (by first | (simp; done) | omega)).mono ?_
        rintro e44 w44 ⟨rfl, hb44⟩
        have RL_44 := hide (RL_43.out.below hb44)
        have RM_44 := hide (RM_43.out.below hb44)
        have HB_44 := hide (HB_43.out.trans (hb44.mono HB_43.out.size))
        clear hb44 RL_43 RM_43 HB_43
        rw [decide_eq_true TW.out.2.1.symm]
        go_wp2_with fail
        refine (next_u32 _ ([] : List Int) d _ RL_44.out (by first | (simp; done) | omega)).mono ?_
        rintro e45 w45 ⟨rfl, rfl⟩
        go_wp2_with fail
        refine (next_u32 _ ([] : List Int) d _ (by exact RM_44.out) (by first | (simp; done) | omega)).mono ?_
        rintro e46 w46 ⟨rfl, rfl⟩
        rw [TW.out.2.2.1]
        go_wp2_with fail
        refine (prev_u32 _ ([] : List Int) d _ RL_44.out (by first | (simp; done) | omega)).mono ?_
        rintro e47 w47 ⟨rfl, rfl⟩
        go_wp2_with fail
        refine (prev_u32 _ ([] : List Int) d _ (by exact RM_44.out) (by first | (simp; done) | omega)).mono ?_
        rintro e48 w48 ⟨rfl, rfl⟩
        have RL_a1 := hide (RL_44.out.alloc (.cells #[.int .u32 x] 28))
        have RM_a1 := hide (RM_44.out.alloc (.cells #[.int .u32 x] 28))
        have HB_a1 := hide (HB_44.out.alloc HB_44.out.size (.cells #[.int .u32 x] 28))
        have RX_a1 := hide (reads_fresh w44 [.int .u32 x] 28 1 1 rfl (by simp [Value.oneCell']) (by unfold maxLen; first | (simp; done) | omega))
        clear RL_44 RM_44 HB_44
        rw [TW.out.2.2.2.1]
        go_wp2_with fail
        refine (insertAs_u32 _ _ ([] : List Int) d x ZX HZX.out _ RL_a1.out RX_a1.out (by first | (simp; done) | omega)).mono ?_
        rintro e49 w49 ⟨⟨a49, c49, rfl, hown49⟩, hb49⟩
        have RL_49 := hide (RL_a1.out.below hb49)
        have RM_49 := hide (RM_a1.out.below hb49)
        have RX_49 := hide (RX_a1.out.below hb49)
        have HB_49 := hide (HB_a1.out.trans (hb49.mono HB_a1.out.size))
        have R1_49 := hide (Reads.owned hown49 (nums_one _) (by unfold maxLen; first | (simp; done) | omega))
        clear hb49 RL_a1 RM_a1 RX_a1 HB_a1
        clear hown49
        clear RX_49
        have RL_a2 := hide (RL_49.out.alloc (.cells #[.int .u32 x] 28))
        have RM_a2 := hide (RM_49.out.alloc (.cells #[.int .u32 x] 28))
        have R1_a2 := hide (R1_49.out.alloc (.cells #[.int .u32 x] 28))
        have HB_a2 := hide (HB_49.out.alloc HB_49.out.size (.cells #[.int .u32 x] 28))
        have RX_a2 := hide (reads_fresh w49 [.int .u32 x] 28 1 1 rfl (by simp [Value.oneCell']) (by unfold maxLen; first | (simp; done) | omega))
        clear RL_49 RM_49 R1_49 HB_49
        go_wp2_with fail
        refine (insertAs_u32 _ _ ([] : List Int) d x ZY HZY.out _ (by exact RM_a2.out) RX_a2.out (by first | (simp; done) | omega)).mono ?_
        rintro e50 w50 ⟨⟨a50, c50, rfl, hown50⟩, hb50⟩
        have RL_50 := hide (RL_a2.out.below hb50)
        have RM_50 := hide (RM_a2.out.below hb50)
        have R1_50 := hide (R1_a2.out.below hb50)
        have RX_50 := hide (RX_a2.out.below hb50)
        have HB_50 := hide (HB_a2.out.trans (hb50.mono HB_a2.out.size))
        have R2_50 := hide (Reads.owned hown50 (nums_one _) (by unfold maxLen; first | (simp; done) | omega))
        clear hb50 RL_a2 RM_a2 R1_a2 RX_a2 HB_a2
        clear hown50
        clear RX_50
        go_wp2_with fail
        refine (same_u32 _ _ (([] : List Int).length + 1) (([] : List Int).length + 1) ZX ZY _ HLX.out HLY.out R1_50.out (by have h := R2_50.out; exact h)).mono ?_
        rintro e51 w51 ⟨rfl, hb51⟩
        have RL_51 := hide (RL_50.out.below hb51)
        have RM_51 := hide (RM_50.out.below hb51)
        have R1_51 := hide (R1_50.out.below hb51)
        have R2_51 := hide (R2_50.out.below hb51)
        have HB_51 := hide (HB_50.out.trans (hb51.mono HB_50.out.size))
        clear hb51 RL_50 RM_50 R1_50 R2_50 HB_50
        rw [decide_eq_true ((HZX.out.trans (TW.out.2.2.2.2.1.symm.trans HZY.out.symm)))]
        clear R1_51
        clear R2_51
        go_wp2_with fail
        refine (mirror_u32 _ ([] : List Int) _ RL_51.out (by first | (simp; done) | omega)).mono ?_
        rintro e52 w52 ⟨⟨a52, c52, rfl, hown52⟩, hb52⟩
        have RL_52 := hide (RL_51.out.below hb52)
        have RM_52 := hide (RM_51.out.below hb52)
        have HB_52 := hide (HB_51.out.trans (hb52.mono HB_51.out.size))
        have R1_52 := hide (Reads.owned hown52 (nums_one _) (by unfold maxLen; first | (simp; done) | omega))
        clear hb52 RL_51 RM_51 HB_51
        clear hown52
        go_wp2_with fail
        refine (mirror_u32 _ ([] : List Int) _ (by exact RM_52.out) (by first | (simp; done) | omega)).mono ?_
        rintro e53 w53 ⟨⟨a53, c53, rfl, hown53⟩, hb53⟩
        have RL_53 := hide (RL_52.out.below hb53)
        have RM_53 := hide (RM_52.out.below hb53)
        have R1_53 := hide (R1_52.out.below hb53)
        have HB_53 := hide (HB_52.out.trans (hb53.mono HB_52.out.size))
        have R2_53 := hide (Reads.owned hown53 (nums_one _) (by unfold maxLen; first | (simp; done) | omega))
        clear hb53 RL_52 RM_52 R1_52 HB_52
        clear hown53
        go_wp2_with fail
        refine (same_u32 _ _ _ _ (rot ([] : List Int).reverse) (rot ([] : List Int).reverse) _ (by rw [rot_length, List.length_reverse]) (by rw [rot_length, List.length_reverse]) R1_53.out (by have h := R2_53.out; exact h)).mono ?_
        rintro e54 w54 ⟨rfl, hb54⟩
        have RL_54 := hide (RL_53.out.below hb54)
        have RM_54 := hide (RM_53.out.below hb54)
        have R1_54 := hide (R1_53.out.below hb54)
        have R2_54 := hide (R2_53.out.below hb54)
        have HB_54 := hide (HB_53.out.trans (hb54.mono HB_53.out.size))
        clear hb54 RL_53 RM_53 R1_53 R2_53 HB_53
        rw [decide_eq_true (TW.out.2.2.2.2.2.1.symm)]
        clear R1_54
        clear R2_54
        have RL_a3 := hide (RL_54.out.alloc (.cells #[.int .u32 x] 28))
        have RM_a3 := hide (RM_54.out.alloc (.cells #[.int .u32 x] 28))
        have HB_a3 := hide (HB_54.out.alloc HB_54.out.size (.cells #[.int .u32 x] 28))
        have RX_a3 := hide (reads_fresh w54 [.int .u32 x] 28 1 1 rfl (by simp [Value.oneCell']) (by unfold maxLen; first | (simp; done) | omega))
        clear RL_54 RM_54 HB_54
        go_wp2_with fail
        refine (insertAs_u32 _ _ ([] : List Int) d x ZX HZX.out _ RL_a3.out RX_a3.out (by first | (simp; done) | omega)).mono ?_
        rintro e55 w55 ⟨⟨a55, c55, rfl, hown55⟩, hb55⟩
        have RL_55 := hide (RL_a3.out.below hb55)
        have RM_55 := hide (RM_a3.out.below hb55)
        have RX_55 := hide (RX_a3.out.below hb55)
        have HB_55 := hide (HB_a3.out.trans (hb55.mono HB_a3.out.size))
        have R1_55 := hide (Reads.owned hown55 (nums_one _) (by unfold maxLen; first | (simp; done) | omega))
        clear hb55 RL_a3 RM_a3 RX_a3 HB_a3
        clear hown55
        clear RX_55
        have RL_a4 := hide (RL_55.out.alloc (.cells #[.int .u32 x] 28))
        have RM_a4 := hide (RM_55.out.alloc (.cells #[.int .u32 x] 28))
        have R1_a4 := hide (R1_55.out.alloc (.cells #[.int .u32 x] 28))
        have HB_a4 := hide (HB_55.out.alloc HB_55.out.size (.cells #[.int .u32 x] 28))
        have RX_a4 := hide (reads_fresh w55 [.int .u32 x] 28 1 1 rfl (by simp [Value.oneCell']) (by unfold maxLen; first | (simp; done) | omega))
        clear RL_55 RM_55 R1_55 HB_55
        have HLO := hide (show (outOf [x] ZX).length ≤ ZX.length from outOf_len [x] ZX)
        go_wp2_with fail
        refine (without_u32 _ _ ZX [x] _ (by rw [HLX.out]; exact R1_a4.out) RX_a4.out (by rw [HLX.out]; simp)).mono ?_
        rintro e56 w56 ⟨⟨a56, c56, rfl, hown56⟩, hb56⟩
        have RL_56 := hide (RL_a4.out.below hb56)
        have RM_56 := hide (RM_a4.out.below hb56)
        have R1_56 := hide (R1_a4.out.below hb56)
        have RX_56 := hide (RX_a4.out.below hb56)
        have HB_56 := hide (HB_a4.out.trans (hb56.mono HB_a4.out.size))
        have R3_56 := hide (Reads.owned hown56 (nums_one _) (by unfold maxLen; have h1 := HLX.out; have h2 := HLO.out; simp at h1; omega))
        clear hb56 RL_a4 RM_a4 R1_a4 RX_a4 HB_a4
        clear hown56
        clear RX_56
        go_wp2_with fail
        refine (normal_len _ _ ([] : List Int) _ rfl RL_56.out (by first | (simp; done) | omega)).mono ?_
        rintro e57 w57 ⟨⟨a57, c57, rfl, hown57⟩, hb57⟩
        have RL_57 := hide (RL_56.out.below hb57)
        have RM_57 := hide (RM_56.out.below hb57)
        have R1_57 := hide (R1_56.out.below hb57)
        have R3_57 := hide (R3_56.out.below hb57)
        have HB_57 := hide (HB_56.out.trans (hb57.mono HB_56.out.size))
        have R2_57 := hide (Reads.owned hown57 (nums_one _) (by unfold maxLen; first | (simp; done) | omega))
        clear hb57 RL_56 RM_56 R1_56 R3_56 HB_56
        clear hown57
        go_wp2_with fail
        refine (same_u32 _ _ _ _ (rot (outOf [x] ZX)) (rot ([] : List Int)) _ (rot_length _) (rot_length _) R3_57.out R2_57.out).mono ?_
        rintro e58 w58 ⟨rfl, hb58⟩
        have RL_58 := hide (RL_57.out.below hb58)
        have RM_58 := hide (RM_57.out.below hb58)
        have R1_58 := hide (R1_57.out.below hb58)
        have R3_58 := hide (R3_57.out.below hb58)
        have R2_58 := hide (R2_57.out.below hb58)
        have HB_58 := hide (HB_57.out.trans (hb58.mono HB_57.out.size))
        clear hb58 RL_57 RM_57 R1_57 R3_57 R2_57 HB_57
        rw [decide_eq_true ((by rw [HZX.out]; exact TW.out.2.2.2.2.2.2.1))]
        clear R2_58
        clear R3_58
        go_wp2_with fail
        all_goals (first | (go_ret; exact ⟨rfl, HB_58.out⟩) | (exfalso; simp_all [undef]; done))
    · obtain ⟨b, o, c2, hv⟩ := HLR.out.isRow (by omega)
      cases hv
      obtain ⟨kk, hkk, hbm⟩ : ∃ kk : Nat, kk < xs.length ∧ by'.tmod xs.length = kk := by
        refine ⟨(by' % xs.length).toNat, ?_, ?_⟩
        · have := Int.emod_lt_of_pos by' (by omega : (0 : Int) < xs.length)
          have := Int.emod_nonneg by' (by omega : (xs.length : Int) ≠ 0)
          omega
        · rw [Int.tmod_eq_emod_of_nonneg hb8.1]
          have := Int.emod_nonneg by' (by omega : (xs.length : Int) ≠ 0)
          omega
      obtain ⟨q, hq, hdm⟩ : ∃ q : Nat, q < xs.length ∧ d.tmod xs.length = q := by
        refine ⟨(d % xs.length).toNat, ?_, ?_⟩
        · have := Int.emod_lt_of_pos d (by omega : (0 : Int) < xs.length)
          have := Int.emod_nonneg d (by omega : (xs.length : Int) ≠ 0)
          omega
        · rw [Int.tmod_eq_emod_of_nonneg hd32.1]
          have := Int.emod_nonneg d (by omega : (xs.length : Int) ≠ 0)
          omega
      have hcell := HLR.out.cellNum q hq
      have l1 : (0 : Int) < (xs.length : Int) := by omega
      have l2 : (kk : Int) ≤ (xs.length : Int) := by omega
      have l3 : (q : Int) < (xs.length : Int) := by omega
      have hnc : ¬ c0 = kk ∧ kk ≤ c0 := by
        obtain ⟨_, _, _, ⟨h, _⟩ | ⟨_, _, _, h, hc, _⟩⟩ := HLR.out
        · cases h
        · cases h; omega
      obtain ⟨hnc1, hnc2⟩ := hnc
      have hkle : kk ≤ xs.length := by omega
      have HF := hide (HLR.out.front (k := kk) hkle)
      have HK := hide (HLR.out.back (k := kk) hkle)
      have HO := hide ((ownsRow_made wc 28 1).drew)
      have HBW := hide (((Below.refl wc.heap.size wc).alloc (Nat.le_refl _) (.cells #[] 28)).drew)
      have C1 := hide (show 0 + (xs.length - kk) ≤ maxLen by unfold maxLen; omega)
      have C2 := hide (show (0 + (xs.length - kk)) * 4 ≤ 140737488355328 by omega)
      have C3 := hide (show (xs.length - kk) + kk ≤ maxLen by unfold maxLen; omega)
      have C4 := hide (show ((xs.length - kk) + kk) * 4 ≤ 140737488355328 by omega)
      go_upto_region 16 with fail
      go_cut [13] (fun s wx => ∃ (a : Option Addr) (c : Nat), s = .slice a xs.length c ∧ wx.ownsRow wc.heap.size 28 1 (.slice a xs.length c) xs.length (nums (rotAt xs kk)) ∧ Below wc.heap.size wc wx)
      case first =>
        go_region_law (first
          | (refine step_append_reads rfl _ _ 52 rfl wc.heap.size 28 i0 (.int .u32 0) 1 4 Try.underlying52 HI.out Hz0.out Hz1.out Hz2.out rfl (by decide) _ 0 [] rfl HO.out _ (xs.length - kk) (nums (xs.drop kk)) rfl (HK.out.below HBW.out) C1.out C2.out HBW.out.size ?_; intro a1 c1 w2 hown2 hg2; have hb2 := HBW.out.grown hg2 HBW.out.size (owned_ge HO.out); rw [Nat.zero_add] at hown2)
          | (refine step_append_reads rfl _ _ 52 rfl wc.heap.size 28 i0 (.int .u32 0) 1 4 Try.underlying52 HI.out Hz0.out Hz1.out Hz2.out rfl (by decide) _ (xs.length - kk) _ rfl hown2 _ kk (nums (xs.take kk)) rfl (HF.out.below hb2) C3.out C4.out hb2.size ?_; intro a3 c3 w3 hown3 hg3; have hb3 := hb2.grown hg3 hb2.size (owned_ge hown2)))
        all_goals
          go_wp2_with fail
          go_meet
          have hl : (xs.length - kk) + kk = xs.length := by omega
          rw [hl] at hown3
          refine ⟨a3, c3, by first | rfl | rw [hl], ?_, hb3⟩
          simpa [rotAt, nums] using hown3
      case rest =>
        obtain ⟨am, cm, rfl, hownm, hbm2⟩ := hcut
        have hcell2 := (HLR.out.below hbm2).cellNum q hq
        have TW := hide (twins_of HN.out HX.out (nth_mem hq) kk hkle)
        have hyl := rotAt_length xs kk
        have RL0 := hide (HLR.out.below hbm2)
        have RM0 := hide (Reads.owned hownm (nums_one _) (by unfold maxLen; omega))
        have HB0 := hide (HBR.out.trans (hbm2.mono HBR.out.size))
        generalize rotAt xs kk = ys at *
        have hy60 : ys.length ≤ 60 := by omega
        have HYL := hide hyl
        clear hcell HLR HBR hbm2 hownm hbm HF HK HO HBW C1 C2 C3 C4 hnc1 hnc2 hkle hkk l2
        obtain ⟨ZX, HZX⟩ : ∃ Z : List Int, Hid (Z = rot (insAt xs (placeOf xs (nth xs q)) [x])) := ⟨_, rfl⟩
        obtain ⟨ZY, HZY⟩ : ∃ Z : List Int, Hid (Z = rot (insAt ys (placeOf ys (nth xs q)) [x])) := ⟨_, rfl⟩
        have HLX := hide (show ZX.length = xs.length + 1 by rw [HZX.out]; exact ins_len xs _ x)
        have HLY := hide (show ZY.length = ys.length + 1 by rw [HZY.out]; exact ins_len ys _ x)
        go_wp2_with fail
        refine (normal_len _ _ xs _ rfl RL0.out (by omega)).mono ?_
        rintro e41 w41 ⟨⟨a41, c41, rfl, hown41⟩, hb41⟩
        have RL_41 := hide (RL0.out.below hb41)
        have RM_41 := hide (RM0.out.below hb41)
        have HB_41 := hide (HB0.out.trans (hb41.mono HB0.out.size))
        have R1_41 := hide (Reads.owned hown41 (nums_one _) (by unfold maxLen; omega))
        clear hb41 RL0 RM0 HB0
        clear hown41
        go_wp2_with fail
        refine (normal_len _ _ ys _ HYL.out RM_41.out (by omega)).mono ?_
        rintro e42 w42 ⟨⟨a42, c42, rfl, hown42⟩, hb42⟩
        have RL_42 := hide (RL_41.out.below hb42)
        have RM_42 := hide (RM_41.out.below hb42)
        have R1_42 := hide (R1_41.out.below hb42)
        have HB_42 := hide (HB_41.out.trans (hb42.mono HB_41.out.size))
        have R2_42 := hide (Reads.owned hown42 (nums_one _) (by unfold maxLen; omega))
        clear hb42 RL_41 RM_41 R1_41 HB_41
        clear hown42
        go_wp2_with fail
        refine (same_u32 _ _ _ _ (rot xs) (rot ys) _ (rot_length _) (by rw [rot_length, HYL.out]) R1_42.out R2_42.out).mono ?_
        rintro e43 w43 ⟨rfl, hb43⟩
        have RL_43 := hide (RL_42.out.below hb43)
        have RM_43 := hide (RM_42.out.below hb43)
        have R1_43 := hide (R1_42.out.below hb43)
        have R2_43 := hide (R2_42.out.below hb43)
        have HB_43 := hide (HB_42.out.trans (hb43.mono HB_42.out.size))
        clear hb43 RL_42 RM_42 R1_42 R2_42 HB_42
        rw [decide_eq_true (TW.out.2.1.symm)]
        clear R1_43
        clear R2_43
        go_wp2_with fail
        refine (dartSame_u32 _ _ xs ys _ RL_43.out (by rw [HYL.out]; exact RM_43.out) (by omega) (by omega)).mono ?_
        rintro e44 w44 ⟨rfl, hb44⟩
        have RL_44 := hide (RL_43.out.below hb44)
        have RM_44 := hide (RM_43.out.below hb44)
        have HB_44 := hide (HB_43.out.trans (hb44.mono HB_43.out.size))
        clear hb44 RL_43 RM_43 HB_43
        rw [decide_eq_true TW.out.2.1.symm]
        go_wp2_with fail
        refine (next_u32 _ xs (nth xs q) _ RL_44.out (by omega)).mono ?_
        rintro e45 w45 ⟨rfl, rfl⟩
        go_wp2_with fail
        refine (next_u32 _ ys (nth xs q) _ (by rw [HYL.out]; exact RM_44.out) (by omega)).mono ?_
        rintro e46 w46 ⟨rfl, rfl⟩
        rw [TW.out.2.2.1]
        go_wp2_with fail
        refine (prev_u32 _ xs (nth xs q) _ RL_44.out (by omega)).mono ?_
        rintro e47 w47 ⟨rfl, rfl⟩
        go_wp2_with fail
        refine (prev_u32 _ ys (nth xs q) _ (by rw [HYL.out]; exact RM_44.out) (by omega)).mono ?_
        rintro e48 w48 ⟨rfl, rfl⟩
        have RL_a1 := hide (RL_44.out.alloc (.cells #[.int .u32 x] 28))
        have RM_a1 := hide (RM_44.out.alloc (.cells #[.int .u32 x] 28))
        have HB_a1 := hide (HB_44.out.alloc HB_44.out.size (.cells #[.int .u32 x] 28))
        have RX_a1 := hide (reads_fresh w44 [.int .u32 x] 28 1 1 rfl (by simp [Value.oneCell']) (by unfold maxLen; omega))
        clear RL_44 RM_44 HB_44
        rw [TW.out.2.2.2.1]
        go_wp2_with fail
        refine (insertAs_u32 _ _ xs (nth xs q) x ZX HZX.out _ RL_a1.out RX_a1.out (by omega)).mono ?_
        rintro e49 w49 ⟨⟨a49, c49, rfl, hown49⟩, hb49⟩
        have RL_49 := hide (RL_a1.out.below hb49)
        have RM_49 := hide (RM_a1.out.below hb49)
        have RX_49 := hide (RX_a1.out.below hb49)
        have HB_49 := hide (HB_a1.out.trans (hb49.mono HB_a1.out.size))
        have R1_49 := hide (Reads.owned hown49 (nums_one _) (by unfold maxLen; omega))
        clear hb49 RL_a1 RM_a1 RX_a1 HB_a1
        clear hown49
        clear RX_49
        have RL_a2 := hide (RL_49.out.alloc (.cells #[.int .u32 x] 28))
        have RM_a2 := hide (RM_49.out.alloc (.cells #[.int .u32 x] 28))
        have R1_a2 := hide (R1_49.out.alloc (.cells #[.int .u32 x] 28))
        have HB_a2 := hide (HB_49.out.alloc HB_49.out.size (.cells #[.int .u32 x] 28))
        have RX_a2 := hide (reads_fresh w49 [.int .u32 x] 28 1 1 rfl (by simp [Value.oneCell']) (by unfold maxLen; omega))
        clear RL_49 RM_49 R1_49 HB_49
        go_wp2_with fail
        refine (insertAs_u32 _ _ ys (nth xs q) x ZY HZY.out _ (by rw [HYL.out]; exact RM_a2.out) RX_a2.out (by omega)).mono ?_
        rintro e50 w50 ⟨⟨a50, c50, rfl, hown50⟩, hb50⟩
        have RL_50 := hide (RL_a2.out.below hb50)
        have RM_50 := hide (RM_a2.out.below hb50)
        have R1_50 := hide (R1_a2.out.below hb50)
        have RX_50 := hide (RX_a2.out.below hb50)
        have HB_50 := hide (HB_a2.out.trans (hb50.mono HB_a2.out.size))
        have R2_50 := hide (Reads.owned hown50 (nums_one _) (by unfold maxLen; omega))
        clear hb50 RL_a2 RM_a2 R1_a2 RX_a2 HB_a2
        clear hown50
        clear RX_50
        go_wp2_with fail
        refine (same_u32 _ _ (xs.length + 1) (xs.length + 1) ZX ZY _ HLX.out (HLY.out.trans (by rw [HYL.out])) R1_50.out (by have h := R2_50.out; rw [HYL.out] at h; exact h)).mono ?_
        rintro e51 w51 ⟨rfl, hb51⟩
        have RL_51 := hide (RL_50.out.below hb51)
        have RM_51 := hide (RM_50.out.below hb51)
        have R1_51 := hide (R1_50.out.below hb51)
        have R2_51 := hide (R2_50.out.below hb51)
        have HB_51 := hide (HB_50.out.trans (hb51.mono HB_50.out.size))
        clear hb51 RL_50 RM_50 R1_50 R2_50 HB_50
        rw [decide_eq_true ((HZX.out.trans (TW.out.2.2.2.2.1.symm.trans HZY.out.symm)))]
        clear R1_51
        clear R2_51
        go_wp2_with fail
        refine (mirror_u32 _ xs _ RL_51.out (by omega)).mono ?_
        rintro e52 w52 ⟨⟨a52, c52, rfl, hown52⟩, hb52⟩
        have RL_52 := hide (RL_51.out.below hb52)
        have RM_52 := hide (RM_51.out.below hb52)
        have HB_52 := hide (HB_51.out.trans (hb52.mono HB_51.out.size))
        have R1_52 := hide (Reads.owned hown52 (nums_one _) (by unfold maxLen; omega))
        clear hb52 RL_51 RM_51 HB_51
        clear hown52
        go_wp2_with fail
        refine (mirror_u32 _ ys _ (by rw [HYL.out]; exact RM_52.out) (by omega)).mono ?_
        rintro e53 w53 ⟨⟨a53, c53, rfl, hown53⟩, hb53⟩
        have RL_53 := hide (RL_52.out.below hb53)
        have RM_53 := hide (RM_52.out.below hb53)
        have R1_53 := hide (R1_52.out.below hb53)
        have HB_53 := hide (HB_52.out.trans (hb53.mono HB_52.out.size))
        have R2_53 := hide (Reads.owned hown53 (nums_one _) (by unfold maxLen; omega))
        clear hb53 RL_52 RM_52 R1_52 HB_52
        clear hown53
        go_wp2_with fail
        refine (same_u32 _ _ _ _ (rot xs.reverse) (rot ys.reverse) _ (by rw [rot_length, List.length_reverse]) (by rw [rot_length, List.length_reverse, HYL.out]) R1_53.out (by have h := R2_53.out; rw [HYL.out] at h; exact h)).mono ?_
        rintro e54 w54 ⟨rfl, hb54⟩
        have RL_54 := hide (RL_53.out.below hb54)
        have RM_54 := hide (RM_53.out.below hb54)
        have R1_54 := hide (R1_53.out.below hb54)
        have R2_54 := hide (R2_53.out.below hb54)
        have HB_54 := hide (HB_53.out.trans (hb54.mono HB_53.out.size))
        clear hb54 RL_53 RM_53 R1_53 R2_53 HB_53
        rw [decide_eq_true (TW.out.2.2.2.2.2.1.symm)]
        clear R1_54
        clear R2_54
        have RL_a3 := hide (RL_54.out.alloc (.cells #[.int .u32 x] 28))
        have RM_a3 := hide (RM_54.out.alloc (.cells #[.int .u32 x] 28))
        have HB_a3 := hide (HB_54.out.alloc HB_54.out.size (.cells #[.int .u32 x] 28))
        have RX_a3 := hide (reads_fresh w54 [.int .u32 x] 28 1 1 rfl (by simp [Value.oneCell']) (by unfold maxLen; omega))
        clear RL_54 RM_54 HB_54
        go_wp2_with fail
        refine (insertAs_u32 _ _ xs (nth xs q) x ZX HZX.out _ RL_a3.out RX_a3.out (by omega)).mono ?_
        rintro e55 w55 ⟨⟨a55, c55, rfl, hown55⟩, hb55⟩
        have RL_55 := hide (RL_a3.out.below hb55)
        have RM_55 := hide (RM_a3.out.below hb55)
        have RX_55 := hide (RX_a3.out.below hb55)
        have HB_55 := hide (HB_a3.out.trans (hb55.mono HB_a3.out.size))
        have R1_55 := hide (Reads.owned hown55 (nums_one _) (by unfold maxLen; omega))
        clear hb55 RL_a3 RM_a3 RX_a3 HB_a3
        clear hown55
        clear RX_55
        have RL_a4 := hide (RL_55.out.alloc (.cells #[.int .u32 x] 28))
        have RM_a4 := hide (RM_55.out.alloc (.cells #[.int .u32 x] 28))
        have R1_a4 := hide (R1_55.out.alloc (.cells #[.int .u32 x] 28))
        have HB_a4 := hide (HB_55.out.alloc HB_55.out.size (.cells #[.int .u32 x] 28))
        have RX_a4 := hide (reads_fresh w55 [.int .u32 x] 28 1 1 rfl (by simp [Value.oneCell']) (by unfold maxLen; omega))
        clear RL_55 RM_55 R1_55 HB_55
        have HLO := hide (show (outOf [x] ZX).length ≤ ZX.length from outOf_len [x] ZX)
        go_wp2_with fail
        refine (without_u32 _ _ ZX [x] _ (by rw [HLX.out]; exact R1_a4.out) RX_a4.out (by rw [HLX.out]; omega)).mono ?_
        rintro e56 w56 ⟨⟨a56, c56, rfl, hown56⟩, hb56⟩
        have RL_56 := hide (RL_a4.out.below hb56)
        have RM_56 := hide (RM_a4.out.below hb56)
        have R1_56 := hide (R1_a4.out.below hb56)
        have RX_56 := hide (RX_a4.out.below hb56)
        have HB_56 := hide (HB_a4.out.trans (hb56.mono HB_a4.out.size))
        have R3_56 := hide (Reads.owned hown56 (nums_one _) (by unfold maxLen; have h1 := HLX.out; have h2 := HLO.out; omega))
        clear hb56 RL_a4 RM_a4 R1_a4 RX_a4 HB_a4
        clear hown56
        clear RX_56
        go_wp2_with fail
        refine (normal_len _ _ xs _ rfl RL_56.out (by omega)).mono ?_
        rintro e57 w57 ⟨⟨a57, c57, rfl, hown57⟩, hb57⟩
        have RL_57 := hide (RL_56.out.below hb57)
        have RM_57 := hide (RM_56.out.below hb57)
        have R1_57 := hide (R1_56.out.below hb57)
        have R3_57 := hide (R3_56.out.below hb57)
        have HB_57 := hide (HB_56.out.trans (hb57.mono HB_56.out.size))
        have R2_57 := hide (Reads.owned hown57 (nums_one _) (by unfold maxLen; omega))
        clear hb57 RL_56 RM_56 R1_56 R3_56 HB_56
        clear hown57
        go_wp2_with fail
        refine (same_u32 _ _ _ _ (rot (outOf [x] ZX)) (rot xs) _ (rot_length _) (rot_length _) R3_57.out R2_57.out).mono ?_
        rintro e58 w58 ⟨rfl, hb58⟩
        have RL_58 := hide (RL_57.out.below hb58)
        have RM_58 := hide (RM_57.out.below hb58)
        have R1_58 := hide (R1_57.out.below hb58)
        have R3_58 := hide (R3_57.out.below hb58)
        have R2_58 := hide (R2_57.out.below hb58)
        have HB_58 := hide (HB_57.out.trans (hb58.mono HB_57.out.size))
        clear hb58 RL_57 RM_57 R1_57 R3_57 R2_57 HB_57
        rw [decide_eq_true ((by rw [HZX.out]; exact TW.out.2.2.2.2.2.2.1))]
        clear R3_58
        clear R2_58
        go_wp2_with fail
        refine (next_u32 _ xs (nth xs q) _ RL_58.out (by omega)).mono ?_
        rintro e59 w59 ⟨rfl, rfl⟩
        go_wp2_with fail
        refine (prev_u32 _ xs (nextOf xs (nth xs q)) _ RL_58.out (by omega)).mono ?_
        rintro e60 w60 ⟨rfl, rfl⟩
        rw [(TW.out.2.2.2.2.2.2.2 h0).1]
        clear R1_58
        have RL_a5 := hide (RL_58.out.alloc (.cells #[.int .u32 x] 28))
        have RM_a5 := hide (RM_58.out.alloc (.cells #[.int .u32 x] 28))
        have HB_a5 := hide (HB_58.out.alloc HB_58.out.size (.cells #[.int .u32 x] 28))
        have RX_a5 := hide (reads_fresh w58 [.int .u32 x] 28 1 1 rfl (by simp [Value.oneCell']) (by unfold maxLen; omega))
        clear RL_58 RM_58 HB_58
        go_wp2_with fail
        refine (insertAs_u32 _ _ xs (nth xs q) x ZX HZX.out _ RL_a5.out RX_a5.out (by omega)).mono ?_
        rintro e61 w61 ⟨⟨a61, c61, rfl, hown61⟩, hb61⟩
        have RL_61 := hide (RL_a5.out.below hb61)
        have RM_61 := hide (RM_a5.out.below hb61)
        have RX_61 := hide (RX_a5.out.below hb61)
        have HB_61 := hide (HB_a5.out.trans (hb61.mono HB_a5.out.size))
        have R1_61 := hide (Reads.owned hown61 (nums_one _) (by unfold maxLen; omega))
        clear hb61 RL_a5 RM_a5 RX_a5 HB_a5
        clear hown61
        clear RX_61
        go_wp2_with fail
        refine (next_u32 _ ZX (nth xs q) _ (by rw [HLX.out]; exact R1_61.out) (by rw [HLX.out]; omega)).mono ?_
        rintro e62 w62 ⟨rfl, rfl⟩
        rw [show nextOf ZX (nth xs q) = x by rw [HZX.out]; exact (TW.out.2.2.2.2.2.2.2 h0).2]
        go_wp2_with fail
        go_ret
        exact ⟨rfl, HB_61.out⟩
end Go.Proofs.Ytkkfnpbbigcpbaa.dartBegins
