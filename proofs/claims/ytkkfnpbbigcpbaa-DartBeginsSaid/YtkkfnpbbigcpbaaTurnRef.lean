/- The document's Normal, Insert and Without of rows of darts. -/
import Derived.Test.YtkkfnpbbigcpbaaTurnSide
namespace Go.Proofs.Ytkkfnpbbigcpbaa
open Go.RowKit

theorem minOf_le {xs : List Int} : ∀ x ∈ xs, minOf xs ≤ x := by
  have h : ∀ (l : List Int) (a : Int), l.foldl min a ≤ a ∧ ∀ x ∈ l, l.foldl min a ≤ x := by
    intro l
    induction l with
    | nil => intro a; simp
    | cons b l ih =>
      intro a
      obtain ⟨h1, h2⟩ := ih (min a b)
      rw [List.foldl_cons]
      refine ⟨by omega, fun x hx => ?_⟩
      rcases List.mem_cons.1 hx with rfl | hx
      · omega
      · exact h2 x hx
  intro x hx
  match xs, hx with
  | a :: l, hx =>
    obtain ⟨h1, h2⟩ := h l a
    rcases List.mem_cons.1 hx with rfl | hx
    · exact h1
    · exact h2 x hx
/-- The first place of the least among the first k. -/
def leastAt (xs : List Int) (k at' : Nat) : Prop := (0 < k → at' < k) ∧ (k = 0 → at' = 0) ∧ ∀ j, j < k → nth xs at' ≤ nth xs j ∧ (j < at' → nth xs at' < nth xs j)
theorem leastAt_rot {xs : List Int} {at' : Nat} (h : leastAt xs xs.length at') : rot xs = rotAt xs at' := by
  by_cases h0 : xs.length = 0
  · have : xs = [] := List.eq_nil_of_length_eq_zero h0
    subst this
    simp [rot, rotAt]
  · obtain ⟨h1, _, h2⟩ := h
    have ha := h1 (by omega)
    have hm : minOf xs = xs[at'] := by
      have h3 := minOf_le xs[at'] (List.getElem_mem ha)
      obtain ⟨j, hj, hje⟩ := List.mem_iff_getElem.1 (minOf_mem (xs := xs) (by omega))
      have h4 := (h2 j hj).1
      rw [nth_eq xs at' ha, nth_eq xs j hj, hje] at h4
      omega
    have hi : idx xs (minOf xs) = at' := by
      apply idx_at ha
      · rw [hm]; simp
      · intro j hj
        have h4 := (h2 j (by omega)).2 hj
        rw [nth_eq xs at' ha, nth_eq xs j (by omega)] at h4
        rw [hm, beq_eq_false_iff_ne]
        omega
    rw [rot, hi]; rfl
theorem rotAt_get {xs : List Int} {a i : Nat} (ha : a < xs.length) (hi : i < xs.length) : nth (rotAt xs a) i = nth xs ((a + i) % xs.length) := by
  unfold nth rotAt
  rw [List.getD_eq_getElem?_getD, List.getD_eq_getElem?_getD]
  congr 1
  by_cases h : i < xs.length - a
  · rw [List.getElem?_append_left (by simpa using h), List.getElem?_drop, Nat.mod_eq_of_lt (by omega)]
  · rw [List.getElem?_append_right (by simp; omega), List.getElem?_take, if_pos (by simp; omega)]
    rw [show a + i = (i - (xs.length - a)) + xs.length by omega, Nat.add_mod_right, Nat.mod_eq_of_lt (by omega)]
    simp
theorem take_snoc_nth {xs : List Int} {k : Nat} (h : k < xs.length) : xs.take (k + 1) = xs.take k ++ [nth xs k] := by
  rw [List.take_succ_eq_append_getElem h, nth_eq xs k h]

set_option maxHeartbeats 800000 in
set_option maxRecDepth 20000 in
theorem refNormal_u32 (v : Value) (n : Nat) (xs : List Int) (w : World) (hn : xs.length = n) (hr : Reads w 1 v n (nums xs)) (hx : n ≤ 1000000) :
    Calls Try.prog 36 #[v] w fun e w' => (∃ a c, e = .returned (.slice a n c) ∧ w'.ownsRow w.heap.size 28 1 (.slice a n c) n (nums (rot xs))) ∧ Below w.heap.size w w' := by
  subst hn
  obtain ⟨i0, hi, hz0, hz1, hz2⟩ := info_parts info28
  have HI := hide hi
  have Hz0 := hide hz0
  have Hz1 := hide hz1
  have Hz2 := hide hz2
  clear hi hz0 hz1 hz2
  obtain ⟨a0, c0, rfl⟩ := hr.shape
  have HR := hide hr
  clear hr
  go_enter Try.func36, Try.ntmps36
  go_upto_block 0 with fail
  go_cut [3] (fun s wx => ∃ at' : Nat, s = .int .i64 at' ∧ leastAt xs xs.length at' ∧ w = wx)
  case first =>
    go_wp2_with fail
    go_loop [10, 3, 4, 5] (fun i s _ _ => ∃ k at' : Nat, k ≤ xs.length ∧ i = .int .i64 k ∧ s = .int .i64 at' ∧ leastAt xs k at') (fun i _ _ _ => xs.length - (intOf i).toNat)
    case atStart => exact ⟨0, 0, by omega, rfl, rfl, by simp [leastAt]⟩
    case round =>
      obtain ⟨k, at', hk, rfl, rfl, hl⟩ := hrel
      have HL := hide hl
      have hat : at' ≤ k := by
        obtain ⟨h1, h2, _⟩ := hl
        by_cases h0 : k = 0
        · rw [h2 h0]; omega
        · exact Nat.le_of_lt (h1 (by omega))
      clear hl
      by_cases hlt : k < xs.length
      · obtain ⟨b, o, c, hv⟩ := HR.out.isRow (by omega)
        cases hv
        have c1 := HR.out.cellNum k hlt
        have c2 := HR.out.cellNum at' (by omega)
        have p2 : (at' : Int) < (xs.length : Int) := by omega
        by_cases hless : nth xs k < nth xs at'
        · go_wp2_with fail
          go_round
          case rel =>
            refine ⟨k + 1, k, by omega, by go_num, rfl, fun _ => by omega, fun h => by omega, fun j hj => ?_⟩
            by_cases hjk : j < k
            · have := (HL.out.2.2 j hjk).1
              exact ⟨by omega, fun _ => by omega⟩
            · obtain rfl : j = k := by omega
              exact ⟨by omega, fun h => by omega⟩
          case measure => simp [intOf]; omega
        · go_wp2_with fail
          go_round
          case rel =>
            refine ⟨k + 1, at', by omega, by go_num, rfl, fun _ => by omega, fun h => by omega, fun j hj => ?_⟩
            by_cases hjk : j < k
            · exact HL.out.2.2 j hjk
            · obtain rfl : j = k := by omega
              exact ⟨by omega, fun h => by omega⟩
          case measure => simp [intOf]; omega
      · go_wp2_with fail
        go_meet
        obtain rfl : k = xs.length := by omega
        exact ⟨at', rfl, HL.out, rfl⟩
  case rest =>
    obtain ⟨at', rfl, hl, rfl⟩ := hcut
    have HRT := hide (leastAt_rot hl)
    have hat : at' ≤ xs.length ∧ (0 < xs.length → at' < xs.length) := by
      obtain ⟨h1, h2, _⟩ := hl
      by_cases h0 : xs.length = 0
      · rw [h2 h0]; omega
      · exact ⟨Nat.le_of_lt (h1 (by omega)), h1⟩
    clear hl
    have hlen := rotAt_length xs at'
    go_wp2_with fail
    go_loopw [25, 6, 7] (fun i v _ wr => ∃ (k : Nat) (a : Option Addr) (c : Nat), k ≤ xs.length ∧ i = .int .i64 k ∧ v = .slice a k c ∧ wr.ownsRow w.heap.size 28 1 (.slice a k c) k (nums ((rotAt xs at').take k)) ∧ Below w.heap.size w wr) (fun i _ _ _ => xs.length - (intOf i).toNat)
    case atStart => exact ⟨0, none, 0, by omega, rfl, rfl, World.ownsRow_nil _ _ _ _, Below.refl _ _⟩
    case round =>
      obtain ⟨k, a, c', hk, rfl, rfl, hown, hb⟩ := hrel
      by_cases hlt : k < xs.length
      · obtain ⟨b, o, c, hv⟩ := HR.out.isRow (by omega)
        cases hv
        have hq : (at' + k) % xs.length < xs.length := Nat.mod_lt _ (by omega)
        have c1 := (HR.out.below hb).cellNum _ hq
        rw [← rotAt_get (hat.2 (by omega)) hlt] at c1
        have w2 : IntKind.i64.wrap ((at' : Int) + k) = (at' : Int) + k := by rw [IntKind.wrap_i64]; omega
        have w3 : ((at' : Int) + k).tmod xs.length = (((at' + k) % xs.length : Nat) : Int) := by rw [Int.tmod_eq_emod_of_nonneg (by omega)]; norm_cast
        generalize (at' + k) % xs.length = q at *
        have w4 : (q : Int) < (xs.length : Int) := by omega
        have HS := hide (take_snoc_nth (xs := rotAt xs at') (k := k) (by omega))
        generalize nth (rotAt xs at') k = x at *
        have HO := hide (hown.alloc (.cells #[.int .u32 x] 28))
        have HB := hide (hb.alloc hb.size (.cells #[.int .u32 x] 28))
        have HF := hide (reads_fresh wr [.int .u32 x] 28 1 1 rfl (by simp [Value.oneCell']) (by unfold maxLen; omega))
        have C1 := hide (show k + 1 ≤ maxLen by unfold maxLen; omega)
        have C2 := hide (show (k + 1) * 4 ≤ 140737488355328 by omega)
        clear hown hb
        go_wp2_with (at_builtin; refine wpList_append_reads rfl _ _ 52 rfl w.heap.size 28 i0 (.int .u32 0) 1 4 Try.underlying52 HI.out Hz0.out Hz1.out Hz2.out rfl (by decide) _ k _ rfl HO.out _ 1 [.int .u32 x] rfl HF.out C1.out C2.out HB.out.size ?_; intro a' c'' w' hown' hg)
        go_roundw
        case rel =>
          refine ⟨k + 1, a', c'', by omega, by go_num, rfl, ?_, HB.out.grown hg HB.out.size (owned_ge HO.out)⟩
          rw [HS.out, nums_append]
          exact hown'
        case measure => simp [intOf]; omega
      · go_wp2_with fail
        go_ret
        obtain rfl : k = xs.length := by omega
        rw [List.take_of_length_le (by omega)] at hown
        rw [HRT.out]
        exact ⟨⟨a, c', rfl, hown⟩, hb⟩

/-- A row with another put in at a place, as far as the first k of it. -/
def insTo (xs : List Int) (p : Nat) (ms : List Int) (k : Nat) : List Int := if p ≤ k ∧ 0 < k then xs.take p ++ ms ++ (xs.drop p).take (k - p) else xs.take k
theorem insTo_end (xs : List Int) (p : Nat) (ms : List Int) (hp : p ≤ xs.length) (h0 : 0 < xs.length) : insTo xs p ms xs.length = insAt xs p ms := by
  rw [insTo, if_pos ⟨hp, h0⟩, insAt, List.take_of_length_le (l := xs.drop p) (by simp)]
theorem insTo_at (xs : List Int) (p : Nat) (ms : List Int) (k : Nat) (hk : k < xs.length) (h : k + 1 = p) : insTo xs p ms (k + 1) = insTo xs p ms k ++ [nth xs k] ++ ms := by
  subst h
  rw [insTo, if_pos ⟨Nat.le_refl _, by omega⟩, insTo, if_neg (by omega), take_snoc_nth hk]
  simp
theorem insTo_on (xs : List Int) (p : Nat) (ms : List Int) (hp1 : 1 ≤ p) (k : Nat) (hk : k < xs.length) (h : k + 1 ≠ p) : insTo xs p ms (k + 1) = insTo xs p ms k ++ [nth xs k] := by
  by_cases hp : p ≤ k
  · rw [insTo, if_pos (by omega), insTo, if_pos (by omega)]
    have : (xs.drop p).take (k + 1 - p) = (xs.drop p).take (k - p) ++ [nth xs k] := by
      rw [show k + 1 - p = (k - p) + 1 by omega, List.take_succ_eq_append_getElem (by simp; omega), List.getElem_drop, nth_eq xs k hk]
      congr 3
      omega
    rw [this, List.append_assoc, List.append_assoc, List.append_assoc]
  · rw [insTo, if_neg (by omega), insTo, if_neg (by omega), take_snoc_nth hk]
theorem insTo_len (xs : List Int) (p : Nat) (ms : List Int) (k : Nat) (hk : k ≤ xs.length) : (insTo xs p ms k).length ≤ k + ms.length := by
  unfold insTo; split <;> simp <;> omega

set_option maxHeartbeats 1600000 in
set_option maxRecDepth 20000 in
theorem refInsert_u32 (v u : Value) (xs : List Int) (d : Int) (ms : List Int) (w : World) (hr : Reads w 1 v xs.length (nums xs)) (hm : Reads w 1 u ms.length (nums ms)) (hx : xs.length + ms.length ≤ 1000000) :
    Calls Try.prog 42 #[v, .int .u32 d, u] w fun e w' => (∃ a c, e = .returned (.slice a (xs.length + ms.length) c) ∧ w'.ownsRow w.heap.size 28 1 (.slice a (xs.length + ms.length) c) (xs.length + ms.length) (nums (rot (insAt xs (placeOf xs d) ms)))) ∧ Below w.heap.size w w' := by
  obtain ⟨i0, hi, hz0, hz1, hz2⟩ := info_parts info28
  have HI := hide hi
  have Hz0 := hide hz0
  have Hz1 := hide hz1
  have Hz2 := hide hz2
  clear hi hz0 hz1 hz2
  obtain ⟨a0, c0, rfl⟩ := hr.shape
  obtain ⟨a1, c1, rfl⟩ := hm.shape
  have HF := hide (find_u32 _ xs d w hr)
  have HR := hide hr
  have HM := hide hm
  clear hr hm
  have hple := placeOf_le xs d
  have hp1 : xs.length ≠ 0 → 1 ≤ placeOf xs d := by
    intro h; unfold placeOf; split <;> omega
  have hcase : (idx xs d = -1 ∧ placeOf xs d = xs.length) ∨ ∃ k : Nat, k < xs.length ∧ idx xs d = k ∧ placeOf xs d = k + 1 := by
    rcases idx_or xs d with hi | ⟨k, hk, hi⟩
    · exact .inl ⟨hi, by rw [placeOf, hi]; rfl⟩
    · exact .inr ⟨k, hk, hi, by rw [placeOf, hi, if_neg (by omega)]; rfl⟩
  generalize placeOf xs d = p at *
  have HLE := hide (insTo_len xs p ms)
  have HE := hide (insTo_end xs p ms hple)
  have HAT := hide (insTo_at xs p ms)
  have HON := hide (insTo_on xs p ms)
  rcases hcase with ⟨hi, hpe⟩ | ⟨kk, hkk, hi, hpe⟩
  all_goals
    rw [hi] at HF
    have HPE := hide hpe
    clear hi hpe
    go_enter Try.func42, Try.ntmps42
    go_wp2_with (go_at_call 91; refine HF.out.mono ?_; rintro e w' ⟨rfl, rfl⟩)
    go_loopw [21, 8, 9, 10] (fun i v _ _ wr => ∃ (k : Nat) (a : Option Addr) (c : Nat), k ≤ xs.length ∧ i = .int .i64 k ∧ v = .slice a (insTo xs p ms k).length c ∧ wr.ownsRow w.heap.size 28 1 (.slice a (insTo xs p ms k).length c) (insTo xs p ms k).length (nums (insTo xs p ms k)) ∧ Below w.heap.size w wr) (fun i _ _ _ _ => xs.length - (intOf i).toNat)
    case atStart =>
      have h0 : insTo xs p ms 0 = [] := by rw [insTo, if_neg (by omega)]; rfl
      exact ⟨0, none, 0, by omega, rfl, by rw [h0]; rfl, by rw [h0]; exact World.ownsRow_nil _ _ _ _, Below.refl _ _⟩
    case round =>
      obtain ⟨k, a, c, hk, rfl, rfl, hown, hb⟩ := hrel
      have hlen := HLE.out k hk
      by_cases hlt : k < xs.length
      · obtain ⟨b, o, c2, hv⟩ := HR.out.isRow (by omega)
        cases hv
        have hcell := (HR.out.below hb).cellNum k hlt
        have HO := hide (hown.alloc (.cells #[.int .u32 (nth xs k)] 28))
        have HB := hide (hb.alloc hb.size (.cells #[.int .u32 (nth xs k)] 28))
        have HFR := hide (reads_fresh wr [.int .u32 (nth xs k)] 28 1 1 rfl (by simp [Value.oneCell']) (by unfold maxLen; omega))
        have C1 := hide (show (insTo xs p ms k).length + 1 ≤ maxLen by unfold maxLen; omega)
        have C2 := hide (show ((insTo xs p ms k).length + 1) * 4 ≤ 140737488355328 by omega)
        have C3 := hide (show (insTo xs p ms k).length + 1 + ms.length ≤ maxLen by unfold maxLen; omega)
        have C4 := hide (show ((insTo xs p ms k).length + 1 + ms.length) * 4 ≤ 140737488355328 by omega)
        clear hown hb
        by_cases hat : k + 1 = p
        · first
            | have hE : ((k : Int) == (kk : Int)) = true := by rw [beq_iff_eq]; have := HPE.out; omega
            | have hE : ((k : Int) == (xs.length : Int) - 1) = true := by rw [beq_iff_eq]; have := HPE.out; omega
          have HAT2 := hide hat
          clear hat
          go_wp2_with (first
            | (at_builtin; refine wpList_append_reads rfl _ _ 52 rfl w.heap.size 28 i0 (.int .u32 0) 1 4 Try.underlying52 HI.out Hz0.out Hz1.out Hz2.out rfl (by decide) _ (insTo xs p ms k).length _ rfl HO.out _ 1 [.int .u32 (nth xs k)] rfl HFR.out C1.out C2.out HB.out.size ?_; intro a' c'' w' hown' hg; have HB' := HB.out.grown hg HB.out.size (owned_ge HO.out); clear hg)
            | (at_builtin; refine wpList_append_reads rfl _ _ 52 rfl w.heap.size 28 i0 (.int .u32 0) 1 4 Try.underlying52 HI.out Hz0.out Hz1.out Hz2.out rfl (by decide) _ ((insTo xs p ms k).length + 1) _ rfl hown' _ ms.length (nums ms) rfl (HM.out.below HB') C3.out C4.out HB'.size ?_; intro a2 c2 w2 hown2 hg2))
          go_roundw
          case rel =>
            have hl : (insTo xs p ms (k + 1)).length = (insTo xs p ms k).length + 1 + ms.length := by rw [HAT.out k hlt HAT2.out, List.length_append, List.length_append]; rfl
            refine ⟨k + 1, a2, c2, by omega, by go_num, by rw [hl], ?_, HB'.grown hg2 HB'.size (owned_ge hown')⟩
            rw [hl, HAT.out k hlt HAT2.out, nums_append, nums_append]
            exact hown2
          case measure => simp [intOf]; omega
        · first
            | have hE : ((k : Int) == (kk : Int)) = false := by rw [beq_eq_false_iff_ne]; have := HPE.out; omega
            | have hE : ((k : Int) == (xs.length : Int) - 1) = false := by rw [beq_eq_false_iff_ne]; have := HPE.out; omega
          have HAT2 := hide hat
          clear hat
          go_wp2_with (at_builtin; refine wpList_append_reads rfl _ _ 52 rfl w.heap.size 28 i0 (.int .u32 0) 1 4 Try.underlying52 HI.out Hz0.out Hz1.out Hz2.out rfl (by decide) _ (insTo xs p ms k).length _ rfl HO.out _ 1 [.int .u32 (nth xs k)] rfl HFR.out C1.out C2.out HB.out.size ?_; intro a' c'' w' hown' hg)
          go_roundw
          case rel =>
            have hl : (insTo xs p ms (k + 1)).length = (insTo xs p ms k).length + 1 := by rw [HON.out (hp1 (by omega)) k hlt HAT2.out, List.length_append]; rfl
            refine ⟨k + 1, a', c'', by omega, by go_num, by rw [hl], ?_, HB.out.grown hg HB.out.size (owned_ge HO.out)⟩
            rw [hl, HON.out (hp1 (by omega)) k hlt HAT2.out, nums_append]
            exact hown'
          case measure => simp [intOf]; omega
      · obtain rfl : k = xs.length := by omega
        have hil := insAt_length xs p ms
        by_cases h0 : xs.length = 0
        · first
            | (exfalso; omega)
            | (have hE0 : insTo xs p ms xs.length = [] := by rw [insTo, if_neg (by omega), h0]; rfl
               have hE1 : insAt xs p ms = ms := by
                 have : xs = [] := List.eq_nil_of_length_eq_zero h0
                 subst this; simp [insAt]
               rw [hE0, List.length_nil] at hown
               rw [hE0, List.length_nil]
               have HO := hide hown
               have HB := hide hb
               have C1 := hide (show 0 + ms.length ≤ maxLen by unfold maxLen; omega)
               have C2 := hide (show (0 + ms.length) * 4 ≤ 140737488355328 by omega)
               have HH := hide hE1
               have hne : ((xs.length : Int) == 0) = true := by rw [beq_iff_eq]; omega
               have hxl := h0
               clear hown hb hE0 hE1 h0
               go_wp2_with (first
                 | (at_builtin; refine wpList_append_reads rfl _ _ 52 rfl w.heap.size 28 i0 (.int .u32 0) 1 4 Try.underlying52 HI.out Hz0.out Hz1.out Hz2.out rfl (by decide) _ 0 (nums []) rfl HO.out _ ms.length (nums ms) rfl (HM.out.below HB.out) C1.out C2.out HB.out.size ?_; intro a' c'' w' hown' hg; have HB' := HB.out.grown hg HB.out.size (owned_ge HO.out); clear hg)
                 | (go_at_call 36; refine (refNormal_u32 _ _ ms _ rfl (Reads.owned (n := ms.length) (by simpa [nums] using hown') (nums_one _) (by unfold maxLen; omega)) (by omega)).mono ?_; rintro e w2 ⟨⟨a2, c2, rfl, hown2⟩, hb2⟩))
               go_ret
               refine ⟨⟨a2, c2, ?_, ?_⟩, HB'.trans (hb2.mono HB'.size)⟩
               · rw [hxl, Nat.zero_add]; rfl
               · rw [hxl, Nat.zero_add, HH.out]
                 exact owned_mono hown2 HB'.size)
        · have hne : ((xs.length : Int) == 0) = false := by rw [beq_eq_false_iff_ne]; omega
          have hEE := HE.out (by omega)
          rw [hEE, hil] at hown
          rw [hEE, hil]
          have HO := hide (refNormal_u32 _ _ (insAt xs p ms) wr hil (Reads.owned hown (nums_one _) (by unfold maxLen; omega)) (by omega))
          go_wp2_with (go_at_call 36; refine HO.out.mono ?_; rintro e w2 ⟨⟨a2, c2, rfl, hown2⟩, hb2⟩)
          go_ret
          exact ⟨⟨a2, c2, rfl, owned_mono hown2 hb.size⟩, hb.trans (hb2.mono hb.size)⟩

/-- What is left of a row without those of another. -/
def outOf (ms : List Int) (xs : List Int) : List Int := xs.filter fun x => decide (idx ms x < 0)
theorem outOf_snoc (ms xs : List Int) (k : Nat) (h : k < xs.length) : outOf ms (xs.take (k + 1)) = outOf ms (xs.take k) ++ (if idx ms (nth xs k) < 0 then [nth xs k] else []) := by
  rw [take_snoc_nth h, outOf, List.filter_append]
  congr 1
  by_cases hc : idx ms (nth xs k) < 0 <;> simp [hc]
theorem outOf_len (ms xs : List Int) : (outOf ms xs).length ≤ xs.length := List.length_filter_le _ _

set_option maxHeartbeats 800000 in
set_option maxRecDepth 20000 in
theorem refWithout_u32 (v u : Value) (xs ms : List Int) (w : World) (hr : Reads w 1 v xs.length (nums xs)) (hm : Reads w 1 u ms.length (nums ms)) (hx : xs.length ≤ 1000000) :
    Calls Try.prog 44 #[v, u] w fun e w' => (∃ a c, e = .returned (.slice a (outOf ms xs).length c) ∧ w'.ownsRow w.heap.size 28 1 (.slice a (outOf ms xs).length c) (outOf ms xs).length (nums (rot (outOf ms xs)))) ∧ Below w.heap.size w w' := by
  obtain ⟨i0, hi, hz0, hz1, hz2⟩ := info_parts info28
  have HI := hide hi
  have Hz0 := hide hz0
  have Hz1 := hide hz1
  have Hz2 := hide hz2
  clear hi hz0 hz1 hz2
  obtain ⟨a0, c0, rfl⟩ := hr.shape
  obtain ⟨a1, c1, rfl⟩ := hm.shape
  have HR := hide hr
  have HM := hide hm
  clear hr hm
  have hol := outOf_len ms xs
  go_enter Try.func44, Try.ntmps44
  go_wp2_with fail
  go_loopw [10, 5, 7] (fun i v _ wr => ∃ (k : Nat) (a : Option Addr) (c : Nat), k ≤ xs.length ∧ i = .int .i64 k ∧ v = .slice a (outOf ms (xs.take k)).length c ∧ wr.ownsRow w.heap.size 28 1 (.slice a (outOf ms (xs.take k)).length c) (outOf ms (xs.take k)).length (nums (outOf ms (xs.take k))) ∧ Below w.heap.size w wr) (fun i _ _ _ => xs.length - (intOf i).toNat)
  case atStart => exact ⟨0, none, 0, by omega, rfl, rfl, World.ownsRow_nil _ _ _ _, Below.refl _ _⟩
  case round =>
    obtain ⟨k, a, c, hk, rfl, rfl, hown, hb⟩ := hrel
    by_cases hlt : k < xs.length
    · obtain ⟨b, o, c2, hv⟩ := HR.out.isRow (by omega)
      cases hv
      have hcell := (HR.out.below hb).cellNum k hlt
      have HS := hide (outOf_snoc ms xs k hlt)
      have HF := hide (find_u32 _ ms (nth xs k) wr (HM.out.below hb))
      have hlen := outOf_len ms (xs.take k)
      rw [List.length_take] at hlen
      by_cases hin : idx ms (nth xs k) < 0
      · have HO := hide (hown.alloc (.cells #[.int .u32 (nth xs k)] 28))
        have HB := hide (hb.alloc hb.size (.cells #[.int .u32 (nth xs k)] 28))
        have HFR := hide (reads_fresh wr [.int .u32 (nth xs k)] 28 1 1 rfl (by simp [Value.oneCell']) (by unfold maxLen; omega))
        have C1 := hide (show (outOf ms (xs.take k)).length + 1 ≤ maxLen by unfold maxLen; omega)
        have C2 := hide (show ((outOf ms (xs.take k)).length + 1) * 4 ≤ 140737488355328 by omega)
        clear hown hb
        go_wp2_with (first
          | (go_at_call 91; refine HF.out.mono ?_; rintro e w' ⟨rfl, rfl⟩)
          | (at_builtin; refine wpList_append_reads rfl _ _ 52 rfl w.heap.size 28 i0 (.int .u32 0) 1 4 Try.underlying52 HI.out Hz0.out Hz1.out Hz2.out rfl (by decide) _ (outOf ms (xs.take k)).length _ rfl HO.out _ 1 [.int .u32 (nth xs k)] rfl HFR.out C1.out C2.out HB.out.size ?_; intro a' c'' w' hown' hg))
        go_roundw
        case rel =>
          have hs := HS.out
          rw [if_pos hin] at hs
          have hl : (outOf ms (xs.take (k + 1))).length = (outOf ms (xs.take k)).length + 1 := by rw [hs, List.length_append]; rfl
          refine ⟨k + 1, a', c'', by omega, by go_num, by rw [hl], ?_, HB.out.grown hg HB.out.size (owned_ge HO.out)⟩
          rw [hl, hs, nums_append]
          exact hown'
        case measure => simp [intOf]; omega
      · have HO := hide hown
        have HB := hide hb
        clear hown hb
        go_wp2_with (go_at_call 91; refine HF.out.mono ?_; rintro e w' ⟨rfl, rfl⟩)
        go_roundw
        case rel =>
          have hs := HS.out
          rw [if_neg (by omega), List.append_nil] at hs
          refine ⟨k + 1, a, c, by omega, by go_num, by rw [hs], by rw [hs]; exact HO.out, HB.out⟩
        case measure => simp [intOf]; omega
    · obtain rfl : k = xs.length := by omega
      rw [List.take_length] at hown
      rw [List.take_length]
      have HO := hide (refNormal_u32 _ _ (outOf ms xs) wr rfl (Reads.owned hown (nums_one _) (by unfold maxLen; omega)) (by omega))
      go_wp2_with (go_at_call 36; refine HO.out.mono ?_; rintro e w2 ⟨⟨a2, c2, rfl, hown2⟩, hb2⟩)
      go_ret
      exact ⟨⟨a2, c2, rfl, owned_mono hown2 hb.size⟩, hb.trans (hb2.mono hb.size)⟩
end Go.Proofs.Ytkkfnpbbigcpbaa
