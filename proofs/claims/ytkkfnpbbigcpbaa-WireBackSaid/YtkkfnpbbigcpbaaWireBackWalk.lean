/- WireBack: what it returns of any texts, number and digest. -/
import Derived.Test.YtkkfnpbbigcpbaaWireEq
import Derived.Test.YtkkfnpbbigcpbaaOrder
namespace Go.Proofs.Ytkkfnpbbigcpbaa.wireBack
open Go.RowKit

theorem outEight' (s : List UInt8) (v : Value) (n : Int) (B : List UInt8) (hB : B = s ++ be 8 n.toNat) (w : World) (hr : Reads w 1 v 1 [.int .u64 n]) (hx : (Lit.int .u64 n).wf = true) (hs : s.length ≤ 1000) :
    Calls Try.prog 64 #[.agg #[.string ⟨s.toArray⟩], v] w fun e w' => e = .returned (.agg #[.string ⟨B.toArray⟩]) ∧ Below w.heap.size w w' := by
  subst hB
  have := outEight s v [n] w hr (fun m hm => by simp at hm; subst hm; exact hx) (by simp; omega)
  rw [show [n].flatMap (fun n => be 8 n.toNat) = be 8 n.toNat by simp] at this
  exact this
theorem outDigest' (s : List UInt8) (v : Value) (d : Dig) (B : List UInt8) (hB : B = s ++ d.bytes) (w : World) (hr : Reads w 32 v 1 (dcells [d])) (hs : s.length ≤ 100000) :
    Calls Try.prog 66 #[.agg #[.string ⟨s.toArray⟩], v] w fun e w' => e = .returned (.agg #[.string ⟨B.toArray⟩]) ∧ Below w.heap.size w w' := by
  subst hB
  have := outDigest s v [d] w hr (by simp; omega)
  rw [show [d].flatMap Dig.bytes = d.bytes by simp] at this
  exact this
theorem eight_named (b : Nat) (r r' : Rd) (n : Int) (w : World) (h : IsIn w b r) (hs : r.s.length ≤ 1000000000) (hn : ((r.number 8).1 : Int) = n) (hr : (r.number 8).2 = r') :
    Calls Try.prog 51 #[.pointer (some ⟨b, 0, none⟩)] w fun q w' => q = .returned (.int .u64 n) ∧ IsIn w' b r' ∧ w.grownBy w' (some b) := by
  subst hn hr; exact eight_any b r w h hs
theorem digest_named (b : Nat) (r r' : Rd) (d : Dig) (w : World) (h : IsIn w b r) (hs : r.s.length ≤ 1000000000) (hd : r.digest.1 = d) (hr : r.digest.2 = r') :
    Calls Try.prog 53 #[.pointer (some ⟨b, 0, none⟩)] w fun q w' => q = .returned (.agg (dgst d)) ∧ IsIn w' b r' ∧ w.grownBy w' (some b) := by
  subst hd hr; exact digest_any b r w h hs
theorem reads_dig (w : World) (d : Dig) (b : Nat) (hb : b = w.heap.size) : Reads (w.alloc (.cells (dgst d) 25)) 32 (.slice (some ⟨b, 0, none⟩) 1 1) 1 (dcells [d]) := by
  subst hb
  exact reads_dgst (rowCells_of (heap_alloc_new _ _))
theorem err_named (b : Nat) (r : Rd) (n : Int) (w : World) (h : IsIn w b r) (hn : r.err = n) : Calls Try.prog 57 #[.pointer (some ⟨b, 0, none⟩)] w fun q w' => q = .returned (.int .i64 n) ∧ w = w' := hn ▸ err_any b r w h
theorem reads_one {w : World} {b : Nat} {x : Value} (h : w.cell? ⟨b, 0, none⟩ = some x) (hx : x.oneCell' = true) : Reads w 1 (.slice (some ⟨b, 0, none⟩) 1 1) 1 [x] := by
  refine ⟨rfl, fun u hu => by simp at hu; subst hu; exact hx, by unfold maxLen; omega, .inr ⟨b, 0, 1, rfl, Nat.le_refl _, by unfold maxLen; omega, fun j u hj => ?_⟩⟩
  have : j = 0 := by have := (List.getElem?_eq_some_iff.1 hj).1; simpa using this
  subst this
  simp at hj
  subst hj
  exact h
set_option maxRecDepth 100000 in
set_option maxHeartbeats 8000000 in
theorem walk (v0 : Value) (ls : List ByteArray) (n : Int) (d : Dig) (most : Int) (w : World) (h0 : Reads w 1 v0 ls.length (strs ls)) (hls : ∀ x ∈ ls, x.size ≤ maxLen) (hn : (Lit.int .u64 n).wf = true) (hm : (Lit.int .u8 most).wf = true) :
    Calls Try.prog 15 #[v0, .int .u64 n, .agg (dgst d), .int .u8 most] w fun e w' => e = .returned (.bool true) ∧ Below w.heap.size w w' := by
  have hm8 : 0 ≤ most ∧ most ≤ 255 := by simpa [Lit.wf, IntKind.min, IntKind.max, IntKind.signed, IntKind.bits] using hm
  obtain ⟨hm0, hm1⟩ := hm8
  obtain ⟨a0, c0, rfl⟩ := h0.shape
  have m1 := h0.2.2.1
  unfold maxLen at m1
  have hn0 := wf_nonneg8 hn
  have R := hide h0
  have HLS := hide hls
  have HNW := hide hn
  have HNB := hide (show (n.toNat % 256 ^ 8 : Nat) = n.toNat by
    have : 0 ≤ n ∧ n ≤ 18446744073709551615 := by simpa [Lit.wf, IntKind.min, IntKind.max, IntKind.signed, IntKind.bits] using hn
    apply Nat.mod_eq_of_lt
    omega)
  clear h0 hls hn hm
  by_cases h100 : 100 < ls.length
  · have hd : (100 : Int) < (ls.length : Int) := by omega
    go_enter Try.func15, Try.ntmps15
    go_wp2_with fail
    refine (awake03_any _).mono ?_
    rintro e1 w1 ⟨rfl, hb1⟩
    have HB1 := hide (((Below.refl _ w).alloc (Nat.le_refl _) _).trans (hb1.mono (by simp)))
    clear hb1
    go_wp2_with fail
    go_ret
    exact ⟨rfl, HB1.out⟩
  have hd : ¬ (100 : Int) < (ls.length : Int) := by omega
  go_enter Try.func15, Try.ntmps15
  go_wp2_with fail
  refine (awake03_any _).mono ?_
  rintro e1 w1 ⟨rfl, hb1⟩
  have HB1 := hide (((Below.refl _ w).alloc (Nat.le_refl _) _).trans (hb1.mono (by simp)))
  have HD1 := hide ((hb1.block w.heap.size (by simp)).trans (heap_alloc_new _ _))
  clear hb1
  go_wp2_with fail
  go_loop [23, 10] (fun i _ => ∃ k : Nat, k ≤ ls.length ∧ i = .int .i64 k ∧ (∀ x ∈ ls.take k, x.size ≤ 300)) (fun i _ => ls.length - (intOf i).toNat)
  case atStart => exact ⟨0, by omega, rfl, by simp⟩
  case round =>
    obtain ⟨k, hk, rfl, hsz⟩ := hrel
    have HSZ := hide hsz
    clear hsz
    by_cases hlt : k < ls.length
    · obtain ⟨b, o, c2, hv⟩ := R.out.isRow (by omega)
      cases hv
      obtain ⟨x, hxk⟩ : ∃ x, Hid (ls[k] = x) := ⟨_, hide rfl⟩
      have hcell := (R.out.below HB1.out).cellAt k _ (strs_get ls k hlt)
      rw [hxk.out] at hcell
      have hxm : x.size ≤ maxLen := hxk.out ▸ HLS.out _ (List.getElem_mem hlt)
      unfold maxLen at hxm
      by_cases hx1 : 300 < x.size
      · have hx2 : (300 : Int) < (x.size : Int) := by omega
        go_wp2_with fail
        go_ret
        exact ⟨rfl, HB1.out⟩
      have hx2 : ¬ (300 : Int) < (x.size : Int) := by omega
      go_wp2_with fail
      go_round
      case rel =>
        refine ⟨k + 1, by omega, by go_num, ?_⟩
        intro y hy
        rw [List.take_succ_eq_append_getElem hlt, List.mem_append, List.mem_singleton, hxk.out] at hy
        rcases hy with hy | rfl
        · exact HSZ.out y hy
        · omega
      case measure => simp [intOf]; omega
    · obtain rfl : k = ls.length := by omega
      have HLX := hide (show ∀ x ∈ ls, x.size ≤ 300 from fun x hx => HSZ.out x (by rw [List.take_length]; exact hx))
      clear hk hlt HSZ
      obtain ⟨E8, hE8⟩ : ∃ E8, Hid (E8 = be 8 n.toNat) := ⟨_, hide rfl⟩
      obtain ⟨RW, hRW⟩ : ∃ RW, Hid (RW = be 4 ls.length ++ ls.flatMap lenText) := ⟨_, hide rfl⟩
      obtain ⟨S1, hS1⟩ : ∃ S1, Hid (S1 = E8 ++ RW) := ⟨_, hide rfl⟩
      obtain ⟨S, hS⟩ : ∃ S, Hid (S = S1 ++ d.bytes) := ⟨_, hide rfl⟩
      have LE8 := hide (show E8.length = 8 by rw [hE8.out, be_length])
      have LRW := hide (show RW.length ≤ 30404 by rw [hRW.out, List.length_append, be_length]; have := flat_len lenText 304 ls (lenText_le ls 300 HLX.out); omega)
      have LS1 := hide (show S1.length ≤ 30412 by rw [hS1.out, List.length_append]; have := LE8.out; have := LRW.out; omega)
      have LS := hide (show S.length = S1.length + 32 by rw [hS.out, List.length_append, d.len])
      go_wp2_with fail
      go_upto_region 14 with fail
      go_cut [13] (fun s wx => s = .string ⟨S.toArray⟩ ∧ Below w1.heap.size w1 wx)
      case first =>
        have hrow := rowCells_of HD1.out
        have hq0 := lt_of_heap HD1.out
        go_region_law (first
          | (go_simp; go_at_call 64; refine (outEight' [] _ n E8 (by rw [hE8.out]; rfl) _ (reads_one (by simp [go_sem]) rfl) HNW.out (by simp)).mono ?_; rintro q1 x1 ⟨rfl, hx1⟩; have hz1 := hx1.size; (try simp at hz1); have hq1 : w.heap.size < x1.heap.size := (by omega); obtain ⟨hc1, hf1⟩ := bcell hx1; have hr1 := fun b (h : b < _) => rowCells_below hx1 h)
          | (go_simp; go_at_call 69; refine (row_any _ call2 lay2 E8 _ ls S1 (by rw [hS1.out, hRW.out, List.append_assoc]) _ (R.out.below (by repeat (first | exact HB1.out | refine Below.drew ?_ | refine Below.alloc ?_ (by first | omega | (simp; done) | (simp; omega)) _ | refine Below.trans ?_ (hx4.mono (by first | omega | (simp; done) | (simp; omega))) | refine Below.trans ?_ (hx3.mono (by first | omega | (simp; done) | (simp; omega))) | refine Below.trans ?_ (hx2.mono (by first | omega | (simp; done) | (simp; omega))) | refine Below.trans ?_ (hx1.mono (by first | omega | (simp; done) | (simp; omega)))))) (by omega) (fun y hy => by have := HLX.out y hy; omega) (by have := LE8.out; omega)).mono ?_; rintro q2 x2 ⟨rfl, hx2⟩; have hz2 := hx2.size; (try simp at hz2); have hq2 : w.heap.size < x2.heap.size := (by omega); obtain ⟨hc2, hf2⟩ := bcell hx2; have hr2 := fun b (h : b < _) => rowCells_below hx2 h)
          | (go_simp; go_at_call 66; refine (outDigest' S1 _ d S hS.out _ (reads_dgst (by first | (simp [go_sem]; done) | (rw [hr2 _ (by first | omega | (simp; done) | (simp; omega))]; first | (simp [go_sem]; done) | (rw [hr1 _ (by first | omega | (simp; done) | (simp; omega))]; simp [go_sem])))) (by have := LS1.out; omega)).mono ?_; rintro q3 x3 ⟨rfl, hx3⟩; have hz3 := hx3.size; (try simp at hz3); have hq3 : w.heap.size < x3.heap.size := (by omega))
          | (go_simp; go_at_call 68; refine (outString' S _).mono ?_; rintro q4 x4 ⟨rfl, hx4⟩; have hz4 := hx4.size))
        all_goals
          go_wp2_with fail
          go_meet
          refine ⟨rfl, ?_⟩
          repeat (first | exact Below.refl _ _ | refine Below.drew ?_ | refine Below.alloc ?_ (by first | omega | (simp; done) | (simp; omega)) _ | refine Below.trans ?_ (hx4.mono (by first | omega | (simp; done) | (simp; omega))) | refine Below.trans ?_ (hx3.mono (by first | omega | (simp; done) | (simp; omega))) | refine Below.trans ?_ (hx2.mono (by first | omega | (simp; done) | (simp; omega))) | refine Below.trans ?_ (hx1.mono (by first | omega | (simp; done) | (simp; omega))))
      case rest =>
        obtain ⟨rfl, hbx⟩ := hcut
        have HBc := hide (HB1.out.trans (hbx.mono HB1.out.size))
        have HDc := hide ((hbx.block _ (lt_of_heap HD1.out)).trans HD1.out)
        clear hbx HB1 HD1
        obtain ⟨T1, hT1⟩ : ∃ T1, Hid (T1 = be 4 ls.length ++ (ls.flatMap lenText ++ d.bytes)) := ⟨_, hide rfl⟩
        have N8 := hide (show (Rd.mk 0 S).number 8 = (n.toNat, ⟨0, T1⟩) by
          have : S = be 8 n.toNat ++ T1 := by rw [hS.out, hS1.out, hE8.out, hRW.out, hT1.out]; simp
          rw [this, Rd.number_app, HNB.out])
        have LT1 := hide (show T1.length ≤ 40000 by rw [hT1.out, List.length_append, List.length_append, be_length, d.len]; have := flat_len lenText 304 ls (lenText_le ls 300 HLX.out); omega)
        have DG := hide (show (Rd.mk 0 d.bytes).digest = (d, ⟨0, []⟩) by
          have := Rd.digest_app d []
          rwa [List.append_nil] at this)
        go_wp2_with fail
        refine (wireOf_any S _).mono ?_
        rintro q5 w5 ⟨rfl, hi5, hb5⟩
        have HI5 := hide hi5
        have HB5 := hide (HBc.out.trans (hb5.mono HBc.out.size))
        have HD5 := hide ((hb5.block _ (lt_of_heap HDc.out)).trans HDc.out)
        have hbi := HBc.out.size
        have hlb := lt_of_heap HDc.out
        clear hi5 hb5
        have heqd : ∀ w', (Go.Op.equalIn 10000 25 (.agg (dgst d)) (.agg (dgst d))).run Try.prog w' = .ok true w' := fun w' => by rw [run_equalIn_dgst]; simp
        have hnn : (n == n) = true := by simp
        go_upto_if 66 with fail
        go_cut [66] (fun v wx => v = .bool false ∧ Below w.heap.size w wx)
        case first =>
         go_region_law (first
          | (go_simp; go_at_call 51; refine (eight_named wc.heap.size ⟨0, S⟩ ⟨0, T1⟩ n _ HI5.out.drew (by have h1 := LS.out; have h2 := LS1.out; show S.length ≤ _; omega) (by rw [N8.out]; show ((n.toNat : Nat) : Int) = n; omega) (by rw [N8.out])).mono ?_; rintro q1 x1 ⟨rfl, hi1, hg1⟩; have HI1 := hide (show IsIn x1 wc.heap.size ⟨0, be 4 ls.length ++ (ls.flatMap lenText ++ d.bytes)⟩ from hT1.out ▸ hi1); have HX1 := hide (HB5.out.drew.grown hg1 HB5.out.size (fun k hk => by cases hk; exact hbi)); have HD1 := hide (grown_at hg1 HD5.out (by omega)); clear hi1 hg1)
          | (go_simp; go_at_call 80; refine (rows_any _ call3 take1 wc.heap.size ls d.bytes 100 _ HI1.out (by rw [d.len]; omega) (by omega) HLX.out (by omega) (by omega) (by omega)).mono ?_; rintro q2 x2 ⟨⟨ar, cr, rfl, hown2⟩, hi2, hg2⟩; have HI2 := hide hi2; have HO2 := hide hown2; have HX2 := hide (HX1.out.grown hg2 HX1.out.size (fun k hk => by cases hk; exact hbi)); have HD2 := hide (grown_at hg2 HD1.out (by omega)); clear hi2 hg2 hown2)
          | (go_simp; go_at_call 79; refine (equal_strs _ _ ls _ (Reads.owned HO2.out (strs_one _) (by unfold maxLen; omega)) (R.out.below HX2.out) (by omega)).mono ?_; rintro q3 x3 ⟨rfl, hb3⟩; have HI3 := hide (HI2.out.below hb3); have HX3 := hide (HX2.out.trans (hb3.mono HX2.out.size)); have HD3 := hide ((hb3.block _ (lt_of_heap HD2.out)).trans HD2.out); have hrow3 := rowCells_of HD3.out; clear hb3)
          | (go_simp; go_at_call 53; refine (digest_named wc.heap.size ⟨0, d.bytes⟩ ⟨0, []⟩ d _ HI3.out (by show d.bytes.length ≤ _; rw [d.len]; omega) (by rw [DG.out]) (by rw [DG.out])).mono ?_; rintro q4 x4 ⟨rfl, hi4, hg4⟩; have HI4 := hide hi4; have HX4 := hide (HX3.out.grown hg4 HX3.out.size (fun k hk => by cases hk; exact hbi)); have HD4 := hide (grown_at hg4 HD3.out (by omega)); have hrow4 := rowCells_of HD4.out; clear hi4 hg4)
          | (go_simp; go_at_call 58; refine (end_named wc.heap.size ⟨0, []⟩ 0 _ HI4.out (by decide)).mono ?_; rintro q6 x6 ⟨rfl, rfl⟩))
         all_goals
          go_wp2_with fail
          go_meet
          exact ⟨rfl, HX4.out⟩
        case rest =>
          obtain ⟨rfl, hby⟩ := hcut
          clear HB5 HD5 HI5 HBc HDc hbi hlb
          have HY := hide hby
          clear hby
          go_wp2_with fail
          refine (wireOf_any S _).mono ?_
          rintro q5 w5 ⟨rfl, hi5, hb5⟩
          have hbi := HY.out.size
          have HI5 := hide hi5
          have HB5 := hide (HY.out.trans (hb5.mono HY.out.size))
          clear hi5 hb5 HY
          go_wp2_with fail
          refine (eight_named _ ⟨0, S⟩ ⟨0, T1⟩ n _ HI5.out (by have h1 := LS.out; have h2 := LS1.out; show S.length ≤ _; omega) (by rw [N8.out]; show ((n.toNat : Nat) : Int) = n; omega) (by rw [N8.out])).mono ?_
          rintro q6 w6 ⟨rfl, hi6, hg6⟩
          rw [hT1.out] at hi6
          have HI6 := hide hi6
          have HB6 := hide (HB5.out.grown hg6 HB5.out.size (fun k hk => by cases hk; exact hbi))
          clear hi6 hg6 HI5 HB5
          by_cases hml : most < (ls.length : Int)
          · go_wp2_with fail
            refine (rows_many _ _ ls.length (ls.flatMap lenText ++ d.bytes) most _ HI6.out (by have h1 := LT1.out; rw [hT1.out, List.length_append] at h1; omega) (by omega) hm0 hml).mono ?_
            rintro q7 w7 ⟨rfl, hi7, hg7⟩
            have HI7 := hide hi7
            have HB7 := hide (HB6.out.grown hg7 HB6.out.size (fun k hk => by cases hk; exact hbi))
            clear hi7 hg7 HI6 HB6
            go_wp2_with fail
            refine (err_named _ _ 6 _ HI7.out rfl).mono ?_
            rintro q8 w8 ⟨rfl, rfl⟩
            go_wp2_with fail
            go_ret
            exact ⟨rfl, HB7.out⟩
          · go_wp2_with fail
            refine (rows_any _ call3 take1 _ ls d.bytes most _ HI6.out (by rw [d.len]; omega) (by omega) HLX.out hm0 (by omega) (by omega)).mono ?_
            rintro q7 w7 ⟨⟨ar, cr, rfl, hown7⟩, hi7, hg7⟩
            have HB7 := hide (HB6.out.grown hg7 HB6.out.size (fun k hk => by cases hk; exact hbi))
            have RG7 := hide (Reads.owned hown7 (strs_one _) (by unfold maxLen; omega))
            clear hi7 hg7 HI6 HB6 hown7
            have hSl := LS.out
            have hS1l : S1.length ≤ 30412 := LS1.out
            have hsl : (⟨S.toArray⟩ : ByteArray).extract 0 S1.length = ⟨S1.toArray⟩ := by
              rw [slice_front, hS.out, List.take_left]
            obtain ⟨T2, hT2⟩ : ∃ T2, Hid (T2 = be 4 ls.length ++ (ls.flatMap lenText ++ [])) := ⟨_, hide rfl⟩
            have N8b := hide (show (Rd.mk 0 S1).number 8 = (n.toNat, ⟨0, T2⟩) by
              have : S1 = be 8 n.toNat ++ T2 := by rw [hS1.out, hE8.out, hRW.out, hT2.out]; simp
              rw [this, Rd.number_app, HNB.out])
            go_wp2_with fail
            refine (wireOf_any S1 _).mono ?_
            rintro q8 w8 ⟨rfl, hi8, hb8⟩
            have HI8 := hide hi8
            have HB8 := hide (HB7.out.trans (hb8.mono HB7.out.size))
            have HV8 := hide hb8
            have hbj := HB7.out.size
            clear hi8 hb8 HB7 hSl hsl
            go_wp2_with fail
            refine (eight_named _ ⟨0, S1⟩ ⟨0, T2⟩ n _ HI8.out (by show S1.length ≤ _; omega) (by rw [N8b.out]; show ((n.toNat : Nat) : Int) = n; omega) (by rw [N8b.out])).mono ?_
            rintro q9 w9 ⟨rfl, hi9, hg9⟩
            rw [hT2.out] at hi9
            have HI9 := hide hi9
            have HB9 := hide (HB8.out.grown hg9 HB8.out.size (fun k hk => by cases hk; exact hbj))
            have HV9 := hide (HV8.out.grown hg9 HV8.out.size (fun k hk => by cases hk; exact Nat.le_refl _))
            clear hi9 hg9 HI8 HB8 HV8
            go_wp2_with fail
            refine (equal_strs _ _ ls _ (RG7.out.below HV9.out) (R.out.below HB9.out) (by omega)).mono ?_
            rintro q10 w10 ⟨rfl, hb10⟩
            have HI10 := hide (HI9.out.below hb10)
            have HB10 := hide (HB9.out.trans (hb10.mono HB9.out.size))
            clear hb10 HI9 HB9 HV9
            go_wp2_with fail
            refine (rows_any _ call3 take1 _ ls [] 100 _ HI10.out (by simp) (by omega) HLX.out (by omega) (by omega) (by omega)).mono ?_
            rintro q11 w11 ⟨⟨a11, c11, rfl, hown11⟩, hi11, hg11⟩
            have HI11 := hide hi11
            have HB11 := hide (HB10.out.grown hg11 HB10.out.size (fun k hk => by cases hk; exact hbj))
            have RG11 := hide (Reads.owned hown11 (strs_one _) (by unfold maxLen; omega))
            clear hi11 hg11 HI10 HB10 hown11
            go_wp2_with fail
            refine (equal_strs _ _ ls _ RG11.out (R.out.below HB11.out) (by omega)).mono ?_
            rintro q12 w12 ⟨rfl, hb12⟩
            have HI12 := hide (HI11.out.below hb12)
            have HB12 := hide (HB11.out.trans (hb12.mono HB11.out.size))
            clear hb12 HI11 HB11
            go_wp2_with fail
            refine (end_named _ ⟨0, []⟩ 0 _ HI12.out (by decide)).mono ?_
            rintro q13 w13 ⟨rfl, rfl⟩
            go_wp2_with fail
            go_ret
            exact ⟨rfl, HB12.out⟩
end Go.Proofs.Ytkkfnpbbigcpbaa.wireBack
