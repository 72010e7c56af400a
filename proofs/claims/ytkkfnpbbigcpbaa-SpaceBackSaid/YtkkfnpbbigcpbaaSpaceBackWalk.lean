/- SpaceBack: what it returns. -/
import Derived.Test.YtkkfnpbbigcpbaaSpBack
import Derived.Test.YtkkfnpbbigcpbaaSpAwake
namespace Go.Proofs.Ytkkfnpbbigcpbaa.spaceBack
open Go.RowKit Go.Shelf
set_option maxRecDepth 100000 in
set_option maxHeartbeats 8000000 in
theorem walk (n : Int) (v1 : Value) (L : List Int) (k : Int) (w : World) (hn : (Lit.int .u8 n).wf = true) (hr : Reads w 1 v1 L.length (L.map (Value.int .u8))) (hL : ∀ x ∈ L, (Lit.int .u8 x).wf = true) (hk : (Lit.int .u8 k).wf = true) :
    Calls Try.prog 7 #[.int .u8 n, v1, .int .u8 k] w fun e w' => e = .returned (.bool true) ∧ Below w.heap.size w w' := by
  have hn2 : 0 ≤ n ∧ n ≤ 255 := by simpa [Lit.wf, IntKind.min, IntKind.max, IntKind.signed, IntKind.bits] using hn
  have hk2 : 0 ≤ k ∧ k ≤ 255 := by simpa [Lit.wf, IntKind.min, IntKind.max, IntKind.signed, IntKind.bits] using hk
  obtain ⟨hn0, hn1⟩ := hn2
  obtain ⟨hk0, hk1⟩ := hk2
  obtain ⟨a1, c1, rfl⟩ := hr.shape
  have HR := hide hr
  have HL := hide (show ∀ x ∈ L, 0 ≤ x ∧ x ≤ 255 from fun x hx => by simpa [Lit.wf, IntKind.min, IntKind.max, IntKind.signed, IntKind.bits] using hL x hx)
  clear hr hL hn hk
  obtain ⟨i0, hi, hz0, hz1, hz2⟩ := info_parts info_run
  have HI := hide hi
  have Hz0 := hide hz0
  have Hz1 := hide hz1
  have Hz2 := hide hz2
  clear hi hz0 hz1 hz2
  have hmix : Try.prog.follows .mixedOrders = true := by kernel_rfl
  by_cases hlen : L.length ≤ 20
  · have hlen2 : ¬ (20 : Int) < (L.length : Int) := by omega
    obtain ⟨N, hN⟩ : ∃ N : Nat, n % 200 = (N : Int) := ⟨(n % 200).toNat, by omega⟩
    have hN2 : N ≤ 199 := by omega
    have HN := hide hN
    clear hN
    go_enter Try.func7, Try.ntmps7
    go_wp2_with (go_at_call 25; refine (awake05_any _).mono ?_; rintro e1 w1 ⟨rfl, hb1⟩; have HB1 := hide hb1; clear hb1)
    rw [HN.out]
    refine (new_any 10 (10 + (N : Int)) _ (by decide) (by simp [Lit.wf, IntKind.min, IntKind.max, IntKind.signed, IntKind.bits]; omega)).mono ?_
    rintro e3 w3 ⟨b, rfl, hz, hs3, hb3⟩
    rw [show sectors 10 (10 + (N : Int)) = N by unfold sectors; split <;> (try split) <;> omega] at hs3
    have HS3 := hide hs3
    have HB3 := hide (HB1.out.trans (hb3.mono HB1.out.size))
    have hbw : w.heap.size ≤ b := Nat.le_trans HB1.out.size hz
    clear hz hs3 hb3
    go_wp2_with fail
    refine (copy_any b 10 _ w3 HS3.out).mono ?_
    rintro e4 w4 ⟨B, rfl, hz4, hs4, hb4⟩
    have HC4 := hide hs4
    have HS4 := hide (HS3.out.below hb4)
    have hBb : B ≠ b := by have := HS3.out.lt; omega
    have HB4 := hide (HB3.out.trans (hb4.mono HB3.out.size))
    clear hz4 hs4 hb4
    go_wp2_with fail
    refine (free_any b 10 _ w4 HS4.out (by omega) (by rw [List.length_replicate]; omega)).mono ?_
    rw [List.count_replicate_self]
    rintro e5 w5 ⟨rfl, hb5⟩
    have HC5 := hide (HC4.out.below hb5)
    have HS5 := hide (HS4.out.below hb5)
    have HB5 := hide (HB4.out.trans (hb5.mono HB4.out.size))
    clear hb5
    go_wp2_with fail
    go_loopw [37, 10] (fun i v wr => ∃ (m : Nat) (fs : List Bool) (rs : List (Nat × Nat)), m ≤ L.length ∧ i = .int .i64 m ∧ IsSp wr b 10 fs ∧ IsSp wr B 10 (List.replicate N true) ∧ Hid (Taken N fs rs) ∧ rs.length ≤ m ∧ wr.ownsRow w.heap.size 36 2 v rs.length (rcells (told 10 rs)) ∧ Below w.heap.size w wr) (fun i _ _ => L.length - (intOf i).toNat)
    case atStart => exact ⟨0, _, [], by omega, rfl, HS5.out, HC5.out, hide (Taken.start N), by simp, World.ownsRow_nil _ _ _ _, HB5.out⟩
    case round =>
      obtain ⟨m, fs, rs, hm, rfl, hsp, hcp, HT, hrm, hown, hb⟩ := hrel
      have HSP := hide hsp
      have HCP := hide hcp
      have HB := hide hb
      have HO := hide hown
      obtain ⟨al, cl, rfl⟩ := owned_form hown
      clear hsp hcp hb hown
      by_cases hlt : m < L.length
      · obtain ⟨bb, o, c0, hv⟩ := HR.out.isRow (by omega)
        cases hv
        obtain ⟨x, hx⟩ : ∃ x, Hid (L[m] = x) := ⟨_, hide rfl⟩
        have hxb := HL.out L[m] (List.getElem_mem hlt)
        rw [hx.out] at hxb
        obtain ⟨hx0, hx1⟩ := hxb
        have hcell := (HR.out.below HB.out).cellAt m (.int .u8 x) (by rw [List.getElem?_map, List.getElem?_eq_getElem hlt, hx.out]; rfl)
        obtain ⟨K, hK⟩ : ∃ K : Nat, x % 20 = (K : Int) := ⟨(x % 20).toNat, by omega⟩
        have hK2 : K ≤ 19 := by omega
        have HK := hide hK
        clear hK
        go_wp2_with fail
        rw [HK.out]
        refine (take_of b N fs rs K wr HSP.out HT.out (by omega)).mono ?_
        intro e6 w6 h6
        rcases h6 with ⟨y, hy, rfl, hs6, hg6⟩ | ⟨p, hK1, hpN, rfl, hs6, hg6, ht6, ha6⟩
        · have HS6 := hide hs6
          have HG6 := hide hg6
          clear hs6 hg6 hcell
          go_wp2_with fail
          go_roundw
          case rel => exact ⟨m + 1, fs, rs, by omega, by go_num, HS6.out, HCP.out.other HSP.out HG6.out hBb, HT.out, by omega, HO.out.kept HG6.out (runs_apart HSP.out HO.out), HB.out.grown HG6.out HB.out.size (fun k hk => by cases hk; exact hbw)⟩
          case measure => simp [intOf]; omega
        · have HS6 := hide hs6
          have HC6 := hide (HCP.out.other HSP.out hg6 hBb)
          have HO6 := hide (HO.out.kept hg6 (runs_apart HSP.out HO.out))
          have HB6 := hide (HB.out.grown hg6 HB.out.size (fun k hk => by cases hk; exact hbw))
          have HT6 := hide ht6
          have HA6 := hide ha6
          clear hs6 hg6 ht6 ha6 hcell HSP HCP HO HB
          go_wp2_with fail
          go_loopw [53] (fun i wi => ∃ j : Nat, j ≤ rs.length ∧ i = .int .i64 j ∧ Below w6.heap.size w6 wi) (fun i _ => rs.length - (intOf i).toNat)
          case atStart => exact ⟨0, by omega, rfl, Below.refl _ _⟩
          case round =>
            obtain ⟨j, hj, rfl, hbi⟩ := hrel
            have HBI := hide hbi
            clear hbi
            have HOI := hide (owned_below HO6.out HBI.out)
            by_cases hlj : j < rs.length
            · have HRI := hide (Reads.owned HOI.out (rcells_one _) (by unfold maxLen; omega))
              obtain ⟨bq, oq, cq, hq⟩ := HRI.out.isRow (by omega)
              cases hq
              rw [← told_length 10 rs] at HRI
              have hcc := Reads.cells2 HRI.out j (by rw [told_length]; exact hlj)
              rw [told_get 10 rs j hlj] at hcc
              obtain ⟨d0, d1⟩ := hcc
              rw [told_length] at HRI
              obtain ⟨q, hq⟩ : ∃ q, Hid (rs[j] = q) := ⟨_, hide rfl⟩
              rw [hq.out] at d0 d1
              have d0 : wr.cell? ⟨bq, oq + j * 2, none⟩ = some (.int .i64 (10 + (q.1 : Int))) := d0
              have d1 : wr.cell? ⟨bq, oq + j * 2 + 1, none⟩ = some (.int .i64 (q.2 : Int)) := d1
              have hap := HA6.out rs[j] (List.getElem_mem hlj)
              have hqb := HT6.out.2.1 rs[j] (List.mem_append.2 (.inl (List.getElem_mem hlj)))
              rw [hq.out] at hap hqb
              obtain ⟨hqb1, hqb2⟩ := hqb
              have hK := HK.out
              by_cases h1 : p < q.1 + q.2
              · have h2 : ¬ (10 : Int) + (q.1 : Int) < 10 + (p : Int) + (K : Int) := by omega
                have h3 : (10 : Int) + (p : Int) < 10 + (q.1 : Int) + (q.2 : Int) := by omega
                clear hap h1
                go_wp2_with fail
                go_roundw
                case rel => exact ⟨j + 1, by omega, by go_num, HBI.out.alloc HBI.out.size _⟩
                case measure => simp [intOf]; omega
              · have h3 : ¬ (10 : Int) + (p : Int) < 10 + (q.1 : Int) + (q.2 : Int) := by omega
                clear hap h1
                go_wp2_with fail
                go_roundw
                case rel => exact ⟨j + 1, by omega, by go_num, HBI.out.alloc HBI.out.size _⟩
                case measure => simp [intOf]; omega
            · have hK := HK.out
              have HF := hide (reads_fresh wr [.int .i64 (10 + (p : Int)), .int .i64 (K : Int)] 36 2 1 rfl (fun u hu => by simp at hu; rcases hu with rfl | rfl <;> rfl) (by unfold maxLen; omega))
              have C1 := hide (show rs.length + 1 ≤ maxLen by unfold maxLen; omega)
              have C2 := hide (show (rs.length + 1) * 16 ≤ 140737488355328 by omega)
              go_wp2_with (at_builtin; refine wpList_append_reads rfl _ _ 32 rfl w.heap.size 36 i0 (.agg #[.int .i64 0, .int .i64 0]) 2 16 Try.underlying32 HI.out Hz0.out Hz1.out Hz2.out rfl (by decide) _ rs.length (rcells (told 10 rs)) rfl (HOI.out.alloc _) _ 1 [.int .i64 (10 + (p : Int)), .int .i64 (K : Int)] rfl HF.out C1.out C2.out (by have := HB6.out.size; have := HBI.out.size; simp; omega) ?_; intro a9 c9 w9 hown9 hg9)
              have HBW := HB6.out.trans (HBI.out.mono HB6.out.size)
              have hge := owned_ge HO6.out
              go_roundw
              case rel =>
                refine ⟨m + 1, _, rs ++ [(p, K)], by omega, by go_num, ?_, ?_, HT6, by rw [List.length_append]; simp; omega, by rw [List.length_append, told_snoc, rcells_snoc]; exact hown9, (HBW.alloc HBW.size _).grown hg9 (by have := HBW.size; simp; omega) (fun k hk => hge k hk)⟩
                · exact ((HS6.out.below HBI.out).below ((Below.refl _ _).alloc (Nat.le_refl _) _)).row (HOI.out.alloc _) hg9
                · exact ((HC6.out.below HBI.out).below ((Below.refl _ _).alloc (Nat.le_refl _) _)).row (HOI.out.alloc _) hg9
              case measure => simp [intOf]; omega
      · have hrs20 : rs.length ≤ 20 := by omega
        go_wp2_with fail
        obtain ⟨wp, rfl⟩ : ∃ wp : World, wp = wr := ⟨_, rfl⟩
        have hsum := HT.out.2.2.2.2
        go_loopw [86, 17] (fun i s wi => ∃ j : Nat, j ≤ rs.length ∧ i = .int .i64 j ∧ s = .int .i64 ((((rs.take j).map (·.2)).sum : Nat) : Int) ∧ Below wp.heap.size wp wi) (fun i _ _ => rs.length - (intOf i).toNat)
        case atStart => exact ⟨0, by omega, rfl, rfl, Below.refl _ _⟩
        case round =>
          obtain ⟨j, hj, rfl, rfl, hbi⟩ := hrel
          have HBI := hide hbi
          clear hbi
          have HOI := hide (owned_below HO.out HBI.out)
          have hle := sum_take_le rs j
          by_cases hlj : j < rs.length
          · have HRI := hide (Reads.owned HOI.out (rcells_one _) (by unfold maxLen; omega))
            obtain ⟨bq, oq, cq, hq⟩ := HRI.out.isRow (by omega)
            cases hq
            rw [← told_length 10 rs] at HRI
            have hcc := Reads.cells2 HRI.out j (by rw [told_length]; exact hlj)
            rw [told_get 10 rs j hlj] at hcc
            obtain ⟨d0, d1⟩ := hcc
            rw [told_length] at HRI
            have HSS := hide (sum_take_succ rs j hlj)
            have hle2 := sum_take_le rs (j + 1)
            rw [HSS.out] at hle2
            obtain ⟨q, hq⟩ : ∃ q, Hid (rs[j] = q) := ⟨_, hide rfl⟩
            rw [hq.out] at d0 d1 HSS hle2
            have d0 : wr.cell? ⟨bq, oq + j * 2, none⟩ = some (.int .i64 (10 + (q.1 : Int))) := d0
            have d1 : wr.cell? ⟨bq, oq + j * 2 + 1, none⟩ = some (.int .i64 (q.2 : Int)) := d1
            obtain ⟨s, hs⟩ : ∃ s, Hid (((rs.take j).map (·.2)).sum = s) := ⟨_, hide rfl⟩
            rw [hs.out] at HSS hle hle2 ⊢
            have hsb : (s : Int) + (q.2 : Int) ≤ 199 := by omega
            go_wp2_with fail
            go_roundw
            case rel => exact ⟨j + 1, by omega, by go_num, by rw [HSS.out]; go_num, HBI.out.alloc HBI.out.size _⟩
            case measure => simp [intOf]; omega
          · obtain rfl : j = rs.length := by omega
            rw [List.take_length] at hle ⊢
            obtain ⟨T, hT⟩ : ∃ T, Hid ((rs.map (·.2)).sum = T) := ⟨_, hide rfl⟩
            rw [hT.out] at hsum ⊢
            clear hle
            have HSI := hide (HSP.out.below HBI.out)
            have HCI := hide (HCP.out.below HBI.out)
            have HBW := hide (HB.out.trans (HBI.out.mono HB.out.size))
            have hfl := HT.out.1
            have hcnt : ((fs.count true : Nat) : Int) = (N : Int) - (T : Int) := by omega
            have HCNT := hide hcnt
            clear hcnt HBI HSP HCP HB HO hlj
            have hTN : (T : Int) ≤ (N : Int) := by omega
            go_wp2_with fail
            refine (free_any b 10 fs _ HSI.out (by omega) (by omega)).mono ?_
            rw [HCNT.out]
            rintro e7 w7 ⟨rfl, hb7⟩
            have HS7 := hide (HSI.out.below hb7)
            have HC7 := hide (HCI.out.below hb7)
            have HO7 := hide (owned_below HOI.out hb7)
            have HB7 := hide (HBW.out.trans (hb7.mono HBW.out.size))
            clear hb7 HSI HCI HOI HBW
            go_wp2_with fail
            refine (free_any B 10 _ _ HC7.out (by omega) (by rw [List.length_replicate]; omega)).mono ?_
            rw [List.count_replicate_self]
            rintro e8 w8 ⟨rfl, hb8⟩
            have HS8 := hide (HS7.out.below hb8)
            have HO8 := hide (owned_below HO7.out hb8)
            have HB8 := hide (HB7.out.trans (hb8.mono HB7.out.size))
            clear hb8 HS7 HC7 HO7 HB7
            by_cases h0 : rs.length = 0
            · have hrs : rs = [] := List.eq_nil_of_length_eq_zero h0
              subst hrs
              have h0i : ¬ (0 : Int) < ((([] : List (Nat × Nat)).length : Nat) : Int) := by simp
              have HRQ := hide (Reads.owned HO8.out (rcells_one _) (by unfold maxLen; simp))
              go_wp2_with fail
              refine (give_ok b N fs [] _ _ HS8.out HT.out (by omega) HRQ.out (by simp)).mono ?_
              rintro e9 w9 ⟨rfl, hs9, hg9⟩
              have HS9 := hide hs9
              have HB9 := hide (HB8.out.grown hg9 HB8.out.size (fun k hk => by cases hk; exact hbw))
              clear hs9 hg9
              go_wp2_with fail
              refine (free_any b 10 _ _ HS9.out (by omega) (by rw [List.length_replicate]; omega)).mono ?_
              rw [List.count_replicate_self]
              rintro e10 w10 ⟨rfl, hb10⟩
              have HBX := hide (HB9.out.trans (hb10.mono HB9.out.size))
              clear hb10
              go_wp2_with fail
              go_ret
              exact ⟨rfl, HBX.out⟩
            · have h0i : (0 : Int) < (rs.length : Int) := by omega
              obtain ⟨I, hI⟩ : ∃ I : Nat, k % (rs.length : Int) = (I : Int) := ⟨(k % (rs.length : Int)).toNat, by have := Int.emod_nonneg k (show (rs.length : Int) ≠ 0 by omega); omega⟩
              have hI2 : I < rs.length := by have := Int.emod_lt_of_pos k h0i; omega
              have HI9 := hide hI
              clear hI
              go_wp2_with fail
              rw [HI9.out]
              obtain ⟨g, hg⟩ := owned_some2 HO8.out (by omega)
              cases hg
              have HR8 := hide (Reads.owned HO8.out (rcells_one _) (by unfold maxLen; omega))
              rw [← told_length 10 rs] at HR8
              have hc0 := Reads.cells2 HR8.out 0 (by rw [told_length]; omega)
              have hcI := Reads.cells2 HR8.out I (by rw [told_length]; exact hI2)
              rw [told_length] at HR8
              rw [told_get 10 rs 0 (by omega)] at hc0
              rw [told_get 10 rs I hI2] at hcI
              obtain ⟨r0, hr0⟩ : ∃ r, Hid (rs[0]'(by omega) = r) := ⟨_, hide rfl⟩
              obtain ⟨rI, hrI⟩ : ∃ r, Hid (rs[I] = r) := ⟨_, hide rfl⟩
              rw [hr0.out] at hc0
              rw [hrI.out] at hcI
              simp only [Nat.zero_mul, Nat.zero_add] at hc0 hcI
              obtain ⟨x0, x1⟩ := hc0
              obtain ⟨y0, y1⟩ := hcI
              have hI3 : (I : Int) < (rs.length : Int) := by omega
              obtain ⟨W1, hW1, own1, grow1, _⟩ := store_run (show w8.drew.ownsRow w.heap.size 36 2 (.slice (some ⟨g, 0, none⟩) rs.length cl) rs.length (rcells (told 10 rs)) from HO8.out) (told_length 10 rs) 0 (by omega) (10 + (rI.1 : Int), (rI.2 : Int))
              obtain ⟨W2, hW2, own2, grow2, _⟩ := store_run own1 (by rw [List.length_set]; exact told_length 10 rs) I hI2 (10 + (r0.1 : Int), (r0.2 : Int))
              rw [Nat.zero_mul] at hW1
              rw [← told_set, ← told_set] at own2
              have HEND := hide (trivial : True)
              refine (wpIn_wide (n := 3)).1 ?_
              refine wpIn_region_C (fun _ => True) hmix ?_
              change wpAnyC _ _ _ _ _ _ _ _ _ _ (World.drew _)
              refine wpAnyC_take (i := 0) (.slice (some ⟨g, 0, none⟩) rs.length cl) rfl (by kernel_rfl) (by kernel_rfl) (by kernel_rfl) (by kernel_rfl) (fun _ _ _ h => h) trivial ⟨.inl ⟨by rfl, fun w' hw' => by (first | (go_simp; done) | (go_simp; with_reducible rfl))⟩, fun _ => rfl⟩ ?_
              refine wpAnyC_take (i := 1) (.slice (some ⟨g, 0, none⟩) rs.length cl) rfl (by kernel_rfl) (by kernel_rfl) (by kernel_rfl) (by kernel_rfl) (fun _ _ _ h => h) trivial ⟨.inl ⟨by rfl, fun w' hw' => by (first | (go_simp; done) | (go_simp; with_reducible rfl))⟩, fun _ => rfl⟩ ?_
              refine wpAnyC_take (i := 2) (.int .i64 (I : Int)) rfl (by kernel_rfl) (by kernel_rfl) (by kernel_rfl) (by kernel_rfl) (fun _ _ _ h => h) trivial ⟨.inl ⟨by rfl, fun w' hw' => by (first | (go_simp; done) | (go_simp; with_reducible rfl))⟩, fun _ => rfl⟩ ?_
              refine wpAnyC_take (i := 3) (.slice (some ⟨g, 0, none⟩) rs.length cl) rfl (by kernel_rfl) (by kernel_rfl) (by kernel_rfl) (by kernel_rfl) (fun _ _ _ h => h) trivial ⟨.inl ⟨by rfl, fun w' hw' => by (first | (go_simp; done) | (go_simp; with_reducible rfl))⟩, fun _ => rfl⟩ ?_
              refine wpAnyC_take (i := 4) (.int .i64 (I : Int)) rfl (by kernel_rfl) (by kernel_rfl) (by kernel_rfl) (by kernel_rfl) (fun _ _ _ h => h) trivial ⟨.inl ⟨by rfl, fun w' hw' => by (first | (go_simp; done) | (go_simp; with_reducible rfl))⟩, fun _ => rfl⟩ ?_
              refine wpAnyC_take (i := 5) (.pointer (some ⟨g, I * 2, none⟩)) rfl (by kernel_rfl) (by kernel_rfl) (by kernel_rfl) (by kernel_rfl) (fun _ _ _ h => h) trivial ⟨.inl ⟨by rfl, fun w' hw' => by (first | (go_simp; done) | (go_simp; with_reducible rfl))⟩, fun _ => rfl⟩ ?_
              refine wpAnyC_take (i := 7) (.slice (some ⟨g, 0, none⟩) rs.length cl) rfl (by kernel_rfl) (by kernel_rfl) (by kernel_rfl) (by kernel_rfl) (fun _ _ _ h => h) trivial ⟨.inl ⟨by rfl, fun w' hw' => by (first | (go_simp; done) | (go_simp; with_reducible rfl))⟩, fun _ => rfl⟩ ?_
              refine wpAnyC_take (i := 8) (.pointer (some ⟨g, 0, none⟩)) rfl (by kernel_rfl) (by kernel_rfl) (by kernel_rfl) (by kernel_rfl) (fun _ _ _ h => h) trivial ⟨.inl ⟨by rfl, fun w' hw' => by (first | (go_simp; done) | (go_simp; with_reducible rfl))⟩, fun _ => rfl⟩ ?_
              refine wpAnyC_two (i := 6) (j := 9) (by kernel_rfl) rfl rfl (fun K hK => ?_) (fun K hK => ?_)
              · go_simp
                refine hK _ _ trivial ?_; clear hK K
                refine wpAnyC_one (i := 9) (by kernel_rfl) rfl (fun K hK => ?_)
                go_simp
                refine hK _ _ trivial ?_; clear hK K
                refine wpAnyC_one (i := 10) (by kernel_rfl) rfl (fun K hK => ?_)
                go_simp
                refine hK _ _ trivial ?_; clear hK K
                refine wpAnyC_one (i := 11) (by kernel_rfl) rfl (fun K hK => ?_)
                rw [if_pos (by rfl)]
                refine wpIn_storeOf _ _ _ rfl rfl _ _ rfl rfl hW1 ?_
                refine hK _ _ trivial ?_; clear hK K
                refine wpAnyC_one (i := 12) (by kernel_rfl) rfl (fun K hK => ?_)
                go_simp
                refine hK _ _ trivial ?_; clear hK K
                refine wpAnyC_one (i := 13) (by kernel_rfl) rfl (fun K hK => ?_)
                rw [if_pos (by rfl)]
                refine wpIn_storeOf _ _ _ rfl rfl _ _ rfl rfl hW2 ?_
                refine hK _ _ trivial ?_; clear hK K
                refine wpAnyC_done (by kernel_rfl) ?_ _
                go_simp
                have HQ := hide (swap_perm rs I (by omega) hI2)
                rw [hr0.out, hrI.out] at HQ
                obtain ⟨qs, hqs⟩ : ∃ qs, (rs.set 0 rI).set I r0 = qs := ⟨_, rfl⟩
                rw [hqs] at HQ own2
                have hql : qs.length = rs.length := HQ.out.length_eq
                have HTQ := hide (HT.out.perm HQ.out)
                rw [← hql] at own2 ⊢
                have HSW := hide (((show IsSp w8.drew b 10 fs from HS8.out).row (show w8.drew.ownsRow w.heap.size 36 2 (.slice (some ⟨g, 0, none⟩) rs.length cl) rs.length (rcells (told 10 rs)) from HO8.out) grow1).row own1 grow2)
                have HOW := hide own2
                have hgb : w.heap.size ≤ g := owned_ge HO8.out g rfl
                have HBW := hide (((show Below w.heap.size w w8.drew from HB8.out.drew).grown grow1 HB8.out.size (fun k hk => by cases hk; exact hgb)).grown grow2 (Nat.le_trans HB8.out.size grow1.size) (fun k hk => by cases hk; exact hgb))
                have hq20 : qs.length ≤ 20 := by omega
                have hq0 : 0 < qs.length := by omega
                have HRQ := hide (Reads.owned HOW.out (rcells_one _) (by unfold maxLen; omega))
                clear own1 own2 grow1 grow2 hW1 hW2 hqs hql HQ x0 x1 y0 y1 hI3 hI2 h0 h0i HEND HR8 HO8 HS8 HB8 hr0 hrI HT
                go_wp2_with fail
                refine (give_ok b N fs qs _ W2 HSW.out HTQ.out (by omega) HRQ.out (by omega)).mono ?_
                rintro e9 w9 ⟨rfl, hs9, hg9⟩
                have HS9 := hide hs9
                have HO9 := hide (HOW.out.kept hg9 (runs_apart HSW.out HOW.out))
                have HB9 := hide (HBW.out.grown hg9 HBW.out.size (fun k hk => by cases hk; exact hbw))
                clear hs9 hg9
                go_wp2_with fail
                refine (free_any b 10 _ _ HS9.out (by omega) (by rw [List.length_replicate]; omega)).mono ?_
                rw [List.count_replicate_self]
                rintro e10 w10 ⟨rfl, hb10⟩
                have HSX := hide (HS9.out.below hb10)
                have HOX := hide (owned_below HO9.out hb10)
                have HBX := hide (HB9.out.trans (hb10.mono HB9.out.size))
                clear hb10
                have HRX := hide (Reads.owned HOX.out (rcells_one _) (by unfold maxLen; omega))
                rw [← told_length 10 qs] at HRX
                have hcc := Reads.cells2 HRX.out 0 (by rw [told_length]; exact hq0)
                rw [told_get 10 qs 0 hq0] at hcc
                obtain ⟨q, hq⟩ : ∃ q, Hid (qs[0] = q) := ⟨_, hide rfl⟩
                have hqb := HTQ.out.2.1 qs[0] (List.getElem_mem hq0)
                rw [hq.out] at hcc hqb
                simp only [Nat.zero_mul, Nat.zero_add] at hcc
                obtain ⟨z0, z1⟩ := hcc
                obtain ⟨qb1, qb2⟩ := hqb
                have hne : ¬ qs.length = 0 := by omega
                have hlp : (0 : Int) < (qs.length : Int) := by omega
                go_wp2_with fail
                refine (give_bad b w10.heap.size N q (w10.alloc (.cells #[.int .i64 (10 + (q.1 : Int)), .int .i64 (q.2 : Int)] 36)) (HSX.out.below ((Below.refl _ _).alloc (Nat.le_refl _) _)) (by omega) qb1 qb2 (by simp) (by simp)).mono ?_
                rintro e11 w11 ⟨rfl, hb11⟩
                go_wp2_with fail
                go_ret
                exact ⟨rfl, (HBX.out.alloc HBX.out.size _).trans (hb11.mono (by have := HBX.out.size; simp; omega))⟩
              · go_simp
                refine hK _ _ trivial ?_; clear hK K
                refine wpAnyC_one (i := 6) (by kernel_rfl) rfl (fun K hK => ?_)
                go_simp
                refine hK _ _ trivial ?_; clear hK K
                refine wpAnyC_one (i := 10) (by kernel_rfl) rfl (fun K hK => ?_)
                go_simp
                refine hK _ _ trivial ?_; clear hK K
                refine wpAnyC_one (i := 11) (by kernel_rfl) rfl (fun K hK => ?_)
                rw [if_pos (by rfl)]
                refine wpIn_storeOf _ _ _ rfl rfl _ _ rfl rfl hW1 ?_
                refine hK _ _ trivial ?_; clear hK K
                refine wpAnyC_one (i := 12) (by kernel_rfl) rfl (fun K hK => ?_)
                go_simp
                refine hK _ _ trivial ?_; clear hK K
                refine wpAnyC_one (i := 13) (by kernel_rfl) rfl (fun K hK => ?_)
                rw [if_pos (by rfl)]
                refine wpIn_storeOf _ _ _ rfl rfl _ _ rfl rfl hW2 ?_
                refine hK _ _ trivial ?_; clear hK K
                refine wpAnyC_done (by kernel_rfl) ?_ _
                go_simp
                have HQ := hide (swap_perm rs I (by omega) hI2)
                rw [hr0.out, hrI.out] at HQ
                obtain ⟨qs, hqs⟩ : ∃ qs, (rs.set 0 rI).set I r0 = qs := ⟨_, rfl⟩
                rw [hqs] at HQ own2
                have hql : qs.length = rs.length := HQ.out.length_eq
                have HTQ := hide (HT.out.perm HQ.out)
                rw [← hql] at own2 ⊢
                have HSW := hide (((show IsSp w8.drew b 10 fs from HS8.out).row (show w8.drew.ownsRow w.heap.size 36 2 (.slice (some ⟨g, 0, none⟩) rs.length cl) rs.length (rcells (told 10 rs)) from HO8.out) grow1).row own1 grow2)
                have HOW := hide own2
                have hgb : w.heap.size ≤ g := owned_ge HO8.out g rfl
                have HBW := hide (((show Below w.heap.size w w8.drew from HB8.out.drew).grown grow1 HB8.out.size (fun k hk => by cases hk; exact hgb)).grown grow2 (Nat.le_trans HB8.out.size grow1.size) (fun k hk => by cases hk; exact hgb))
                have hq20 : qs.length ≤ 20 := by omega
                have hq0 : 0 < qs.length := by omega
                have HRQ := hide (Reads.owned HOW.out (rcells_one _) (by unfold maxLen; omega))
                clear own1 own2 grow1 grow2 hW1 hW2 hqs hql HQ x0 x1 y0 y1 hI3 hI2 h0 h0i HEND HR8 HO8 HS8 HB8 hr0 hrI HT
                go_wp2_with fail
                refine (give_ok b N fs qs _ W2 HSW.out HTQ.out (by omega) HRQ.out (by omega)).mono ?_
                rintro e9 w9 ⟨rfl, hs9, hg9⟩
                have HS9 := hide hs9
                have HO9 := hide (HOW.out.kept hg9 (runs_apart HSW.out HOW.out))
                have HB9 := hide (HBW.out.grown hg9 HBW.out.size (fun k hk => by cases hk; exact hbw))
                clear hs9 hg9
                go_wp2_with fail
                refine (free_any b 10 _ _ HS9.out (by omega) (by rw [List.length_replicate]; omega)).mono ?_
                rw [List.count_replicate_self]
                rintro e10 w10 ⟨rfl, hb10⟩
                have HSX := hide (HS9.out.below hb10)
                have HOX := hide (owned_below HO9.out hb10)
                have HBX := hide (HB9.out.trans (hb10.mono HB9.out.size))
                clear hb10
                have HRX := hide (Reads.owned HOX.out (rcells_one _) (by unfold maxLen; omega))
                rw [← told_length 10 qs] at HRX
                have hcc := Reads.cells2 HRX.out 0 (by rw [told_length]; exact hq0)
                rw [told_get 10 qs 0 hq0] at hcc
                obtain ⟨q, hq⟩ : ∃ q, Hid (qs[0] = q) := ⟨_, hide rfl⟩
                have hqb := HTQ.out.2.1 qs[0] (List.getElem_mem hq0)
                rw [hq.out] at hcc hqb
                simp only [Nat.zero_mul, Nat.zero_add] at hcc
                obtain ⟨z0, z1⟩ := hcc
                obtain ⟨qb1, qb2⟩ := hqb
                have hne : ¬ qs.length = 0 := by omega
                have hlp : (0 : Int) < (qs.length : Int) := by omega
                go_wp2_with fail
                refine (give_bad b w10.heap.size N q (w10.alloc (.cells #[.int .i64 (10 + (q.1 : Int)), .int .i64 (q.2 : Int)] 36)) (HSX.out.below ((Below.refl _ _).alloc (Nat.le_refl _) _)) (by omega) qb1 qb2 (by simp) (by simp)).mono ?_
                rintro e11 w11 ⟨rfl, hb11⟩
                go_wp2_with fail
                go_ret
                exact ⟨rfl, (HBX.out.alloc HBX.out.size _).trans (hb11.mono (by have := HBX.out.size; simp; omega))⟩
  · have hlen2 : (20 : Int) < (L.length : Int) := by omega
    go_enter Try.func7, Try.ntmps7
    go_wp2_with (go_at_call 25; refine (awake05_any _).mono ?_; rintro e1 w1 ⟨rfl, hb1⟩; have HB1 := hide hb1; clear hb1)
    go_ret
    exact ⟨rfl, HB1.out⟩
end Go.Proofs.Ytkkfnpbbigcpbaa.spaceBack
