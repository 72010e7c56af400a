/- SpaceFirst: what it returns. -/
import Derived.Test.YtkkfnpbbigcpbaaSpFirst
namespace Go.Proofs.Ytkkfnpbbigcpbaa.spaceFirst
open Go.RowKit Go.Shelf
attribute [local go_sem] Oper.semAt_some
set_option maxRecDepth 100000 in
set_option maxHeartbeats 8000000 in
theorem walk (n : Int) (v1 : Value) (L : List (Int × Int)) (k : Int) (w : World) (hn : (Lit.int .u8 n).wf = true) (hr : Reads w 2 v1 L.length (rcells L)) (hL : ∀ r ∈ L, (Lit.int .i64 r.1).wf = true ∧ (Lit.int .i64 r.2).wf = true) (hk : (Lit.int .u8 k).wf = true) :
    Calls Try.prog 6 #[.int .u8 n, v1, .int .u8 k] w fun e w' => e = .returned (.bool true) ∧ Below w.heap.size w w' := by
  refine (callsIn_wide (n := 3)).1 ?_
  have hmix : Try.prog.follows .mixedOrders = true := by kernel_rfl
  have hn2 : 0 ≤ n ∧ n ≤ 255 := by simpa [Lit.wf, IntKind.min, IntKind.max, IntKind.signed, IntKind.bits] using hn
  have hk2 : 0 ≤ k ∧ k ≤ 255 := by simpa [Lit.wf, IntKind.min, IntKind.max, IntKind.signed, IntKind.bits] using hk
  obtain ⟨hn0, hn1⟩ := hn2
  obtain ⟨hk0, hk1⟩ := hk2
  obtain ⟨a1, c1, rfl⟩ := hr.shape
  have HR := hide hr
  have HL := hide hL
  clear hr hL hn hk
  by_cases hlen : L.length ≤ 10
  · have hlen2 : ¬ (10 : Int) < (L.length : Int) := by omega
    refine callsIn_of_wp_marks Try.func6 rfl trivial ?_ rfl
    simp only [Try.ntmps6, List.size_toArray, List.length_cons, List.length_nil, Nat.reduceAdd, Nat.reduceSub, Array.replicate_succ, Array.replicate_zero, List.push_toArray, List.append_toArray, List.nil_append, List.cons_append]
    gi_wp2_with (refine ⟨trivial, ?_⟩; first
      | (gi_at_call 25; refine (callsIn_wide.2 (awake05_any _)).mono ?_; rintro e1 w1 ⟨rfl, hb1⟩; have HB1 := hide hb1; clear hb1)
      | (gi_at_call 26; refine (callsIn_wide.2 (new_any 0 (n % 200) _ (by decide) (by simp [Lit.wf, IntKind.min, IntKind.max, IntKind.signed, IntKind.bits]; omega))).mono ?_; rintro e3 w3 ⟨b, rfl, hz, hs3, hb3⟩; have HS3 := hide hs3; have HB3 := hide hb3; have HZ3 := hide hz; clear hz hs3 hb3))
    have HS0 := hide (show ∃ fs, IsSp w3 b 0 fs ∧ fs.length ≤ 200 from ⟨_, HS3.out, by rw [List.length_replicate]; unfold sectors; split <;> (try split) <;> omega⟩)
    have HBB := hide (HB1.out.trans (HB3.out.mono HB1.out.size))
    have hbw : w.heap.size ≤ b := Nat.le_trans HB1.out.size HZ3.out
    clear HS3
    gi_loopw [26] (fun i wr => ∃ (m : Nat) (fs : List Bool), m ≤ L.length ∧ i = .int .i64 m ∧ IsSp wr b 0 fs ∧ fs.length ≤ 200 ∧ Below w.heap.size w wr) (fun i _ => L.length - (intOf i).toNat)
    case atStart => obtain ⟨fs, h1, h2⟩ := HS0.out; exact ⟨0, fs, by omega, rfl, h1, h2, HBB.out⟩
    case round =>
      obtain ⟨m, fs, hm, rfl, hsp, hfl, hb⟩ := hrel
      have HSP := hide hsp
      have HB := hide hb
      clear hsp hb
      by_cases hlt : m < L.length
      · obtain ⟨bb, o, c0, hv⟩ := HR.out.isRow (by omega)
        cases hv
        have hcell := Reads.cells2 (HR.out.below HB.out) m hlt
        obtain ⟨hx0, hx1⟩ := hcell
        gi_wp2
        refine ⟨trivial, ?_⟩
        obtain ⟨q0, q1⟩ := rem_in L[m].1 200 (by omega) (by omega)
        obtain ⟨q2, q3⟩ := rem_in L[m].2 20 (by omega) (by omega)
        refine (callsIn_wide.2 (claim_one b _ 0 fs (wrap64 ((IntKind.u64.wrap L[m].1).tmod 200)) (wrap64 (1 + wrap64 ((IntKind.u64.wrap L[m].2).tmod 20))) _ ((HSP.out.below (Below.refl _ _)).below ((((Below.refl _ wr).alloc (Nat.le_refl _) _).alloc (by simp) _))) (by simp) (by simp) (by rw [one_in _ q2 (by omega)]; omega) (by omega) (by omega) (by omega) (by omega))).mono ?_
        rintro e4 w4 ⟨q, fs', rfl, hsp4, hl4, hg4⟩
        have HSP4 := hide hsp4
        have HB4 := hide (((HB.out.alloc HB.out.size _).alloc (by have := HB.out.size; simp; omega) _).grown hg4 (by have := HB.out.size; simp; omega) (fun k hk => by cases hk; exact hbw))
        clear hsp4 hg4 q0 q1 q2 q3 hx0 hx1
        gi_wp2
        go_roundw
        case rel => exact ⟨m + 1, fs', by omega, by go_num, HSP4.out, by omega, HB4.out⟩
        case measure => simp [intOf]; omega
      · obtain ⟨K, hK⟩ : ∃ K : Nat, 1 + k % 20 = (K : Int) := ⟨(1 + k % 20).toNat, by omega⟩
        have hK1 : 1 ≤ K := by omega
        have hK2 : K ≤ 20 := by omega
        gi_wp2_with (refine ⟨trivial, ?_⟩; gi_at_call 28; refine (runs_in _ _ _).mono ?_; rintro e w' ⟨rfl, rfl⟩)
        (try rw [hK])
        have hblt := HSP.out.lt
        have hBsz := HB.out.size
        have q1 := ((Boxed.new wr 3 (.int .i64 (K : Int))).alloc (.cells #[.int .i64 (-1)] 3)).alloc (.cells #[.pointer (some ⟨b, 0, none⟩)] 33)
        have q2 := (Boxed.new (wr.alloc (.cells #[.int .i64 (K : Int)] 3)) 3 (.int .i64 (-1))).alloc (.cells #[.pointer (some ⟨b, 0, none⟩)] 33)
        have q3 := Boxed.new ((wr.alloc (.cells #[.int .i64 (K : Int)] 3)).alloc (.cells #[.int .i64 (-1)] 3)) 33 (.pointer (some ⟨b, 0, none⟩))
        have hB0 : Below wr.heap.size wr (((wr.alloc (.cells #[.int .i64 (K : Int)] 3)).alloc (.cells #[.int .i64 (-1)] 3)).alloc (.cells #[.pointer (some ⟨b, 0, none⟩)] 33)) := (((Below.refl _ wr).alloc (Nat.le_refl _) _).alloc (by simp) _).alloc (by simp; omega) _
        have hsz : (((wr.alloc (.cells #[.int .i64 (K : Int)] 3)).alloc (.cells #[.int .i64 (-1)] 3)).alloc (.cells #[.pointer (some ⟨b, 0, none⟩)] 33)).heap.size = wr.heap.size + 3 := by simp
        simp only [World.size_alloc] at q2 q3
        obtain ⟨W0, hW0⟩ : ∃ W0, ((wr.alloc (.cells #[.int .i64 (K : Int)] 3)).alloc (.cells #[.int .i64 (-1)] 3)).alloc (.cells #[.pointer (some ⟨b, 0, none⟩)] 33) = W0 := ⟨_, rfl⟩
        rw [hW0] at q1 q2 q3 hB0 hsz ⊢
        clear hW0
        have HF := hide (show ∀ pre : List (RunOf fs), (∀ y ∈ pre, y.1.2 < K) → pre = allRuns fs → (runsAt fs 0).find? (fun r => decide (K ≤ r.2)) = none from fun pre h1 h2 => by
          rw [List.find?_eq_none]
          intro r hr
          have : r ∈ (allRuns fs).map Subtype.val := by rw [allRuns_map]; exact hr
          obtain ⟨y, hy, rfl⟩ := List.mem_map.1 this
          have := h1 y (h2 ▸ hy)
          simp; omega)
        have HG := hide (show ∀ (pre : List (RunOf fs)) (x : RunOf fs), (∀ y ∈ pre, y.1.2 < K) → K ≤ x.1.2 → (pre ++ [x]) <+: allRuns fs → (runsAt fs 0).find? (fun r => decide (K ≤ r.2)) = some x.1 from fun pre x h1 h2 h3 => by
          obtain ⟨k, hk⟩ := h3
          have e : runsAt fs 0 = pre.map Subtype.val ++ (x.1 :: k.map Subtype.val) := (allRuns_map fs).symm.trans (by rw [← hk]; simp)
          refine (congrArg (List.find? (fun r => decide (K ≤ r.2))) e).trans ?_
          rw [List.find?_append]
          have : (pre.map Subtype.val).find? (fun r => decide (K ≤ r.2)) = none := by
            rw [List.find?_eq_none]
            intro r hr
            obtain ⟨y, hy, rfl⟩ := List.mem_map.1 hr
            have := h1 y hy
            simp; omega
          rw [this]
          simp [h2])
        refine wpIn_rangeFunc_ownH rfl (by omega) (gf := 84) (lb := #[.pointer (some ⟨wr.heap.size + 1 + 1, 0, none⟩)]) rfl trivial (enters_of Try.func84 (by kernel_rfl) rfl)
          (runs_stops (3 - 1) (by omega) (wr.heap.size + 1 + 1) (wr.heap.size + 3) (fun _ => False) b 0 fs (by omega) (by omega) wr HSP.out (fun k hk => hk.elim) (by omega) (by omega) (fun hk => hk) W0 (by omega) (fun k hk => hB0.block k hk) q3)
          (fun h1 h2 => h1.trans h2) (Keep.put (by omega)) (Below.refl _ _) (fun _ => rfl)
          (fun pre W => ((∀ y ∈ pre, y.1.2 < K) ∧ Boxed W wr.heap.size 3 (.int .i64 (K : Int)) ∧ Boxed W (wr.heap.size + 1) 3 (.int .i64 (-1))) ∧ Below wr.heap.size wr W ∧ wr.heap.size + 3 ≤ W.heap.size)
          (fun c pre W => (c = .exit 2 ∧ ∃ (pr : List (RunOf fs)) (x : RunOf fs), pre = pr ++ [x] ∧ (∀ y ∈ pr, y.1.2 < K) ∧ K ≤ x.1.2 ∧ Boxed W wr.heap.size 3 (.int .i64 (K : Int)) ∧ Boxed W (wr.heap.size + 1) 3 (.int .i64 (x.1.1 : Int))) ∧ Below wr.heap.size wr W ∧ wr.heap.size + 3 ≤ W.heap.size)
          (fun s A C row hs hg hr => by
            obtain ⟨⟨h1, b1, b2⟩, hB, hz⟩ := hs
            have hk : ∀ (Bx : Nat) (t : TypeId) (u : Value), Boxed A Bx t u → Boxed C Bx t u := fun Bx t u hb => row_own _ Bx _ rfl () A C row hb hg hr
            exact ⟨⟨h1, hk _ _ _ b1, hk _ _ _ b2⟩, hB.grown hg hB.size (fun k hk' => by have := (hr k hk').1; omega), Nat.le_trans hz hg.size⟩)
          (fun c s A C row hs hg hr => by
            obtain ⟨⟨h0, pr, x, h1, h2, h3, b1, b2⟩, hB, hz⟩ := hs
            have hk : ∀ (Bx : Nat) (t : TypeId) (u : Value), Boxed A Bx t u → Boxed C Bx t u := fun Bx t u hb => row_own _ Bx _ rfl () A C row hb hg hr
            exact ⟨⟨h0, pr, x, h1, h2, h3, hk _ _ _ b1, hk _ _ _ b2⟩, hB.grown hg hB.size (fun k hk' => by have := (hr k hk').1; omega), Nat.le_trans hz hg.size⟩)
          ⟨⟨by simp, q1, q2⟩, hB0, by omega⟩
          (fun x a' W => ∃ Bx, wr.heap.size + 2 < Bx ∧ W.heap[Bx]? = some (.cells #[.int .i64 (x.1.1 : Int), .int .i64 (x.1.2 : Int)] 36 (0, 0)) ∧ a' = { tmps := #[.int .u8 n, .slice a1 L.length c1, .int .u8 k, undef, undef, undef, .bool false, .pointer (some ⟨b, 0, none⟩), undef, u9, .pointer (some ⟨wr.heap.size, 0, none⟩), .pointer (some ⟨wr.heap.size + 1, 0, none⟩), .pointer (some ⟨Bx, 0, none⟩), undef, undef, .bool true, .bool false, .slice a1 L.length c1, .int .i64 (L.length : Int), .bool (decide ((10 : Int) < (L.length : Int))), .int .u8 n, .int .u8 (n % 200), .int .i64 (n % 200), .pointer (some ⟨b, 0, none⟩), .slice a1 L.length c1, .int .i64 (L.length : Int), .int .i64 (m : Int), .bool false, u28, u29, u30, u31, u32, u33, u34, u35, u36, u37, u38, u39, u40, u41, u42, u43, u44, u45, .int .u8 k, .int .u8 (k % 20), .int .i64 (k % 20), .int .i64 (K : Int), .pointer (some ⟨b, 0, none⟩), .func (.func 84) #[] #[.pointer (some ⟨wr.heap.size + 1 + 1, 0, none⟩)], .agg #[.int .i64 (x.1.1 : Int), .int .i64 (x.1.2 : Int)], undef, undef, undef, undef, undef, undef, undef, undef, undef, undef, undef, undef, undef, undef, undef, undef, undef, undef, undef, undef, undef, undef, undef, undef, undef, undef, undef, undef, undef, undef, undef, undef, undef, undef, undef, undef, undef, undef, undef, undef, undef, undef, undef, undef], defers := [] })
          (fun x a' _ X Y row hs hg hr => by obtain ⟨Bx, h1, h2, h3⟩ := hs; exact ⟨Bx, h1, row_own _ Bx _ rfl () X Y row h2 hg hr, h3⟩)
          ?assign ?body ?done ?stop
        case assign =>
          rintro l pre x W Kn ⟨⟨h1, b1, b2⟩, hB1, hz1⟩ hK9
          unfold encRun
          gi_wp2
          refine hK9 _ _ ((KeepsOthers.alloc _ _).from _) (fun k hk _ => Below.heap_alloc _ _ _ (by omega)) ⟨⟨h1, b1.alloc _, b2.alloc _⟩, hB1.alloc hB1.size _, by simp; omega⟩ ⟨W.heap.size, by omega, heap_alloc_new _ _, rfl⟩
        case body =>
          rintro l pre x a' W hl ⟨r, hr⟩ ⟨⟨h1, b1, b2⟩, hB1, hz1⟩ ⟨Bx, hBx, bX, rfl⟩ hlt2
          have cN := b1.cell
          have cX1 : W.cell? ⟨Bx, 1, none⟩ = some (.int .i64 (x.1.2 : Int)) := by rw [cell_of_row W Bx 1 _ _ _ bX]; rfl
          by_cases hlong : K ≤ x.1.2
          · have cX0 : W.cell? ⟨Bx, 0, none⟩ = some (.int .i64 (x.1.1 : Int)) := by rw [cell_of_row W Bx 0 _ _ _ bX]; rfl
            have c2 := b2.cell
            have f2 := b2.frozen
            have B1 := hide b1
            have B2 := hide b2
            have HB1 := hide hB1
            clear bX hB1
            gi_wp2
            refine ⟨(KeepsOthers.setCell _ ⟨wr.heap.size + 1, 0, none⟩ _).from _, ⟨rfl, pre, x, rfl, h1, hlong, B1.out.other (by omega) _, B2.out.set _⟩, HB1.out.setCell (p := ⟨wr.heap.size + 1, 0, none⟩) (by show wr.heap.size ≤ wr.heap.size + 1; omega) _, by simp; omega⟩
          · have hlt3 : x.1.2 < K := by omega
            gi_wp2
            refine ⟨KeepsFrom.refl _ _, Keep.refl _ _ _, ⟨fun y hy => ?_, b1, b2⟩, hB1, hz1⟩
            rcases List.mem_append.1 hy with hy | hy
            · exact h1 y hy
            · rw [List.mem_singleton.1 hy]; exact hlt3
        case done =>
          rintro D ys W hD rfl ⟨⟨h1, b1, b2⟩, hB1, hz1⟩ hK9
          have cN := b1.cell
          have B2 := hide b2
          have HB1 := hide hB1
          have HK9 := hide hK9
          have H1 := hide h1
          clear b2 hB1 hK9 h1
          gi_wp2
          refine ⟨trivial, ?_⟩
          have hT := take_any b 0 fs K W (HSP.out.below HB1.out) hK1 (by omega) (by omega) (by omega)
          unfold TakePost at hT
          rw [HF.out _ H1.out rfl] at hT
          refine (callsIn_wide.2 hT).mono ?_
          rintro e5 w5 ⟨rfl, hb5⟩
          have R2 := hide (show w5.heap[wr.heap.size + 1]? = some (.cells #[.int .i64 (-1)] 3 (0, 0)) from (hb5.block _ B2.out.lt).trans B2.out)
          have cF := one_cell R2.out
          have hKD : w5.heap[D]? = some (.deferred (some [])) := (hb5.block _ (lt_of_heap HK9.out)).trans HK9.out
          have HKD := hide hKD
          have HB5 := hide (HB.out.trans (HB1.out.mono hBsz |>.trans (hb5.mono (by omega))))
          clear hb5 hKD hT
          gi_wp2
          refine ⟨by simp, .inl ⟨_, _, rfl, run_takeDeferred HKD.out, ?_⟩⟩
          exact ⟨_, results_tmp rfl _ _ _, rfl, HB5.out.trans (belowK_b (w := w) (Nat.le_refl _) w5 D _ _ (by omega) HKD.out rfl rfl)⟩
        case stop =>
          rintro D c pre W hD hpre ⟨⟨rfl, pr, x, rfl, h1, h2, b1, b2⟩, hB1, hz1⟩ hK9
          have cN := b1.cell
          have B2 := hide b2
          have HB1 := hide hB1
          have HK9 := hide hK9
          have HG9 := hide (HG.out pr x h1 h2 hpre)
          clear b2 hB1 hK9 h1 h2 hpre
          gi_wp2
          refine ⟨trivial, ?_⟩
          have hT := take_any b 0 fs K W (HSP.out.below HB1.out) hK1 (by omega) (by omega) (by omega)
          unfold TakePost at hT
          rw [HG9.out] at hT
          simp only [Int.zero_add] at hT
          refine (callsIn_wide.2 hT).mono ?_
          rintro e5 w5 ⟨rfl, hsp5, hg5⟩
          obtain ⟨f1, f2, f3, f4⟩ := first_free fs K x.1 hK1 HG9.out
          have HF4 := hide f4
          have HF3 := hide f3
          have HSP5 := hide hsp5
          have R2 := hide (grown_at hg5 (show _ = some (.cells #[.int .i64 (x.1.1 : Int)] 3 (0, 0)) from B2.out) (by omega))
          have cF := one_cell R2.out
          have HKD := hide (grown_at hg5 HK9.out (by omega))
          have HB5 := hide ((HB.out.trans (HB1.out.mono hBsz)).grown hg5 (by omega) (fun k hk => by cases hk; exact hbw))
          clear hsp5 hg5 hT f1 f3 f4
          by_cases hp0 : x.1.1 = 0
          · have HP0 := hide hp0
            have hz0 : (x.1.1 : Int) = 0 := by omega
            rw [hz0] at cF ⊢
            clear hz0 hp0
            gi_wp2
            refine ⟨trivial, ?_⟩
            refine (callsIn_wide.2 (is_off b _ 0 _ _ HSP5.out (by simp) (by omega) (by have := HF3.out; rw [HP0.out] at this; rw [HP0.out]; exact this))).mono ?_
            rintro e6 w6 ⟨rfl, q6, rfl⟩
            gi_wp2
            refine ⟨trivial, ?_⟩
            gi_wp2
            refine ⟨by simp, .inl ⟨_, _, rfl, run_takeDeferred (show (w5.drewN q6).heap[D]? = _ from HKD.out), ?_⟩⟩
            exact ⟨_, results_tmp rfl _ _ _, rfl, (show Below w.heap.size w (w5.drewN q6) from ⟨HB5.out.os, HB5.out.tape, HB5.out.output, HB5.out.size, HB5.out.block⟩).trans (belowK_b (w := w) (Nat.le_refl _) (w5.drewN q6) D _ _ (by omega) HKD.out rfl rfl)⟩
          · have hx1 : ¬ (x.1.1 : Int) = 0 := by omega
            have hx2 : (x.1.1 : Int) ≤ 200 := by omega
            have hx3 : ¬ (x.1.1 : Int) < 0 := by omega
            gi_wp2
            refine ⟨trivial, ?_⟩
            refine (callsIn_wide.2 (is_off b _ x.1.1 _ _ HSP5.out rfl (by omega) HF3.out)).mono ?_
            rintro e6 w6 ⟨rfl, q6, rfl⟩
            gi_wp2
            refine ⟨trivial, ?_⟩
            refine (callsIn_wide.2 (is_off b _ (x.1.1 - 1) _ (w5.drewN q6) (HSP5.out.below ⟨rfl, rfl, rfl, Nat.le_refl _, fun _ _ => rfl⟩) (by omega) (by omega) (HF4.out.resolve_left hp0))).mono ?_
            rintro e7 w7 ⟨rfl, q7, rfl⟩
            gi_wp2
            refine ⟨by simp, .inl ⟨_, _, rfl, run_takeDeferred (show ((w5.drewN q6).drewN q7).heap[D]? = _ from HKD.out), ?_⟩⟩
            exact ⟨_, results_tmp rfl _ _ _, rfl, (show Below w.heap.size w (w5.drewN (q6 + q7)) from ⟨HB5.out.os, HB5.out.tape, HB5.out.output, HB5.out.size, HB5.out.block⟩).trans (belowK_b (w := w) (Nat.le_refl _) (w5.drewN (q6 + q7)) D _ _ (by omega) HKD.out rfl rfl)⟩
  · have hlen2 : (10 : Int) < (L.length : Int) := by omega
    refine callsIn_of_wp_marks Try.func6 rfl trivial ?_ rfl
    simp only [Try.ntmps6, List.size_toArray, List.length_cons, List.length_nil, Nat.reduceAdd, Nat.reduceSub, Array.replicate_succ, Array.replicate_zero, List.push_toArray, List.append_toArray, List.nil_append, List.cons_append]
    gi_wp2_with (refine ⟨trivial, ?_⟩; (gi_at_call 25; refine (callsIn_wide.2 (awake05_any _)).mono ?_; rintro e1 w1 ⟨rfl, hb1⟩; have HB1 := hide hb1; clear hb1))
    exact ⟨_, results_tmp rfl _ _ _, rfl, HB1.out⟩
end Go.Proofs.Ytkkfnpbbigcpbaa.spaceFirst
