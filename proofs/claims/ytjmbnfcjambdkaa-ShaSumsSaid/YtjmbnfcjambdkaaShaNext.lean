/- sha.state.next: behind one more block. -/
import Derived.Test.YtjmbnfcjambdkaaShaSpread
namespace Go.Proofs.Ytjmbnfcjambdkaa
open Go.RowKit
def big1 (e : UInt32) : UInt32 := wxor (wxor (rotl e 26) (rotl e 21)) (rotl e 7)
def big0 (a : UInt32) : UInt32 := wxor (wxor (rotl a 30) (rotl a 19)) (rotl a 10)
def chF (e f g : UInt32) : UInt32 := wxor (wand e f) (wand (wnot e) g)
def majF (a b c : UInt32) : UInt32 := wxor (wxor (wand a b) (wand a c)) (wand b c)
def rndX (e f g h k w : UInt32) : UInt32 := wadd (wadd (wadd (wadd h (big1 e)) (chF e f g)) k) w
def rndY (a b c : UInt32) : UInt32 := wadd (big0 a) (majF a b c)
/-- One round. -/
def rnd (t : List UInt32) (k w : UInt32) : List UInt32 :=
  match t with
  | [a, b, c, d, e, f, g, h] => [wadd (rndX e f g h k w) (rndY a b c), a, b, c, wadd d (rndX e f g h k w), e, f, g]
  | l => l
theorem eight (l : List UInt32) (h : l.length = 8) : ∃ a b c d e f g i, l = [a, b, c, d, e, f, g, i] := by
  match l, h with
  | [a, b, c, d, e, f, g, i], _ => exact ⟨a, b, c, d, e, f, g, i, rfl⟩
theorem rnd_length (t : List UInt32) (k w : UInt32) (h : t.length = 8) : (rnd t k w).length = 8 := by
  obtain ⟨a, b, c, d, e, f, g, i, rfl⟩ := eight t h; rfl
def roundsTo (s ks ws : List UInt32) : Nat → List UInt32
  | 0 => s
  | j + 1 => rnd (roundsTo s ks ws j) (ks.getD j 0) (ws.getD j 0)
theorem roundsTo_length (s ks ws : List UInt32) (h : s.length = 8) : ∀ j, (roundsTo s ks ws j).length = 8
  | 0 => h
  | j + 1 => rnd_length _ _ _ (roundsTo_length s ks ws h j)
/-- The first i words are added. -/
def addTo (s t : List UInt32) (i : Nat) : List UInt32 := (List.zipWith wadd s t).take i ++ s.drop i
theorem addTo_step (s t : List UInt32) (i : Nat) (hs : i < s.length) (ht : i < t.length) : (addTo s t i).set i (wadd s[i] t[i]) = addTo s t (i + 1) := by
  unfold addTo
  have hz : (List.zipWith wadd s t).length = min s.length t.length := List.length_zipWith
  have hl : ((List.zipWith wadd s t).take i).length = i := by rw [List.length_take, hz]; omega
  rw [List.set_append_right _ _ (by omega), hl, Nat.sub_self, List.drop_eq_getElem_cons hs, List.set_cons_zero, List.take_succ_eq_append_getElem (by omega), List.getElem_zipWith, List.append_assoc]
  rfl
theorem addTo_get (s t : List UInt32) (i : Nat) (hs : i < s.length) (ht : i < t.length) : (addTo s t i)[i]? = some s[i] := by
  unfold addTo
  have hz : (List.zipWith wadd s t).length = min s.length t.length := List.length_zipWith
  have hl : ((List.zipWith wadd s t).take i).length = i := by rw [List.length_take, hz]; omega
  rw [List.getElem?_append_right (by omega), hl, Nat.sub_self, List.getElem?_drop, Nat.add_zero, List.getElem?_eq_getElem hs]
def nextL (s ks : List UInt32) (b : List UInt8) : List UInt32 := addTo s (roundsTo s ks (spreadL b) 64) 8
theorem addTo_length (s t : List UInt32) (i : Nat) (hs : s.length = 8) (ht : t.length = 8) (hi : i ≤ 8) : (addTo s t i).length = 8 := by
  simp [addTo, hs, ht]; omega
theorem nextL_length (s ks : List UInt32) (b : List UInt8) (h : s.length = 8) : (nextL s ks b).length = 8 := by
  unfold nextL; exact addTo_length _ _ _ h (roundsTo_length _ _ _ h _) (by omega)
def nextW (s : Ws 8) (ks : Ws 64) (b : List UInt8) : Ws 8 := ⟨nextL s.l ks.l b, nextL_length _ _ _ s.len⟩
theorem nextW_l (s : Ws 8) (ks : Ws 64) (b : List UInt8) : (nextW s ks b).l = nextL s.l ks.l b := by unfold nextW; with_reducible rfl
/-- A call that leaves the world alone, behind draws of two regions. -/
theorem quiet_more {P : Program} {fn : FuncId} {args : Array Value} {v : Value} (h : ∀ W : World, Calls P fn args W fun e w' => e = .returned v ∧ w' = W) (w : World) (x n : Nat) :
    Calls P fn args (w.drewN (x + n)) fun e w' => e = .returned v ∧ ∃ m, w' = w.drewN (x + m) :=
  (h _).mono fun _ _ h2 => ⟨h2.1, n, h2.2⟩
@[go_sem] theorem ones8 (a b c d e f g h : Int) : rowOnes #[.int .u32 a, .int .u32 b, .int .u32 c, .int .u32 d, .int .u32 e, .int .u32 f, .int .u32 g, .int .u32 h] = true := by
  simp [rowOnes, Value.oneCell']
set_option maxRecDepth 20000 in
set_option maxHeartbeats 8000000 in
theorem next_any (s : Ws 8) (gk : Nat) (ks : Ws 64) (b : List UInt8) (hb : b.length = 64) (w : World) (hk : w.heap[gk]? = some (.cells (wsv ks) 107 (0, 0))) :
    Calls Try.prog 60 #[.agg (wsv s), .pointer (some ⟨gk, 0, none⟩), .string ⟨b.toArray⟩] w fun e w' => e = .returned (.agg (wsv (nextW s ks b))) ∧ Below w.heap.size w w' := by
  have HK := hide hk
  have hgk := lt_of_heap hk
  clear hk
  go_enter Try.func60, Try.ntmps60
  go_wp2_with fail
  refine (spread_any b hb _).mono ?_
  rintro e1 w1 ⟨rfl, hb1⟩
  have R0 := hide ((hb1.block w.heap.size (by simp; omega)).trans (heap_one w _ _))
  have R1 := hide ((hb1.block (w.heap.size + 1) (by simp)).trans (heap_two w _ _))
  have HB1 := hide ((((Below.refl _ w).alloc (Nat.le_refl _) _).alloc (by simp) _).trans (hb1.mono (by simp; omega)))
  have RK := hide ((HB1.out.block gk hgk).trans HK.out)
  clear hb1
  obtain ⟨W, hW⟩ : ∃ W, Hid (spreadW b = W) := ⟨_, hide rfl⟩
  rw [hW.out]
  have z1 : w.heap.size + 1 < w1.heap.size := lt_of_heap R1.out
  have rc0 := rowCells_of R0.out
  have z0 : w.heap.size < w1.heap.size := by omega
  have hne0 : ¬ w.heap.size = w1.heap.size := by omega
  go_wp2_with fail
  obtain ⟨g, hg⟩ : ∃ g, w1.heap.size = g := ⟨_, rfl⟩
  have A1 := heap_alloc_new w1 (.cells (wsv (Ws.zero 64)) 107)
  have A2 := setRow_heap _ w1.heap.size _ (wsv W) _ _ A1
  have s2 : ((w1.alloc (.cells (wsv (Ws.zero 64)) 107)).setRow w1.heap.size (wsv W)).heap.size = w1.heap.size + 1 := by rw [size_setRow]; simp
  have A3 := heap_alloc_new ((w1.alloc (.cells (wsv (Ws.zero 64)) 107)).setRow w1.heap.size (wsv W)) (.cells (wsv (Ws.zero 8)) 105)
  rw [s2] at A3
  have A4 := setRow_heap _ (w1.heap.size + 1) _ (wsv s) _ _ A3
  have old : ∀ k o, k < w1.heap.size → w1.heap[k]? = some o → ((((w1.alloc (.cells (wsv (Ws.zero 64)) 107)).setRow w1.heap.size (wsv W)).alloc (.cells (wsv (Ws.zero 8)) 105)).setRow (w1.heap.size + 1) (wsv s)).heap[k]? = some o := fun k o hk ho => by
    rw [setRow_other _ _ _ _ (by omega), heap_alloc_old _ _ (by rw [s2]; omega), setRow_other _ _ _ _ (by omega), heap_alloc_old _ _ hk, ho]
  have Q0 := hide (old _ _ z0 R0.out)
  have Q1 := hide (old _ _ z1 R1.out)
  have QK := hide (old _ _ (lt_of_heap RK.out) RK.out)
  have Q7 := hide (show ((((w1.alloc (.cells (wsv (Ws.zero 64)) 107)).setRow w1.heap.size (wsv W)).alloc (.cells (wsv (Ws.zero 8)) 105)).setRow (w1.heap.size + 1) (wsv s)).heap[w1.heap.size]? = some _ by
    rw [setRow_other _ _ _ _ (by omega), heap_alloc_old _ _ (by rw [s2]; omega), A2])
  have Q8 := hide A4
  have BZ := hide (below_setRow ((below_setRow (HB1.out.alloc (by omega) (.cells (wsv (Ws.zero 64)) 107)) (g := w1.heap.size) (by omega) (wsv W)).alloc (by rw [s2]; omega) (.cells (wsv (Ws.zero 8)) 105)) (g := w1.heap.size + 1) (by omega) (wsv s))
  clear A1 A2 A3 A4 s2 old rc0
  obtain ⟨Z, hZ⟩ : ∃ Z, ((((w1.alloc (.cells (wsv (Ws.zero 64)) 107)).setRow w1.heap.size (wsv W)).alloc (.cells (wsv (Ws.zero 8)) 105)).setRow (w1.heap.size + 1) (wsv s)) = Z := ⟨_, rfl⟩
  rw [hZ] at Q0 Q1 QK Q7 Q8 BZ ⊢
  rw [hg] at Q7 Q8 z0 z1 hne0 ⊢
  clear hZ R0 R1 RK HB1 HK
  have hgkg : gk < g := by omega
  go_loopw [18] (fun i wr => ∃ j : Nat, j ≤ 64 ∧ i = .int .i64 j ∧ (∃ t : Ws 8, Hid (t.l = roundsTo s.l ks.l W.l j) ∧ wr.heap[g + 1]? = some (.cells (wsv t) 105 (0, 0))) ∧ wr.heap[g]? = some (.cells (wsv W) 107 (0, 0)) ∧ wr.heap[gk]? = some (.cells (wsv ks) 107 (0, 0)) ∧ wr.heap[w.heap.size]? = some (.cells (wsv s) 105 (0, 0)) ∧ wr.heap[w.heap.size + 1]? = some (.cells (wsv (Ws.zero 8)) 105 (0, 0)) ∧ Below w.heap.size w wr) (fun i _ => 64 - (intOf i).toNat)
  case atStart => exact ⟨0, by omega, rfl, ⟨s, hide rfl, Q8.out⟩, Q7.out, QK.out, Q0.out, Q1.out, BZ.out⟩
  case round =>
    obtain ⟨j, hj, rfl, ⟨t, ht, hr8⟩, hr7, hrk, hr0, hr1, hbl⟩ := hrel
    clear Q0 Q1 QK Q7 Q8 BZ
    have Q8 := hide hr8
    have Q7 := hide hr7
    have QK := hide hrk
    have Q0 := hide hr0
    have Q1 := hide hr1
    have HB := hide hbl
    clear hr8 hr7 hrk hr0 hr1 hbl
    by_cases hlt : j < 64
    · have hlt2 : (j : Int) < 64 := by omega
      obtain ⟨a, b', c, d, e, f, gg, i, hl⟩ := eight t.l t.len
      have HL := hide hl
      have c0 := wcell Q8.out 0 a (by rw [hl]; rfl)
      have c1 := wcell Q8.out 1 b' (by rw [hl]; rfl)
      have c2 := wcell Q8.out 2 c (by rw [hl]; rfl)
      have c3 := wcell Q8.out 3 d (by rw [hl]; rfl)
      have c4 := wcell Q8.out 4 e (by rw [hl]; rfl)
      have c5 := wcell Q8.out 5 f (by rw [hl]; rfl)
      have c6 := wcell Q8.out 6 gg (by rw [hl]; rfl)
      have c7 := wcell Q8.out 7 i (by rw [hl]; rfl)
      obtain ⟨kj, hkj⟩ : ∃ y, Hid (ks.l.getD j 0 = y) := ⟨_, hide rfl⟩
      obtain ⟨wj, hwj⟩ : ∃ y, Hid (W.l.getD j 0 = y) := ⟨_, hide rfl⟩
      have ck := wcell QK.out j kj (by rw [← hkj.out, List.getD_eq_getElem?_getD, List.getElem?_eq_getElem (by rw [ks.len]; exact hlt)]; rfl)
      have cw := wcell Q7.out j wj (by rw [← hwj.out, List.getD_eq_getElem?_getD, List.getElem?_eq_getElem (by rw [W.len]; exact hlt)]; rfl)
      have rk0 := rowOk_of 8 Q8.out
      rw [wsv_size] at rk0
      have rk1 : wr.rowOk (g + 1) 8 = true := by rw [rk0]; rfl
      clear rk0 hl
      have RTE1 := hide (rot_at e (-6) 26 (by decide))
      have RTE2 := hide (rot_at e (-11) 21 (by decide))
      have RTE3 := hide (rot_at e (-25) 7 (by decide))
      have RTA1 := hide (rot_at a (-2) 30 (by decide))
      have RTA2 := hide (rot_at a (-13) 19 (by decide))
      have RTA3 := hide (rot_at a (-22) 10 (by decide))
      go_wp2_with fail
      go_quiet (fail)
      go_wp2_with fail
      refine wp_region_quiet_lit (by kernel_rfl) (by kernel_rfl) ?_
      iterate 3 go_big_quiet_step (fail)
      go_big_quiet_step ((go_at_call 104; exact quiet_more RTE1.out _ _ _))
      iterate 1 go_big_quiet_step (fail)
      go_big_quiet_step ((go_at_call 104; exact quiet_more RTE2.out _ _ _))
      iterate 2 go_big_quiet_step (fail)
      go_big_quiet_step ((go_at_call 104; exact quiet_more RTE3.out _ _ _))
      iterate 24 go_big_quiet_step (fail)
      refine wpQuiet_nil ?_
      intro _ hw2
      obtain ⟨nq2, hw3⟩ := hw2
      subst hw3
      go_wp2_with fail
      refine wp_region_quiet_lit (by kernel_rfl) (by kernel_rfl) ?_
      iterate 1 go_big_quiet_step (fail)
      go_big_quiet_step ((go_at_call 104; exact quiet_more RTA1.out _ _ _))
      iterate 1 go_big_quiet_step (fail)
      go_big_quiet_step ((go_at_call 104; exact quiet_more RTA2.out _ _ _))
      iterate 2 go_big_quiet_step (fail)
      go_big_quiet_step ((go_at_call 104; exact quiet_more RTA3.out _ _ _))
      iterate 18 go_big_quiet_step (fail)
      refine wpQuiet_nil ?_
      intro _ hw4
      obtain ⟨nq3, hw5⟩ := hw4
      subst hw5
      obtain ⟨X, hX⟩ : ∃ X, Hid (rndX e f gg i kj wj = X) := ⟨_, hide rfl⟩
      obtain ⟨Y, hY⟩ : ∃ Y, Hid (rndY a b' c = Y) := ⟨_, hide rfl⟩
      rw [show wadd (wadd (wadd (wadd i (wxor (wxor (rotl e 26) (rotl e 21)) (rotl e 7))) (wxor (wand e f) (wand (wnot e) gg))) kj) wj = X from hX.out, show wadd (wxor (wxor (rotl a 30) (rotl a 19)) (rotl a 10)) (wxor (wxor (wand a b') (wand a c)) (wand b' c)) = Y from hY.out]
      have HN := hide (show roundsTo s.l ks.l W.l (j + 1) = [wadd X Y, a, b', c, wadd d X, e, f, gg] by
        rw [roundsTo, ← ht.out, HL.out, hkj.out, hwj.out, ← hX.out, ← hY.out]; rfl)
      go_wp2_with fail
      go_roundw
      case rel =>
        have n1 : g ≠ g + 1 := by omega
        have n2 : gk ≠ g + 1 := by omega
        have n3 : w.heap.size ≠ g + 1 := by omega
        have n4 : w.heap.size + 1 ≠ g + 1 := by omega
        refine ⟨j + 1, by omega, by go_num, ⟨⟨[wadd X Y, a, b', c, wadd d X, e, f, gg], rfl⟩, hide HN.out.symm, ?_⟩, (setRow_other _ _ _ _ n1).trans Q7.out, (setRow_other _ _ _ _ n2).trans QK.out, (setRow_other _ _ _ _ n3).trans Q0.out, (setRow_other _ _ _ _ n4).trans Q1.out, below_setRow (show Below w.heap.size w (wr.drewN (nq + nq2 + nq3)) from ⟨HB.out.os, HB.out.tape, HB.out.output, HB.out.size, HB.out.block⟩) (by omega) _⟩
        exact setRow_heap (wr.drewN (nq + nq2 + nq3)) (g + 1) _ _ _ _ Q8.out
      case measure => simp [intOf]; omega
    · have hj64 : j = 64 := by omega
      have hj64i : ¬ (j : Int) < 64 := by omega
      rw [hj64] at ht
      clear hj64 hj hlt
      have hN : nextL s.l ks.l b = addTo s.l t.l 8 := by
        unfold nextL
        rw [ht.out, ← spreadW_l, hW.out]
      have HN := hide hN
      clear hN ht
      go_wp2_with fail
      go_loopw [102] (fun i wi => ∃ n : Nat, n ≤ 8 ∧ i = .int .i64 n ∧ (∃ x : Ws 8, Hid (x.l = addTo s.l t.l n) ∧ wi.heap[w.heap.size]? = some (.cells (wsv x) 105 (0, 0))) ∧ wi.heap[g + 1]? = some (.cells (wsv t) 105 (0, 0)) ∧ wi.heap[w.heap.size + 1]? = some (.cells (wsv (Ws.zero 8)) 105 (0, 0)) ∧ Below w.heap.size w wi) (fun i _ => 8 - (intOf i).toNat)
      case atStart => exact ⟨0, by omega, rfl, ⟨s, hide (by simp [addTo]), Q0.out⟩, Q8.out, Q1.out, HB.out⟩
      case round =>
        obtain ⟨n, hn, rfl, ⟨x, hx, hr0⟩, hr8, hr1, hbl⟩ := hrel
        clear Q0 Q8 Q1 QK Q7 HB
        have Q0 := hide hr0
        have Q8 := hide hr8
        have Q1 := hide hr1
        have HB := hide hbl
        clear hr0 hr8 hr1 hbl
        by_cases hlt : n < 8
        · have hlt2 : (n : Int) < 8 := by omega
          have hs8 : n < s.l.length := by rw [s.len]; exact hlt
          have ht8 : n < t.l.length := by rw [t.len]; exact hlt
          obtain ⟨sn, hsn⟩ : ∃ y, Hid (s.l[n]'hs8 = y) := ⟨_, hide rfl⟩
          obtain ⟨tn, htn⟩ : ∃ y, Hid (t.l[n]'ht8 = y) := ⟨_, hide rfl⟩
          have c1 := wcell Q0.out n sn (by rw [hx.out, addTo_get _ _ _ hs8 ht8, hsn.out])
          have c2 := wcell Q8.out n tn (by rw [List.getElem?_eq_getElem ht8, htn.out])
          have HS := hide (addTo_step s.l t.l n hs8 ht8)
          rw [hsn.out, htn.out] at HS
          go_wp2_with fail
          refine wp_region_after_tail 8 (by kernel_rfl) (by kernel_rfl) ?_
          simp only [List.take_succ_cons, List.take_zero, List.drop_succ_cons, List.drop_zero]
          repeat go_big_quiet_step (fail)
          refine wpQuiet_nil ?_
          intro xw
          have hbx := xw.below
          have P0 := hide ((hbx.block _ (lt_of_heap Q0.out)).trans Q0.out)
          have P8 := hide ((hbx.block _ (lt_of_heap Q8.out)).trans Q8.out)
          have P1 := hide ((hbx.block _ (lt_of_heap Q1.out)).trans Q1.out)
          have HB4 := hide (HB.out.trans (hbx.mono HB.out.size))
          have hst := wcell P0.out n sn (by rw [hx.out, addTo_get _ _ _ hs8 ht8, hsn.out])
          have hfz2 := frozen_of_row xw.world w.heap.size n _ _ P0.out
          clear hbx c1 c2
          obtain ⟨V, hV⟩ : ∃ V, xw.world = V := ⟨_, rfl⟩
          rw [hV] at P0 P8 P1 HB4 hst hfz2 ⊢
          go_wp2_with fail
          go_roundw
          case rel =>
            refine ⟨n + 1, by omega, by go_num, ⟨x.set n (wadd sn tn), hide ?_, wrow_set P0.out n _⟩, ?_, ?_, HB4.out.setCell (Nat.le_refl _) _⟩
            · show x.l.set _ _ = _
              rw [hx.out]; exact HS.out
            · rw [heap_setCell_other _ _ _ _ (by show g + 1 ≠ w.heap.size; omega)]; exact P8.out
            · rw [heap_setCell_other _ _ _ _ (by show w.heap.size + 1 ≠ w.heap.size; omega)]; exact P1.out
          case measure => simp [intOf]; omega
        · have hn8 : n = 8 := by omega
          rw [hn8] at hx
          have hx2 : x.l = (nextW s ks b).l := by rw [nextW_l, HN.out]; exact hx.out
          have HXW := hide (ws_ext hx2)
          have hni : ¬ (n : Int) < 8 := by omega
          have y0 : w.heap.size < wr.heap.size := lt_of_heap Q0.out
          have y1 : w.heap.size + 1 < wr.heap.size := lt_of_heap Q1.out
          have rc0 := rowCells_of Q0.out
          have rk0 := rowOk_of 8 Q1.out
          rw [wsv_size] at rk0
          have rk1 : wr.rowOk (w.heap.size + 1) 8 = true := by rw [rk0]; rfl
          clear rk0 hx hx2 hn8 hn hlt
          go_wp2_with fail
          refine ret_w8 rfl (w.heap.size + 1) x rfl (rowCells_setRow_same _ rk1) rfl ⟨?_, below_setRow HB.out (by omega) _⟩
          rw [HXW.out]
end Go.Proofs.Ytjmbnfcjambdkaa
