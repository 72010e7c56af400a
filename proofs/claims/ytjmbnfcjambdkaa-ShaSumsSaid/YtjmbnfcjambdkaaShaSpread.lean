/- sha.spread: a block's words. -/
import Derived.Test.YtjmbnfcjambdkaaShaKeys
import Derived.Test.YtjmbnfcjambdkaaWireIn3
import Derived.Test.YtjmbnfcjambdkaaTail
namespace Go.Proofs.Ytjmbnfcjambdkaa
open Go.RowKit
/-- Bytes as one word. -/
def wordOf (l : List UInt8) : UInt32 := l.foldl (fun a c => wor (shl a 8) (UInt32.ofNat c.toNat)) 0
theorem wordOf_snoc (l : List UInt8) (c : UInt8) : wordOf (l ++ [c]) = wor (shl (wordOf l) 8) (UInt32.ofNat c.toNat) := by simp [wordOf]
def fourAt (b : List UInt8) (i : Nat) : List UInt8 := (b.drop (4 * i)).take 4
/-- The first i words, and the next one as far as m bytes. -/
def fill16 (b : List UInt8) (i m : Nat) : List UInt32 := (List.range i).map (fun k => wordOf (fourAt b k)) ++ (wordOf ((fourAt b i).take m) :: List.replicate (63 - i) 0)
theorem fill16_length (b : List UInt8) (i m : Nat) (h : i ≤ 63) : (fill16 b i m).length = 64 := by simp [fill16]; omega
theorem fill16_get (b : List UInt8) (i m : Nat) : (fill16 b i m)[i]? = some (wordOf ((fourAt b i).take m)) := by
  unfold fill16
  rw [List.getElem?_append_right (by simp)]
  simp
theorem fill16_set (b : List UInt8) (i m : Nat) (c : UInt8) (hc : (fourAt b i)[m]? = some c) : (fill16 b i m).set i (wor (shl (wordOf ((fourAt b i).take m)) 8) (UInt32.ofNat c.toNat)) = fill16 b i (m + 1) := by
  obtain ⟨h, e⟩ := List.getElem?_eq_some_iff.1 hc
  unfold fill16
  rw [List.set_append_right _ _ (by simp), List.take_succ_eq_append_getElem h, e, wordOf_snoc]
  simp
theorem fill16_next (b : List UInt8) (i : Nat) (h : i ≤ 62) (hb : (fourAt b i).length = 4) : fill16 b i 4 = fill16 b (i + 1) 0 := by
  unfold fill16
  rw [List.range_succ, List.map_append, List.take_of_length_le (by omega), show 63 - i = (63 - (i + 1)) + 1 by omega, List.replicate_succ, List.append_assoc]
  rfl
/-- One more word out of those ahead. -/
def sig0 (a : UInt32) : UInt32 := wxor (wxor (rotl a 25) (rotl a 14)) (shr a 3)
def sig1 (c : UInt32) : UInt32 := wxor (wxor (rotl c 15) (rotl c 13)) (shr c 10)
def moreWord (l : List UInt32) (j : Nat) : UInt32 := wadd (wadd (wadd (l.getD j 0) (sig0 (l.getD (j + 1) 0))) (l.getD (j + 9) 0)) (sig1 (l.getD (j + 14) 0))
def expTo (l : List UInt32) : Nat → List UInt32
  | 0 => l
  | j + 1 => (expTo l j).set (j + 16) (moreWord (expTo l j) j)
theorem expTo_length (l : List UInt32) (j : Nat) : (expTo l j).length = l.length := by
  induction j with
  | zero => rfl
  | succ j ih => rw [expTo, List.length_set, ih]
def spreadL (b : List UInt8) : List UInt32 := expTo (fill16 b 16 0) 48
theorem spreadL_eq (b : List UInt8) : spreadL b = expTo (fill16 b 16 0) 48 := by unfold spreadL; with_reducible rfl
theorem spreadL_length (b : List UInt8) : (spreadL b).length = 64 := by rw [spreadL_eq, expTo_length, fill16_length b 16 0 (by omega)]
def spreadW (b : List UInt8) : Ws 64 := ⟨spreadL b, spreadL_length b⟩
theorem spreadW_l (b : List UInt8) : (spreadW b).l = spreadL b := by unfold spreadW; with_reducible rfl
theorem ws_ext {n : Nat} {x y : Ws n} (h : x.l = y.l) : x = y := by
  cases x; cases y; cases h; rfl
theorem slice_part (s : List UInt8) (n m : Nat) : (⟨s.toArray⟩ : ByteArray).extract n m = ⟨((s.drop n).take (m - n)).toArray⟩ := by
  apply ByteArray.ext
  rw [ByteArray.data_extract]
  apply Array.ext'
  simp [List.extract_eq_take_drop]
theorem byte_word (c : UInt8) : (c.toNat : Int) = ((UInt32.ofNat c.toNat).toNat : Int) := by
  have := c.toNat_lt
  rw [UInt32.toNat_ofNat', Nat.mod_eq_of_lt (by omega)]
theorem byte_in (W0 : UInt32) (c : UInt8) : bits .or .u32 ((W0.toNat : Int) * 256 % 4294967296) (c.toNat : Int) = ((wor (shl W0 8) (UInt32.ofNat c.toNat)).toNat : Int) := by
  rw [← w_or, shl_nat, ← byte_word]; rfl
set_option maxRecDepth 20000 in
set_option maxHeartbeats 4000000 in
theorem spread_any (b : List UInt8) (hb : b.length = 64) (w : World) :
    Calls Try.prog 103 #[.string ⟨b.toArray⟩] w fun e w' => e = .returned (.agg (wsv (spreadW b))) ∧ Below w.heap.size w w' := by
  have HBL := hide hb
  have hbs : (⟨b.toArray⟩ : ByteArray).size = 64 := by rw [size_str]; exact hb
  clear hb
  go_enter Try.func103, Try.ntmps103
  go_wp2_with fail
  have R0 := hide (heap_one w (.cells (wsv (Ws.zero 64)) 107) (.cells (wsv (Ws.zero 64)) 107))
  have R1 := hide (heap_two w (.cells (wsv (Ws.zero 64)) 107) (.cells (wsv (Ws.zero 64)) 107))
  have HB0 := hide (((Below.refl _ w).alloc (Nat.le_refl _) (.cells (wsv (Ws.zero 64)) 107)).alloc (by simp) (.cells (wsv (Ws.zero 64)) 107))
  go_loopw [12] (fun i wr => ∃ n : Nat, n ≤ 16 ∧ i = .int .i64 n ∧ (∃ x : Ws 64, Hid (x.l = fill16 b n 0) ∧ wr.heap[w.heap.size + 1]? = some (.cells (wsv x) 107 (0, 0))) ∧ wr.heap[w.heap.size]? = some (.cells (wsv (Ws.zero 64)) 107 (0, 0)) ∧ Below w.heap.size w wr) (fun i _ => 16 - (intOf i).toNat)
  case atStart => exact ⟨0, by omega, rfl, ⟨Ws.zero 64, hide rfl, R1.out⟩, R0.out, HB0.out⟩
  case round =>
    obtain ⟨n, hn, rfl, ⟨x, hx, hr1⟩, hr0, hbl⟩ := hrel
    have Q1 := hide hr1
    have Q0 := hide hr0
    have HB := hide hbl
    clear hr1 hr0 hbl
    by_cases hlt : n < 16
    · have hlt2 : (n : Int) < 16 := by omega
      have hsl : (⟨b.toArray⟩ : ByteArray).extract (4 * n) (4 * n + 4) = ⟨(fourAt b n).toArray⟩ := by
        rw [slice_part]; unfold fourAt; congr 3; omega
      have h4 : (fourAt b n).length = 4 := by have := HBL.out; simp [fourAt]; omega
      have H4 := hide h4
      obtain ⟨F, hF⟩ : ∃ F, Hid (fourAt b n = F) := ⟨_, hide rfl⟩
      rw [hF.out] at hsl h4
      have z1 : w.heap.size + 1 < wr.heap.size := lt_of_heap Q1.out
      obtain ⟨cc, w2, hcv, hrd, hb2⟩ := run_tobytes wr F (by omega)
      rw [h4] at hcv hrd
      have HRD := hide hrd
      have Q2 := hide ((hb2.block _ z1).trans Q1.out)
      have Q3 := hide ((hb2.block _ (lt_of_heap Q0.out)).trans Q0.out)
      have HB2 := hide (HB.out.trans (hb2.mono HB.out.size))
      clear hrd hb2 h4
      obtain ⟨g, hg⟩ : ∃ g, wr.heap.size = g := ⟨_, rfl⟩
      rw [hg] at hcv HRD z1
      go_wp2_with fail
      go_loopw [24] (fun k wi => ∃ m : Nat, m ≤ 4 ∧ k = .int .i64 m ∧ (∃ x : Ws 64, Hid (x.l = fill16 b n m) ∧ wi.heap[w.heap.size + 1]? = some (.cells (wsv x) 107 (0, 0))) ∧ wi.heap[w.heap.size]? = some (.cells (wsv (Ws.zero 64)) 107 (0, 0)) ∧ Below w.heap.size w wi ∧ Reads wi 1 (.slice (some ⟨g, 0, none⟩) 4 cc) 4 (u8s F)) (fun k _ => 4 - (intOf k).toNat)
      case atStart => exact ⟨0, by omega, rfl, ⟨x, hx, Q2.out⟩, Q3.out, HB2.out, HRD.out⟩
      case round =>
        obtain ⟨m, hm, rfl, ⟨y, hy, hr1⟩, hr0, hbl, hrd⟩ := hrel
        clear HB2 Q2 Q3 HRD hcv
        have P1 := hide hr1
        have P0 := hide hr0
        have HB3 := hide hbl
        have HRD := hide hrd
        clear hr1 hr0 hbl hrd
        by_cases hml : m < 4
        · have hml2 : (m : Int) < 4 := by omega
          have hFl : F.length = 4 := by rw [← hF.out]; exact H4.out
          obtain ⟨c, hc⟩ : ∃ c, Hid (F[m]? = some c) := ⟨_, hide (List.getElem?_eq_getElem (by omega))⟩
          have hcell := HRD.out.cell0 m _ (show (u8s F)[m]? = some (.int .u8 (c.toNat : Int)) by
            obtain ⟨h1, h2⟩ := List.getElem?_eq_some_iff.1 hc.out
            rw [u8s_get F m h1, h2])
          have hyn := fill16_get b n m
          rw [← hy.out] at hyn
          have hst := wcell P1.out n _ hyn
          have hfz := frozen_of_row wr (w.heap.size + 1) n _ _ P1.out
          obtain ⟨W0, hW0⟩ : ∃ W0, Hid (wordOf ((fourAt b n).take m) = W0) := ⟨_, hide rfl⟩
          rw [hW0.out] at hst
          have hcl : (c.toNat : Int) ≤ 255 := by have := c.toNat_lt; omega
          have HV := hide (byte_in W0 c)
          have HS := hide (fill16_set b n m c (by rw [hF.out]; exact hc.out))
          rw [hW0.out] at HS
          have hne : g ≠ w.heap.size + 1 := by omega
          clear hyn hFl
          go_wp2_with fail
          go_roundw
          case rel =>
            rw [HV.out]
            refine ⟨m + 1, by omega, by go_num, ⟨y.set n (wor (shl W0 8) (UInt32.ofNat c.toNat)), hide ?_, wrow_set P1.out n _⟩, ?_, HB3.out.setCell (by show w.heap.size ≤ w.heap.size + 1; omega) _, ?_⟩
            · show y.l.set n _ = _
              rw [hy.out]; exact HS.out
            · rw [heap_setCell_other _ _ _ _ (by show w.heap.size ≠ w.heap.size + 1; omega)]; exact P0.out
            · exact HRD.out.grown (grown_set _ _ _ _) (fun k hk e => by cases hk; cases e; exact hne rfl)
          case measure => simp [intOf]; omega
        · obtain rfl : m = 4 := by omega
          have HNX := hide (fill16_next b n (by omega) H4.out)
          go_wp2_with fail
          go_roundw
          case rel => exact ⟨n + 1, by omega, by go_num, ⟨y, hide (by rw [hy.out, HNX.out]), P1.out⟩, P0.out, HB3.out⟩
          case measure => simp [intOf]; omega
    · obtain rfl : n = 16 := by omega
      rw [show ((16 : Nat) : Int) = (16 : Int) from rfl]
      go_wp2_with fail
      go_loopw [7] (fun i wi => ∃ j : Nat, j ≤ 48 ∧ i = .int .i64 ((j : Int) + 16) ∧ (∃ x : Ws 64, Hid (x.l = expTo (fill16 b 16 0) j) ∧ wi.heap[w.heap.size + 1]? = some (.cells (wsv x) 107 (0, 0))) ∧ wi.heap[w.heap.size]? = some (.cells (wsv (Ws.zero 64)) 107 (0, 0)) ∧ Below w.heap.size w wi) (fun i _ => 64 - (intOf i).toNat)
      case atStart => exact ⟨0, by omega, rfl, ⟨x, hide (by rw [hx.out]; rfl), Q1.out⟩, Q0.out, HB.out⟩
      case round =>
        obtain ⟨j, hj, rfl, ⟨y, hy, hr1⟩, hr0, hbl⟩ := hrel
        clear HB Q1 Q0
        have P1 := hide hr1
        have P0 := hide hr0
        have HB3 := hide hbl
        clear hr1 hr0 hbl
        by_cases hjl : j < 48
        · have hjl2 : (j : Int) + 16 < 64 := by omega
          have hylen := y.len
          have key : ∀ k, k < 64 → wr.cell? ⟨w.heap.size + 1, k, none⟩ = some (.int .u32 ((y.l.getD k 0).toNat : Int)) := fun k hk => wcell P1.out k _ (by rw [List.getD_eq_getElem?_getD, List.getElem?_eq_getElem (by omega)]; rfl)
          have k1 := key (j + 1) (by omega)
          have k14 := key (j + 14) (by omega)
          have k0 := key j (by omega)
          have k9 := key (j + 9) (by omega)
          have k16 := key (j + 16) (by omega)
          have hfz := frozen_of_row wr (w.heap.size + 1) (j + 16) _ _ P1.out
          have HY := hide (show moreWord (expTo (fill16 b 16 0) j) j = wadd (wadd (wadd (y.l.getD j 0) (sig0 (y.l.getD (j + 1) 0))) (y.l.getD (j + 9) 0)) (sig1 (y.l.getD (j + 14) 0)) by rw [← hy.out]; rfl)
          obtain ⟨A1, hA1⟩ : ∃ A, Hid (y.l.getD (j + 1) 0 = A) := ⟨_, hide rfl⟩
          obtain ⟨A14, hA14⟩ : ∃ A, Hid (y.l.getD (j + 14) 0 = A) := ⟨_, hide rfl⟩
          obtain ⟨A0, hA0⟩ : ∃ A, Hid (y.l.getD j 0 = A) := ⟨_, hide rfl⟩
          obtain ⟨A9, hA9⟩ : ∃ A, Hid (y.l.getD (j + 9) 0 = A) := ⟨_, hide rfl⟩
          rw [hA1.out] at k1 HY
          rw [hA14.out] at k14 HY
          rw [hA0.out] at k0 HY
          rw [hA9.out] at k9 HY
          have w15 : IntKind.i64.wrap ((j : Int) + 16 - 15) = ((j + 1 : Nat) : Int) := (IntWalk.i64_in _ (by omega)).trans (by omega)
          have w2 : IntKind.i64.wrap ((j : Int) + 16 - 2) = ((j + 14 : Nat) : Int) := (IntWalk.i64_in _ (by omega)).trans (by omega)
          clear key hylen
          go_wp2_with fail
          go_quiet (fail)
          clear w15 w2
          have sh3 := (shr_nat A1 3).symm
          have sh10 := (shr_nat A14 10).symm
          rw [show (2 : Int) ^ 3 = 8 from rfl] at sh3
          rw [show (2 : Int) ^ 10 = 1024 from rfl] at sh10
          go_wp2_with fail
          refine (rot_at A1 (-7) 25 (by decide) _).mono ?_
          rintro e1 v1 ⟨rfl, rfl⟩
          go_wp2_with fail
          refine (rot_at A1 (-18) 14 (by decide) _).mono ?_
          rintro e2 v2 ⟨rfl, rfl⟩
          go_wp2_with fail
          refine (rot_at A14 (-17) 15 (by decide) _).mono ?_
          rintro e3 v3 ⟨rfl, rfl⟩
          go_wp2_with fail
          refine (rot_at A14 (-19) 13 (by decide) _).mono ?_
          rintro e4 v4 ⟨rfl, rfl⟩
          go_wp2_with fail
          have hf0 : IntKind.i64.wrap ((j : Int) + 16 - 16) = (j : Int) := (IntWalk.i64_in _ (by omega)).trans (by omega)
          have hf9 : IntKind.i64.wrap ((j : Int) + 16 - 7) = ((j + 9 : Nat) : Int) := (IntWalk.i64_in _ (by omega)).trans (by omega)
          have h16 : ((j : Int) + 16).toNat = j + 16 := by omega
          refine wp_region_after_tail 15 (by kernel_rfl) (by kernel_rfl) ?_
          simp only [List.take_succ_cons, List.take_zero, List.drop_succ_cons, List.drop_zero]
          repeat go_big_quiet_step (fail)
          refine wpQuiet_nil ?_
          intro xw
          have hbx := xw.below
          have P2 := hide (show xw.world.heap[w.heap.size + 1]? = some (.cells (wsv y) 107 (0, 0)) from (hbx.block _ (lt_of_heap P1.out)).trans P1.out)
          have P3 := hide (show xw.world.heap[w.heap.size]? = some (.cells (wsv (Ws.zero 64)) 107 (0, 0)) from (hbx.block _ (lt_of_heap P0.out)).trans P0.out)
          have HB4 := hide (HB3.out.trans ((show Below wr.heap.size wr xw.world from ⟨hbx.os, hbx.tape, hbx.output, hbx.size, hbx.block⟩).mono HB3.out.size))
          have hst := wcell P2.out (j + 16) _ (show y.l[j + 16]? = some (y.l.getD (j + 16) 0) by rw [List.getD_eq_getElem?_getD, List.getElem?_eq_getElem (by rw [y.len]; omega)]; rfl)
          have hfz2 := frozen_of_row xw.world (w.heap.size + 1) (j + 16) _ _ P2.out
          clear hbx hfz k0 k1 k9 k14 k16 hf0 hf9 h16 sh3 sh10
          obtain ⟨V, hV⟩ : ∃ V, xw.world = V := ⟨_, rfl⟩
          rw [hV] at P2 P3 HB4 hst hfz2 ⊢
          go_wp2_with fail
          go_roundw
          case rel =>
            refine ⟨j + 1, by omega, by go_num, ⟨y.set (j + 16) (moreWord (expTo (fill16 b 16 0) j) j), hide ?_, ?_⟩, ?_, HB4.out.setCell (by show w.heap.size ≤ w.heap.size + 1; omega) _⟩
            · show y.l.set _ _ = _
              rw [hy.out, expTo]
            · have := wrow_set P2.out (j + 16) (moreWord (expTo (fill16 b 16 0) j) j)
              rw [HY.out] at this ⊢
              exact this
            · rw [heap_setCell_other _ _ _ _ (by show w.heap.size ≠ w.heap.size + 1; omega)]; exact P3.out
          case measure => simp [intOf]; omega
        · have hj48 : j = 48 := by omega
          rw [hj48] at hy
          have hxk0 : y.l = (spreadW b).l := by rw [spreadW_l, spreadL_eq]; exact hy.out
          have hxk := hide (ws_ext hxk0)
          clear hxk0
          have hjl2 : ¬ (j : Int) + 16 < 64 := by omega
          have z0 : w.heap.size < wr.heap.size := lt_of_heap P0.out
          have z1 : w.heap.size + 1 < wr.heap.size := lt_of_heap P1.out
          have rc1 := rowCells_of P1.out
          have rk0 := rowOk_of 64 P0.out
          rw [wsv_size] at rk0
          have rk1 : wr.rowOk w.heap.size 64 = true := by rw [rk0]; rfl
          clear rk0 hy hj48 hjl
          go_wp2_with fail
          refine ret_w64 rfl w.heap.size y rfl (rowCells_setRow_same _ rk1) rfl ⟨?_, below_setRow HB3.out (Nat.le_refl _) _⟩
          rw [hxk.out]
end Go.Proofs.Ytjmbnfcjambdkaa
