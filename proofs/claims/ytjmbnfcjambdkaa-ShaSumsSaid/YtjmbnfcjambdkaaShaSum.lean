/- sha.Sum. -/
import Derived.Test.YtjmbnfcjambdkaaShaNext
import Derived.Test.YtjmbnfcjambdkaaWireMem
import Derived.Test.YtjmbnfcjambdkaaDig
namespace Go.Proofs.Ytjmbnfcjambdkaa
open Go.RowKit
/-- How many noughts stand behind the one. -/
def padN (n : Nat) : Nat := (119 - n % 64) % 64
/-- A text as it is summed. -/
def padded (t : List UInt8) : List UInt8 := t ++ ([128] ++ List.replicate (padN t.length) 0) ++ be 8 (t.length * 8)
theorem padded_length (t : List UInt8) : (padded t).length % 64 = 0 := by
  simp only [padded, List.length_append, List.length_replicate, be_length, List.length_cons, List.length_nil, padN]
  omega
/-- The state behind so many blocks. -/
def blocksTo (t : List UInt8) : Nat → Ws 8
  | 0 => begunW
  | m + 1 => nextW (blocksTo t m) keysW ((t.drop (64 * m)).take 64)
def digByte (l : List UInt32) (i : Nat) : UInt8 := UInt8.ofNat ((l.getD (i / 4) 0).toNat / 2 ^ (24 - 8 * (i % 4)))
/-- A state as a digest, its first i bytes. -/
def digTo (l : List UInt32) (i : Nat) : List UInt8 := (List.range i).map (digByte l) ++ List.replicate (32 - i) 0
theorem digTo_length (l : List UInt32) (i : Nat) (h : i ≤ 32) : (digTo l i).length = 32 := by simp [digTo]; omega
theorem digTo_set (l : List UInt32) (i : Nat) (h : i < 32) : (digTo l i).set i (digByte l i) = digTo l (i + 1) := by
  unfold digTo
  rw [List.set_append_right _ _ (by simp), List.range_succ, List.map_append, show 32 - i = (32 - (i + 1)) + 1 by omega, List.replicate_succ]
  simp
def digOfW (s : Ws 8) : Dig := ⟨digTo s.l 32, digTo_length s.l 32 (by omega)⟩
/-- The digest of a text. -/
def shaOf (t : List UInt8) : Dig := digOfW (blocksTo (padded t) ((padded t).length / 64))
theorem rep_zero (c : Nat) : Lib.repeatL ([0] : List UInt8) c = List.replicate c 0 := by
  induction c with
  | zero => rfl
  | succ c ih => simp [Lib.repeatL, List.replicate_succ] at ih ⊢; exact ih
set_option maxRecDepth 20000 in
set_option maxHeartbeats 8000000 in
theorem sum_any (v : Value) (xs : List ByteArray) (t : List UInt8) (ht : t = raw xs) (w : World) (hr : Reads w 1 v xs.length (strs xs)) (hx : xs.length ≤ 1000000) (hl : t.length ≤ 100000000) :
    Calls Try.prog 23 #[v] w fun e w' => e = .returned (.agg (dgst (shaOf t))) ∧ Below w.heap.size w w' := by
  have HJ := hide (fun (w' : World) (h : Reads w' 1 v xs.length (strs xs)) => join_any v xs t ht w' h (by omega) (by rw [← ht]; omega))
  have HR := hide hr
  obtain ⟨a0, c0, rfl⟩ := hr.shape
  clear hr ht
  have htl : (⟨t.toArray⟩ : ByteArray).size = t.length := size_str t
  obtain ⟨K, hK⟩ : ∃ K, Hid (padN t.length = K) := ⟨_, hide rfl⟩
  have hK2 : (119 - (t.length : Int) % 64) % 64 = (K : Int) := by rw [← hK.out]; unfold padN; omega
  have hK64 : K < 64 := by rw [← hK.out]; unfold padN; omega
  have RP := hide (fun w => Try.strings_Repeat ⟨#[0]⟩ K w (by omega) (by show 1 * K ≤ _; omega))
  rw [show Lib.repeatL (⟨#[0]⟩ : ByteArray).data.toList K = List.replicate K 0 from rep_zero K] at RP
  obtain ⟨Zs, hZs⟩ : ∃ Z, Hid (List.replicate K (0 : UInt8) = Z) := ⟨_, hide rfl⟩
  have hZl : Zs.length = K := by rw [← hZs.out, List.length_replicate]
  rw [hZs.out] at RP
  obtain ⟨Y1, hY1⟩ : ∃ Y, Hid (Y = [128] ++ Zs) := ⟨_, hide rfl⟩
  obtain ⟨Y2, hY2⟩ : ∃ Y, Hid (Y = t ++ Y1) := ⟨_, hide rfl⟩
  have k1 : (⟨#[128]⟩ : ByteArray) ++ ⟨Zs.toArray⟩ = ⟨Y1.toArray⟩ := by rw [hY1.out]; exact cat_str [128] Zs
  have k2 : (⟨t.toArray⟩ : ByteArray) ++ ⟨Y1.toArray⟩ = ⟨Y2.toArray⟩ := by rw [hY2.out]; exact cat_str t Y1
  have l1 : Y1.length = 1 + K := by rw [hY1.out, List.length_append, hZl]; rfl
  have hY2l : Y2.length ≤ 200000000 := by rw [hY2.out, List.length_append]; omega
  have j1 : ¬ 9223372036854775807 < 1 + Zs.length := by omega
  have j2 : ¬ 9223372036854775807 < t.length + Y1.length := by omega
  have ht8 : (t.length : Int) * 8 ≤ 1000000000 := by omega
  clear l1 hZl
  go_enter Try.func23, Try.ntmps23
  go_wp2_with fail
  refine (HJ.out _ (HR.out.alloc _)).mono ?_
  rintro e1 w1 ⟨rfl, hb1⟩
  have R0 := hide ((hb1.block w.heap.size (by simp)).trans (heap_alloc_new w _))
  have HB1 := hide (((Below.refl _ w).alloc (Nat.le_refl _) _).trans (hb1.mono (by simp)))
  clear hb1
  go_wp2_with fail
  refine (RP.out _).mono ?_
  rintro e2 w2 ⟨rfl, hb2⟩
  have R2 := hide ((hb2.block _ (lt_of_heap R0.out)).trans R0.out)
  have HB2 := hide (HB1.out.trans (hb2.mono HB1.out.size))
  clear hb2 R0 HB1
  go_wp2_with fail
  obtain ⟨n8, hn8⟩ : ∃ n, Hid (t.length * 8 = n) := ⟨_, hide rfl⟩
  have hnn : (t.length : Int) * 8 = (n8 : Int) := by rw [← hn8.out]; omega
  have hn8l : n8 ≤ 1000000000 := by omega
  rw [hnn]
  clear k1 k2 j1 j2 hnn hK2 ht8
  go_loopw [5, 3] (fun i s wr => ∃ k : Nat, k ≤ 8 ∧ i = .int .i64 (7 - (k : Int)) ∧ s = .string ⟨(Y2 ++ (be 8 n8).take k).toArray⟩ ∧ wr.heap[w.heap.size]? = some (.cells (dgst dig0) 24 (0, 0)) ∧ Below w.heap.size w wr) (fun i _ _ => (intOf i + 1).toNat)
  case atStart => exact ⟨0, by omega, rfl, by simp, R2.out, HB2.out⟩
  case round =>
    obtain ⟨k, hk, rfl, rfl, hr2, hb⟩ := hrel
    have Q2 := hide hr2
    have HB := hide hb
    clear hr2 hb
    by_cases hlt : k < 8
    · obtain ⟨q, hq⟩ : ∃ q, 7 - k = q := ⟨_, rfl⟩
      have hqi : (7 : Int) - (k : Int) = (q : Int) := by omega
      have hq8 : (q : Int) ≤ 7 := by omega
      obtain ⟨m, hm⟩ : ∃ m, Hid (n8 / 256 ^ q = m) := ⟨_, hide rfl⟩
      obtain ⟨c, hc⟩ : ∃ c, Hid (c = UInt8.ofNat m) := ⟨_, hide rfl⟩
      have hcv := fun (w' : World) b => run_one_mod m c hc.out b w'
      have hsh : (n8 : Int) / 2 ^ (8 * q) = (m : Int) := by
        rw [← hm.out, Int.natCast_ediv, Int.natCast_pow, show (((256 : Nat)) : Int) = (2 : Int) ^ 8 from rfl, ← Int.pow_mul]
      have htk : (be 8 n8).take (k + 1) = (be 8 n8).take k ++ [c] := by
        have h1 : k < (be 8 n8).length := by rw [be_length]; exact hlt
        rw [List.take_succ_eq_append_getElem h1]
        have h2 := be_get 8 n8 k hlt
        rw [List.getElem?_eq_getElem h1, Option.some.injEq] at h2
        rw [h2, hc.out, ← hm.out, show 8 - 1 - k = q by omega]
      have HTK := hide htk
      obtain ⟨S, hS⟩ : ∃ S, Hid (Y2 ++ (be 8 n8).take k = S) := ⟨_, hide rfl⟩
      rw [hS.out]
      have hSl : S.length ≤ 200000100 := by rw [← hS.out, List.length_append, List.length_take]; omega
      have j3 : ¬ 9223372036854775807 < S.length + 1 := by omega
      have k3 := cat_str S [c]
      have hql : (0 : Int) ≤ (q : Int) := by omega
      have hm0 : (0 : Int) ≤ (m : Int) := by omega
      rw [hqi]
      have HQ := hide hq
      clear htk hq hqi
      go_wp2_with fail
      go_roundw
      case rel =>
        refine ⟨k + 1, by omega, by have := HQ.out; congr 1; omega, ?_, (heap_alloc_old _ _ (lt_of_heap Q2.out)).trans Q2.out, HB.out.alloc HB.out.size _⟩
        rw [HTK.out, ← List.append_assoc, hS.out]
      case measure => first | (simp [intOf]; done) | (have := HQ.out; simp [intOf]; omega)
    · obtain rfl : k = 8 := by omega
      rw [List.take_of_length_le (by rw [be_length]; omega)]
      have hP : Y2 ++ be 8 n8 = padded t := by rw [hY2.out, hY1.out, ← hZs.out, ← hn8.out, ← hK.out]; rfl
      have hPm := padded_length t
      rw [hP]
      obtain ⟨P, hPP⟩ : ∃ P, Hid (padded t = P) := ⟨_, hide rfl⟩
      have hPl : P.length ≤ 300000000 := by rw [← hPP.out, ← hP, List.length_append, be_length]; omega
      rw [hPP.out] at hPm ⊢
      clear hP
      obtain ⟨M, hM⟩ : ∃ M, P.length = 64 * M := ⟨P.length / 64, by omega⟩
      have HM := hide hM
      go_wp2_with fail
      refine (begun_any _).mono ?_
      rintro e3 w3 ⟨rfl, hb3⟩
      have Q3 := hide ((hb3.block _ (lt_of_heap Q2.out)).trans Q2.out)
      have HB3 := hide (HB.out.trans (hb3.mono HB.out.size))
      clear hb3
      go_wp2_with fail
      refine (keys_any _).mono ?_
      rintro e4 w4 ⟨rfl, hb4⟩
      have Q4 := hide ((hb4.block _ (lt_of_heap Q3.out)).trans Q3.out)
      have HB4 := hide (HB3.out.trans (hb4.mono HB3.out.size))
      clear hb4
      obtain ⟨BW, hBW⟩ : ∃ x, Hid (begunW = x) := ⟨_, hide rfl⟩
      obtain ⟨KW, hKW⟩ : ∃ x, Hid (keysW = x) := ⟨_, hide rfl⟩
      rw [hBW.out, hKW.out]
      go_wp2_with fail
      have zd : w.heap.size < w4.heap.size := lt_of_heap Q4.out
      have A1 := heap_one w4 (.cells (wsv (Ws.zero 8)) 105) (.cells (wsv (Ws.zero 64)) 107)
      have A2 := heap_two w4 (.cells (wsv (Ws.zero 8)) 105) (.cells (wsv (Ws.zero 64)) 107)
      have B1 := setRow_heap _ w4.heap.size _ (wsv BW) _ _ A1
      have B2 := setRow_heap _ (w4.heap.size + 1) _ (wsv KW) _ _ ((setRow_other ((w4.alloc (.cells (wsv (Ws.zero 8)) 105)).alloc (.cells (wsv (Ws.zero 64)) 107)) w4.heap.size (w4.heap.size + 1) (wsv BW) (by omega)).trans A2)
      have RS := hide ((setRow_other _ (w4.heap.size + 1) w4.heap.size (wsv KW) (by omega)).trans B1)
      have RK := hide B2
      have RD := hide (show ((((w4.alloc (.cells (wsv (Ws.zero 8)) 105)).alloc (.cells (wsv (Ws.zero 64)) 107)).setRow w4.heap.size (wsv BW)).setRow (w4.heap.size + 1) (wsv KW)).heap[w.heap.size]? = some (.cells (dgst dig0) 24 (0, 0)) by
        rw [setRow_other _ _ _ _ (by omega), setRow_other _ _ _ _ (by omega), heap_alloc_old _ _ (by simp; omega), heap_alloc_old _ _ zd]; exact Q4.out)
      have HBZ := hide (below_setRow (below_setRow ((HB4.out.alloc (by omega) (.cells (wsv (Ws.zero 8)) 105)).alloc (by simp; omega) (.cells (wsv (Ws.zero 64)) 107)) (g := w4.heap.size) (by omega) (wsv BW)) (g := w4.heap.size + 1) (by omega) (wsv KW))
      clear A1 A2 B1 B2
      obtain ⟨Z, hZ⟩ : ∃ Z, ((((w4.alloc (.cells (wsv (Ws.zero 8)) 105)).alloc (.cells (wsv (Ws.zero 64)) 107)).setRow w4.heap.size (wsv BW)).setRow (w4.heap.size + 1) (wsv KW)) = Z := ⟨_, rfl⟩
      rw [hZ] at RS RK RD HBZ ⊢
      clear hZ Q4 HB4 Q3 HB3 Q2 HB
      obtain ⟨g, hg⟩ : ∃ g, w4.heap.size = g := ⟨_, rfl⟩
      rw [hg] at RS RK zd ⊢
      clear hg hM hPm
      go_loopw [3] (fun s wr => ∃ m : Nat, m ≤ M ∧ s = .string ⟨(P.drop (64 * m)).toArray⟩ ∧ (∃ x : Ws 8, Hid (x = blocksTo P m) ∧ wr.heap[g]? = some (.cells (wsv x) 105 (0, 0))) ∧ wr.heap[g + 1]? = some (.cells (wsv KW) 107 (0, 0)) ∧ wr.heap[w.heap.size]? = some (.cells (dgst dig0) 24 (0, 0)) ∧ Below w.heap.size w wr) (fun s _ => match s with | .string b => b.size | _ => 0)
      case atStart => exact ⟨0, by omega, by simp, ⟨BW, hide hBW.out.symm, RS.out⟩, RK.out, RD.out, HBZ.out⟩
      case round =>
        obtain ⟨m, hmM, rfl, ⟨x, hx, hrs⟩, hrk, hrd, hbl⟩ := hrel
        clear RS RK RD HBZ
        have RS := hide hrs
        have RK := hide hrk
        have RD := hide hrd
        have HB := hide hbl
        clear hrs hrk hrd hbl
        obtain ⟨Tm, hTm⟩ : ∃ T, Hid (P.drop (64 * m) = T) := ⟨_, hide rfl⟩
        have hTl : Tm.length = 64 * M - 64 * m := by rw [← hTm.out, List.length_drop, HM.out]
        have hts := size_str Tm
        rw [hTm.out]
        by_cases hlt : m < M
        · have h64 : 64 ≤ Tm.length := by omega
          have hf := slice_front Tm 64
          have hbk := slice_back Tm 64
          obtain ⟨F, hF⟩ : ∃ F, Hid (Tm.take 64 = F) := ⟨_, hide rfl⟩
          have hFl : F.length = 64 := by rw [← hF.out, List.length_take]; omega
          have HFL := hide hFl
          obtain ⟨T2, hT2⟩ : ∃ T, Hid (Tm.drop 64 = T) := ⟨_, hide rfl⟩
          rw [hF.out] at hf
          rw [hT2.out] at hbk
          have hT2e := hide (show P.drop (64 * (m + 1)) = T2 by rw [← hT2.out, ← hTm.out, List.drop_drop]; congr 1)
          have hE : Tm.isEmpty = false := by
            cases Tm with
            | nil => simp at h64
            | cons a l => rfl
          have hE2 := emp_false ⟨Tm.toArray⟩ (by rw [hts]; omega)
          have hc64 : (64 : Int) ≤ (Tm.length : Int) := by omega
          have rcs := rowCells_of RS.out
          have zg : g < wr.heap.size := lt_of_heap RS.out
          obtain ⟨a1, a2, a3, a4, a5, a6, a7, a8, hxl⟩ := eight x.l x.len
          have hx8 := hide (show x = ⟨[a1, a2, a3, a4, a5, a6, a7, a8], rfl⟩ from ws_ext hxl)
          have d0 := wcell RS.out 0 a1 (by rw [hxl]; rfl)
          have d1 := wcell RS.out 1 a2 (by rw [hxl]; rfl)
          have d2 := wcell RS.out 2 a3 (by rw [hxl]; rfl)
          have d3 := wcell RS.out 3 a4 (by rw [hxl]; rfl)
          have d4 := wcell RS.out 4 a5 (by rw [hxl]; rfl)
          have d5 := wcell RS.out 5 a6 (by rw [hxl]; rfl)
          have d6 := wcell RS.out 6 a7 (by rw [hxl]; rfl)
          have d7 := wcell RS.out 7 a8 (by rw [hxl]; rfl)
          have NX := hide (fun (w' : World) (h : w'.heap[g + 1]? = some (.cells (wsv KW) 107 (0, 0))) => (show Calls Try.prog 60 #[.agg #[.int .u32 (a1.toNat : Int), .int .u32 (a2.toNat : Int), .int .u32 (a3.toNat : Int), .int .u32 (a4.toNat : Int), .int .u32 (a5.toNat : Int), .int .u32 (a6.toNat : Int), .int .u32 (a7.toNat : Int), .int .u32 (a8.toNat : Int)], .pointer (some ⟨g + 1, 0, none⟩), .string ⟨F.toArray⟩] w' fun e w'' => e = .returned (.agg (wsv (nextW x KW F))) ∧ Below w'.heap.size w' w'' by
            rw [hx8.out]; exact next_any _ (g + 1) KW F HFL.out w' h))
          clear hxl
          clear hTl hFl
          go_wp2_with fail
          refine wp_region_after_tail 4 (by kernel_rfl) (by kernel_rfl) ?_
          simp only [List.take_succ_cons, List.take_zero, List.drop_succ_cons, List.drop_zero]
          repeat go_big_quiet_step (first | (go_at_call 60; exact Calls.quiet_after (NX.out _ (((After.below _).block _ (lt_of_heap RK.out)).trans RK.out))))
          refine wpQuiet_nil ?_
          intro xw
          have hbx := xw.below
          have VS := hide ((hbx.block _ (lt_of_heap RS.out)).trans RS.out)
          have VK := hide ((hbx.block _ (lt_of_heap RK.out)).trans RK.out)
          have VD := hide ((hbx.block _ (lt_of_heap RD.out)).trans RD.out)
          have VB := hide (HB.out.trans (hbx.mono HB.out.size))
          obtain ⟨V, hV⟩ : ∃ V, xw.world = V := ⟨_, rfl⟩
          rw [hV] at VS VK VD VB ⊢
          have rk0 := rowOk_of 8 VS.out
          rw [wsv_size] at rk0
          have rk1 : V.rowOk g 8 = true := by rw [rk0]; rfl
          clear rk0 hbx d0 d1 d2 d3 d4 d5 d6 d7
          have HN := hide (show nextW x KW F = blocksTo P (m + 1) by rw [blocksTo, ← hx.out, hKW.out, hTm.out, hF.out])
          go_wp2_with fail
          go_roundw
          case rel =>
            have n1 : g + 1 ≠ g := by omega
            have n2 : w.heap.size ≠ g := by omega
            refine ⟨m + 1, by omega, by rw [hT2e.out], ⟨nextW x KW F, HN, setRow_heap V g _ _ _ _ VS.out⟩, (setRow_other _ _ _ _ n1).trans VK.out, (setRow_other _ _ _ _ n2).trans VD.out, below_setRow VB.out (by omega) _⟩
          case measure =>
            show (⟨T2.toArray⟩ : ByteArray).size < (⟨Tm.toArray⟩ : ByteArray).size
            rw [size_str, size_str, ← hT2.out, List.length_drop]; omega
        · have hm0 : m = M := by omega
          have hT0 : Tm = [] := List.eq_nil_of_length_eq_zero (by omega)
          have hE2 := emp_true ⟨([] : List UInt8).toArray⟩ rfl
          have hxx := hide (show digOfW x = shaOf t by
            unfold shaOf
            rw [hPP.out, hx.out, hm0]
            congr 2; have := HM.out; omega)
          subst hT0
          clear hTl hm0
          go_wp2_with fail
          obtain ⟨hh, hhd⟩ : ∃ hh, wr.heap.size = hh := ⟨_, rfl⟩
          have zg : g < wr.heap.size := lt_of_heap RS.out
          have zw : w.heap.size < wr.heap.size := lt_of_heap RD.out
          have D0 := hide (heap_alloc_new wr (.cells (dgst dig0) 24))
          have S0 := hide ((heap_alloc_old wr (.cells (dgst dig0) 24) zg).trans RS.out)
          have E0 := hide ((heap_alloc_old wr (.cells (dgst dig0) 24) zw).trans RD.out)
          have B0 := hide (HB.out.alloc HB.out.size (.cells (dgst dig0) 24))
          rw [hhd] at D0 zg zw ⊢
          go_loopw [48] (fun i wi => ∃ n : Nat, n ≤ 32 ∧ i = .int .i64 n ∧ (∃ d : Dig, Hid (d.bytes = digTo x.l n) ∧ wi.heap[hh]? = some (.cells (dgst d) 24 (0, 0))) ∧ wi.heap[g]? = some (.cells (wsv x) 105 (0, 0)) ∧ wi.heap[w.heap.size]? = some (.cells (dgst dig0) 24 (0, 0)) ∧ Below w.heap.size w wi) (fun i _ => 32 - (intOf i).toNat)
          case atStart => exact ⟨0, by omega, rfl, ⟨dig0, hide rfl, D0.out⟩, S0.out, E0.out, B0.out⟩
          case round =>
            obtain ⟨n, hn, rfl, ⟨d, hd, hr0⟩, hrs, hre, hbl⟩ := hrel
            clear D0 S0 E0 B0 RS RK RD HB
            have D0 := hide hr0
            have S0 := hide hrs
            have E0 := hide hre
            have B0 := hide hbl
            clear hr0 hrs hre hbl
            by_cases hn32 : n < 32
            · have hni : (n : Int) < 32 := by omega
              obtain ⟨q, hq⟩ : ∃ q, n / 4 = q := ⟨_, rfl⟩
              obtain ⟨r, hr⟩ : ∃ r, 24 - 8 * (n % 4) = r := ⟨_, rfl⟩
              have hq8 : q < 8 := by omega
              have hqi : (n : Int) / 4 = (q : Int) := by omega
              have hri : (24 : Int) - 8 * ((n : Int) % 4) = (r : Int) := by omega
              obtain ⟨y, hy⟩ : ∃ y, Hid (x.l.getD q 0 = y) := ⟨_, hide rfl⟩
              have hcell := wcell S0.out q y (by rw [← hy.out, List.getD_eq_getElem?_getD, List.getElem?_eq_getElem (by rw [x.len]; exact hq8)]; rfl)
              have hsh := shr_nat y r
              have hfz := frozen_of_row wr hh n _ _ D0.out
              have hdst := cell_dgst (rowCells_of D0.out) n hn32
              have HBY := hide (show digByte x.l n = UInt8.ofNat (y.toNat / 2 ^ r) by unfold digByte; rw [hq, hr, hy.out])
              have hrr : (r : Int) ≤ 24 := by omega
              have hr0 : (0 : Int) ≤ (r : Int) := by omega
              have hq0 : (q : Int) < 8 := by omega
              clear hq hr
              go_wp2_with fail
              go_roundw
              case rel =>
                have HV : (y.toNat : Int) / 2 ^ r % 256 = ((digByte x.l n).toNat : Int) := by
                  rw [HBY.out, UInt8.toNat_ofNat', Int.natCast_emod, Int.natCast_ediv, Int.natCast_pow]; rfl
                rw [HV]
                have n1 : g ≠ hh := by omega
                have n2 : w.heap.size ≠ hh := by omega
                refine ⟨n + 1, by omega, by go_num, ⟨d.set n (digByte x.l n), hide ?_, row_set D0.out n _⟩, (heap_setCell_other _ _ _ _ n1).trans S0.out, (heap_setCell_other _ _ _ _ n2).trans E0.out, B0.out.setCell (by show w.heap.size ≤ hh; omega) _⟩
                show d.bytes.set n _ = _
                rw [hd.out]
                exact digTo_set x.l n hn32
              case measure => simp [intOf]; omega
            · have hn0 : n = 32 := by omega
              rw [hn0] at hd
              have hdd := hide (show dgst d = dgst (shaOf t) by
                rw [← hxx.out]
                congr 1
                have e : d.bytes = (digOfW x).bytes := hd.out
                cases d
                simp only at e
                subst e
                rfl)
              have hni : ¬ (n : Int) < 32 := by omega
              have y0 : hh < wr.heap.size := lt_of_heap D0.out
              have y1 : w.heap.size < wr.heap.size := lt_of_heap E0.out
              have rcd := rowCells_of D0.out
              have rk0 := rowOk_of 32 E0.out
              rw [dgst_size] at rk0
              have rk1 : wr.rowOk w.heap.size 32 = true := by rw [rk0]; rfl
              clear rk0 hd hn0 hn32 hn
              go_wp2_with fail
              refine ret_dig rfl w.heap.size d rfl (rowCells_setRow_same _ rk1) rfl ⟨?_, below_setRow B0.out (Nat.le_refl _) _⟩
              rw [hdd.out]
end Go.Proofs.Ytjmbnfcjambdkaa
