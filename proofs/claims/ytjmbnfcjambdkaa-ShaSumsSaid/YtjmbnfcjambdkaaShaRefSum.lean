/- parterreref01.Sum: the document's sum is the code's. -/
import Derived.Test.YtjmbnfcjambdkaaShaRotr
import Derived.Test.YtjmbnfcjambdkaaShaOnto
import Derived.Test.YtjmbnfcjambdkaaTail
import Derived.Test.YtjmbnfcjambdkaaDig
namespace Go.Proofs.Ytjmbnfcjambdkaa
open Go.RowKit
/-- Behind w: nothing that was there is changed but the block H. -/
theorem gb_set {w w' : World} {H : Nat} (h : w.grownBy w' (some H)) (b o : Nat) (v : Value) (hb : w.heap.size ≤ b ∨ b = H) : w.grownBy (w'.setCell ⟨b, o, none⟩ v) (some H) :=
  ⟨h.os, h.tape, h.output, by simpa using h.size, fun k hk hn => by
    rw [heap_setCell_other _ _ _ _ (by show k ≠ b; intro e; subst e; rcases hb with hb | hb; omega; exact hn (by rw [hb]))]
    exact h.block k hk hn⟩
theorem gb_alloc {w w' : World} {H : Nat} (h : w.grownBy w' (some H)) (o : Obj) : w.grownBy (w'.alloc o) (some H) :=
  ⟨h.os, h.tape, h.output, by have := h.size; simp; omega, fun k hk hn => by rw [heap_alloc_old _ _ (by have := h.size; omega)]; exact h.block k hk hn⟩
theorem gb_drewN {w w' : World} {H : Nat} (h : w.grownBy w' (some H)) (n : Nat) : w.grownBy (w'.drewN n) (some H) := ⟨h.os, h.tape, h.output, h.size, h.block⟩
theorem gb_below {w w' w'' : World} {H : Nat} (h : w.grownBy w' (some H)) (hb : Below w'.heap.size w' w'') : w.grownBy w'' (some H) :=
  ⟨hb.os.trans h.os, hb.tape.trans h.tape, hb.output.trans h.output, Nat.le_trans h.size hb.size, fun k hk hn => (hb.block k (by have := h.size; omega)).trans (h.block k hk hn)⟩
theorem gb_refl (w : World) (H : Nat) : w.grownBy w (some H) := ⟨rfl, rfl, rfl, Nat.le_refl _, fun _ _ _ => rfl⟩
/-- The text, the one, and so many noughts. -/
def padTo (t : List UInt8) (j : Nat) : List UInt8 := t ++ ([128] ++ List.replicate j 0)
theorem padTo_length (t : List UInt8) (j : Nat) : (padTo t j).length = t.length + 1 + j := by simp [padTo]; omega
theorem padTo_next (t : List UInt8) (j : Nat) : padTo t (j + 1) = padTo t j ++ [0] := by
  simp [padTo, List.replicate_succ']
theorem u8s_append (a b : List UInt8) : u8s (a ++ b) = u8s a ++ u8s b := by simp [u8s]
theorem Onto.shape {w : World} {B n : Nat} {v : Value} {xs : List Value} (h : Onto w B v xs) (hn : xs.length = n) : ∃ g c, v = .slice (some ⟨g, 0, none⟩) n c ∧ B ≤ g ∧ g < w.heap.size := by
  obtain ⟨g, c, h1, h2, h3, _⟩ := h
  subst hn
  exact ⟨g, c, h1, h2, h3⟩
def slLen : Value → Nat
  | .slice _ n _ => n
  | _ => 0
theorem run_mkw (w : World) : (Instr.makeSlice 114 (.int .i64 64) (.int .i64 64)).run Try.prog w = .ok (.slice (some ⟨w.heap.size, 0, none⟩) 64 64) (w.alloc (.cells (wsv (Ws.zero 64)) 83)) := by kernel_rfl
theorem info_u8 : (Try.prog.info? 5).map (fun i => (i.zero, i.size, i.bytes)) = some (some (.int .u8 0), 1, 1) := by kernel_rfl
set_option maxRecDepth 100000 in
set_option maxHeartbeats 200000000 in
theorem refSum_any (t : List UInt8) (w : World) (hl : t.length ≤ 1000000) :
    Calls Try.prog 25 #[.string ⟨t.toArray⟩] w fun e w' => e = .returned (.agg (dgst (shaOf t))) ∧ Below w.heap.size w w' := by
  obtain ⟨i0, hi, hz0, hz1, hz2⟩ := info_parts info_u8
  have HI := hide hi
  have Hz0 := hide hz0
  have Hz1 := hide hz1
  have Hz2 := hide hz2
  clear hi hz0 hz1 hz2
  have htl : (⟨t.toArray⟩ : ByteArray).size = t.length := size_str t
  obtain ⟨K, hK⟩ : ∃ K, Hid (padN t.length = K) := ⟨_, hide rfl⟩
  have hK64 : K < 64 := by rw [← hK.out]; unfold padN; omega
  have A0 := heap_alloc_new w (.cells (dgst dig0) 24)
  have hB0 := (Below.refl _ w).alloc (Nat.le_refl _) (.cells (dgst dig0) 24)
  obtain ⟨vb, wb, hcv, hon, hbb⟩ := run_tobytes_onto (w.alloc (.cells (dgst dig0) 24)) t (by omega)
  have hzb := hbb.size
  rw [World.size_alloc] at hon hzb
  have HON := hide hon
  have R0 := hide ((hbb.block w.heap.size (by simp)).trans A0)
  have HB0 := hide (hB0.trans (hbb.mono (by simp)))
  clear A0 hB0 hbb
  obtain ⟨gb, cb, rfl, hgb, _⟩ := hon.shape (u8s_length t)
  clear hon
  have ht8 : (t.length : Int) * 8 ≤ 1000000000 := by omega
  obtain ⟨n8, hn8⟩ : ∃ n, Hid (t.length * 8 = n) := ⟨_, hide rfl⟩
  have hnn : (t.length : Int) * 8 = (n8 : Int) := by rw [← hn8.out]; omega
  have hn8l : n8 ≤ 1000000000 := by omega
  go_enter Try.func25, Try.ntmps25
  go_wp2_with (at_builtin; refine wpList_onto _ rfl _ _ 94 rfl 5 i0 (.int .u8 0) Try.underlying94 HI.out Hz0.out Hz1.out Hz2.out rfl (w.heap.size + 1) _ (u8s t) rfl (HON.out.below ((Below.refl _ _).alloc (Nat.le_refl _) _)) _ 1 (.int .u8 128) rfl (by rw [cell_of_row _ _ 0 _ _ _ (heap_alloc_new wb _)]; rfl) rfl (by rw [u8s_length]; omega) ?_; intro v2 w2 hon2 hb2)
  have HON2 := hide (show Onto w2 (w.heap.size + 1) v2 (u8s (padTo t 0)) from by rw [padTo, u8s_append]; exact hon2)
  have R2 := hide ((hb2.block w.heap.size (by omega)).trans ((heap_alloc_old _ _ (lt_of_heap R0.out)).trans R0.out))
  have HB2 := hide ((HB0.out.alloc (by omega) _).trans (hb2.mono (by omega)))
  clear hon2 hb2 R0 HB0 HON
  go_loopw [3] (fun v wr => ∃ j : Nat, j ≤ K ∧ Onto wr (w.heap.size + 1) v (u8s (padTo t j)) ∧ wr.heap[w.heap.size]? = some (.cells (dgst dig0) 24 (0, 0)) ∧ Below w.heap.size w wr) (fun v _ => t.length + 1 + K - slLen v)
  case atStart => exact ⟨0, by omega, HON2.out, R2.out, HB2.out⟩
  case round =>
    obtain ⟨j, hj, hon, hr, hb⟩ := hrel
    clear HON2 R2 HB2
    obtain ⟨g, c, rfl, hg, hgs⟩ := hon.shape ((u8s_length _).trans (padTo_length t j))
    have HON := hide hon
    have R := hide hr
    have HB := hide hb
    clear hon hr hb
    obtain ⟨n, hn⟩ : ∃ n, t.length + 1 + j = n := ⟨_, rfl⟩
    have hpm := pad_more t.length j (by rw [hK.out]; exact hj)
    rw [hK.out, hn] at hpm
    rw [hn] at HON ⊢
    by_cases h56 : n % 64 = 56
    · have h56i : (n : Int) % 64 = 56 := by omega
      have hjK : j = K := hpm.1 h56
      subst hjK
      clear hpm
      have HN := hide hn
      clear hn
      go_wp2_with fail
      clear h56i h56
      go_loopw [5, 3] (fun i v wi => ∃ k : Nat, k ≤ 8 ∧ i = .int .i64 (7 - (k : Int)) ∧ Onto wi (w.heap.size + 1) v (u8s (padTo t j ++ (be 8 n8).take k)) ∧ wi.heap[w.heap.size]? = some (.cells (dgst dig0) 24 (0, 0)) ∧ Below w.heap.size w wi) (fun i _ _ => (intOf i + 1).toNat)
      case atStart => exact ⟨0, by omega, rfl, by simpa using HON.out, R.out, HB.out⟩
      case round =>
        obtain ⟨k, hk, rfl, hon, hr, hb⟩ := hrel
        clear HON R HB
        have hlen : (padTo t j ++ (be 8 n8).take k).length = n + k := by rw [List.length_append, padTo_length, HN.out, List.length_take, be_length]; omega
        obtain ⟨g, c, rfl, hg, hgs⟩ := hon.shape ((u8s_length _).trans hlen)
        have HON := hide hon
        have R := hide hr
        have HB := hide hb
        have HLEN := hide hlen
        have hnl : n ≤ 1000100 := by have := HN.out; omega
        clear hon hr hb hlen
        by_cases hlt : k < 8
        · as_aux_lemma =>
            obtain ⟨q, hq⟩ : ∃ q, 7 - k = q := ⟨_, rfl⟩
            have hqi : (7 : Int) - (k : Int) = (q : Int) := by omega
            have hq8 : (q : Int) ≤ 7 := by omega
            obtain ⟨m, hm⟩ : ∃ m, Hid (n8 / 256 ^ q = m) := ⟨_, hide rfl⟩
            obtain ⟨x, hx⟩ : ∃ x, Hid (x = UInt8.ofNat m) := ⟨_, hide rfl⟩
            have hxm : (m : Int) % 256 = (x.toNat : Int) := by rw [hx.out, UInt8.toNat_ofNat', Int.natCast_emod]; rfl
            have hsh : (n8 : Int) / 2 ^ (8 * q) = (m : Int) := by
              rw [← hm.out, Int.natCast_ediv, Int.natCast_pow, show (((256 : Nat)) : Int) = (2 : Int) ^ 8 from rfl, ← Int.pow_mul]
            have htk : (be 8 n8).take (k + 1) = (be 8 n8).take k ++ [x] := by
              have h1 : k < (be 8 n8).length := by rw [be_length]; exact hlt
              rw [List.take_succ_eq_append_getElem h1]
              have h2 := be_get 8 n8 k hlt
              rw [List.getElem?_eq_getElem h1, Option.some.injEq] at h2
              rw [h2, hx.out, ← hm.out, show 8 - 1 - k = q by omega]
            have HTK := hide htk
            have hql : (0 : Int) ≤ (q : Int) := by omega
            have hm0 : (0 : Int) ≤ (m : Int) := by omega
            have hzr := HB.out.size
            rw [hqi]
            have HQ := hide hq
            clear htk hq hqi
            go_wp2_with (at_builtin; refine wpList_onto _ rfl _ _ 94 rfl 5 i0 (.int .u8 0) Try.underlying94 HI.out Hz0.out Hz1.out Hz2.out rfl (w.heap.size + 1) _ (u8s (padTo t j ++ (be 8 n8).take k)) rfl (HON.out.below ((Below.refl _ _).alloc (Nat.le_refl _) _)) _ 1 (.int .u8 (x.toNat : Int)) rfl (by rw [cell_of_row _ _ 0 _ _ _ (heap_alloc_new wr _)]; rfl) rfl (by rw [u8s_length, HLEN.out]; omega) ?_; intro v2 w2 hon2 hb2)
            go_roundw
            case rel =>
              refine ⟨k + 1, by omega, by have := HQ.out; congr 1; omega, by rw [HTK.out, ← List.append_assoc, u8s_append]; exact hon2, (hb2.block w.heap.size (by omega)).trans ((heap_alloc_old _ _ (lt_of_heap R.out)).trans R.out), (HB.out.alloc (by omega) _).trans (hb2.mono (by omega))⟩
            case measure => first | (simp [intOf]; done) | (have := HQ.out; simp [intOf]; omega)
        · have hk8 : k = 8 := by omega
          subst hk8
          have hP : padTo t j ++ (be 8 n8).take 8 = padded t := by rw [List.take_of_length_le (by rw [be_length]; omega), ← hn8.out, ← hK.out]; rfl
          rw [hP] at HON HLEN
          have hPm := padded_length t
          obtain ⟨P, hPP⟩ : ∃ P, Hid (padded t = P) := ⟨_, hide rfl⟩
          rw [hPP.out] at HON HLEN hPm
          obtain ⟨M, hM⟩ : ∃ M, P.length = 64 * M := ⟨P.length / 64, by omega⟩
          have HM := hide hM
          have hPn := HLEN.out
          have hP8 : P.length ≤ 1000200 := by omega
          rw [← hPn] at HON ⊢
          clear hPn HLEN hP hM hPm hnl
          go_wp2_with fail
          refine (k_any _).mono ?_
          rintro e3 w3 ⟨gk, rfl, hgk, hk3, hb3⟩
          have RH := hide ((hb3.block wr.heap.size (by simp)).trans (show _ = some (.cells (wsv begunW) 83 (0, 0)) by rw [wsv, begun_hL]; exact heap_alloc_new wr _))
          have RK := hide hk3
          have hb4 := ((Below.refl wr.heap.size wr).alloc (Nat.le_refl _) _).trans (hb3.mono (by simp))
          have rb := (HON.out.below hb4).reads
          rw [u8s_length] at rb
          have RB := hide rb
          clear rb
          have R3 := hide ((hb4.block _ (lt_of_heap R.out)).trans R.out)
          have HB3 := hide (HB.out.trans (hb4.mono HB.out.size))
          rw [World.size_alloc] at hgk
          clear hb3 hb4 hk3 HON R HB
          obtain ⟨H, hH⟩ : ∃ H, wr.heap.size = H := ⟨_, rfl⟩
          have zH : H < w3.heap.size := hH ▸ lt_of_heap RH.out
          rw [hH] at RH hgk hgs ⊢
          clear hH
          obtain ⟨KW, hKW⟩ : ∃ x, Hid (keysW = x) := ⟨_, hide rfl⟩
          rw [hKW.out] at RK
          have zK : gk < w3.heap.size := lt_of_heap RK.out
          have ngH2 : g ≠ H := by omega
          have nkH2 : gk ≠ H := by omega
          have nwH2 : w.heap.size ≠ H := by omega
          go_wp2_with fail
          go_loopw [8] (fun at_ wo => ∃ m : Nat, m ≤ M ∧ at_ = .int .i64 ((64 * m : Nat) : Int) ∧ (∃ x : Ws 8, Hid (x = blocksTo P m) ∧ wo.heap[H]? = some (.cells (wsv x) 83 (0, 0))) ∧ w3.grownBy wo (some H)) (fun at_ _ => P.length - (intOf at_).toNat)
          case atStart => exact ⟨0, by omega, rfl, ⟨begunW, hide rfl, RH.out⟩, gb_refl w3 H⟩
          case round =>
            obtain ⟨m, hmM, rfl, ⟨x, hx, hrh⟩, hgb⟩ := hrel
            have HH := hide hrh
            have HG := hide hgb
            have hgz := hgb.size
            clear RH hrh hgb
            have hm64 : ((64 * m : Nat) : Int) = 64 * (m : Int) := by omega
            by_cases hlt : m < M
            · have hlti : 64 * (m : Int) < (P.length : Int) := by have := HM.out; omega
              obtain ⟨F, hF⟩ : ∃ F, Hid ((P.drop (64 * m)).take 64 = F) := ⟨_, hide rfl⟩
              have hP64 : 64 * m + 64 ≤ P.length := by have := HM.out; omega
              have hFl : F.length = 64 := by rw [← hF.out, List.length_take, List.length_drop]; omega
              have hmk := run_mkw wr
              rw [hm64]
              go_wp2_with fail
              clear hmk
              have W0 := hide (heap_alloc_new wr (.cells (wsv (Ws.zero 64)) 83))
              have HG1 := hide (gb_alloc HG.out (.cells (wsv (Ws.zero 64)) 83))
              have HH1 := hide ((heap_alloc_old wr (.cells (wsv (Ws.zero 64)) 83) (lt_of_heap HH.out)).trans HH.out)
              have zG : H < wr.heap.size := lt_of_heap HH.out
              obtain ⟨G, hG⟩ : ∃ G, wr.heap.size = G := ⟨_, rfl⟩
              rw [hG] at W0 zG hgz ⊢
              clear hG HG HH
              have nGH : H ≠ G := by omega
              have ngG : ¬ g = G := by omega
              go_loopw [10] (fun i wr => ∃ i' : Nat, i' ≤ 16 ∧ i = .int .i64 i' ∧ (∃ y : Ws 64, Hid (y.l = fill16 F i' 0) ∧ wr.heap[G]? = some (.cells (wsv y) 83 (0, 0))) ∧ wr.heap[H]? = some (.cells (wsv x) 83 (0, 0)) ∧ w3.grownBy wr (some H)) (fun i _ => 16 - (intOf i).toNat)
              case atStart => exact ⟨0, by omega, rfl, ⟨Ws.zero 64, hide rfl, W0.out⟩, HH1.out, HG1.out⟩
              case round =>
                obtain ⟨i, hi16, rfl, ⟨y, hy, hrg⟩, hrh, hgb⟩ := hrel
                have QG := hide hrg
                have HH := hide hrh
                have HG := hide hgb
                clear W0 HG1 HH1 hrg hrh hgb
                by_cases hi : i < 16
                · as_aux_lemma =>
                    have hii : (i : Int) < 16 := by omega
                    have RBi := RB.out.grown HG.out (fun k hk e => by cases hk; exact ngH2 (Option.some.inj e))
                    obtain ⟨b0, b1, b2, b3, hfour, p0, p1, p2, p3⟩ := four_of P m i hP64 hi
                    rw [hF.out] at hfour
                    have u8at : ∀ (j : Nat) (c : UInt8), P[j]? = some c → (u8s P)[j]? = some (.int .u8 ((bw c).toNat : Int)) := fun j c h => by
                      obtain ⟨h1, h2⟩ := List.getElem?_eq_some_iff.1 h
                      rw [u8s_get P j h1, h2, bw_nat]
                    obtain ⟨p, hp⟩ : ∃ p, 64 * m + 4 * i = p := ⟨_, rfl⟩
                    rw [hp] at p0 p1 p2 p3
                    have c0 := RBi.cell0 p _ (u8at _ _ p0)
                    have c1 := RBi.cell0 (p + 1) _ (u8at _ _ p1)
                    have c2 := RBi.cell0 (p + 2) _ (u8at _ _ p2)
                    have c3 := RBi.cell0 (p + 3) _ (u8at _ _ p3)
                    have hb0 : ((bw b0).toNat : Int) ≤ 255 := by rw [bw_nat]; have := b0.toNat_lt; omega
                    have hb1 : ((bw b1).toNat : Int) ≤ 255 := by rw [bw_nat]; have := b1.toNat_lt; omega
                    have hb2 : ((bw b2).toNat : Int) ≤ 255 := by rw [bw_nat]; have := b2.toNat_lt; omega
                    have hb3 : ((bw b3).toNat : Int) ≤ 255 := by rw [bw_nat]; have := b3.toNat_lt; omega
                    have HW := hide (wordOf_four b0 b1 b2 b3)
                    rw [← hfour] at HW
                    obtain ⟨x0, hx0⟩ : ∃ z, Hid (bw b0 = z) := ⟨_, hide rfl⟩
                    obtain ⟨x1, hx1⟩ : ∃ z, Hid (bw b1 = z) := ⟨_, hide rfl⟩
                    obtain ⟨x2, hx2⟩ : ∃ z, Hid (bw b2 = z) := ⟨_, hide rfl⟩
                    obtain ⟨x3, hx3⟩ : ∃ z, Hid (bw b3 = z) := ⟨_, hide rfl⟩
                    rw [hx0.out] at c0 hb0 HW
                    rw [hx1.out] at c1 hb1 HW
                    rw [hx2.out] at c2 hb2 HW
                    rw [hx3.out] at c3 hb3 HW
                    have s24 := (shl_nat x0 24).symm
                    have s16 := (shl_nat x1 16).symm
                    have s8 := (shl_nat x2 8).symm
                    simp only [Int.reducePow] at s24 s16 s8
                    have s24 : (x0.toNat : Int) * 16777216 = ((shl x0 24).toNat : Int) := by rw [← s24]; omega
                    have s16 : (x1.toNat : Int) * 65536 = ((shl x1 16).toNat : Int) := by rw [← s16]; omega
                    have s8 : (x2.toNat : Int) * 256 = ((shl x2 8).toNat : Int) := by rw [← s8]; omega
                    have hpi : 64 * (m : Int) + 4 * (i : Int) = (p : Int) := by omega
                    have hpl : (p : Int) + 3 < (P.length : Int) := by omega
                    have hpl0 : (p : Int) < (P.length : Int) := by omega
                    have hpl1 : (p : Int) + 1 < (P.length : Int) := by omega
                    have hpl2 : (p : Int) + 2 < (P.length : Int) := by omega
                    have hp0 : (0 : Int) ≤ (p : Int) := by omega
                    have t1 : ((p : Int) + 1).toNat = p + 1 := by omega
                    have t2 : ((p : Int) + 2).toNat = p + 2 := by omega
                    have t3 : ((p : Int) + 3).toNat = p + 3 := by omega
                    have hp8 : (P.length : Int) ≤ 1000200 := by omega
                    have hst0 := wcell QG.out i _ (show y.l[i]? = some (y.l.getD i 0) by rw [List.getD_eq_getElem?_getD, List.getElem?_eq_getElem (by rw [y.len]; omega)]; rfl)
                    have HFP := hide (fill16_put F i (by omega) (by rw [hfour]; rfl))
                    clear u8at p0 p1 p2 p3 hp hfour RBi hst0 hlti
                    go_wp2_with fail
                    refine wp_region_after_tail 44 (by as_aux_lemma => kernel_rfl) (by as_aux_lemma => kernel_rfl) ?_
                    simp only [List.take_succ_cons, List.take_zero, List.drop_succ_cons, List.drop_zero]
                    repeat go_big_quiet_step (fail)
                    refine wpQuiet_nil ?_
                    intro xw
                    have hbx := xw.below
                    have P2 := hide ((hbx.block _ (lt_of_heap QG.out)).trans QG.out)
                    have P3 := hide ((hbx.block _ (lt_of_heap HH.out)).trans HH.out)
                    have P4 := hide (gb_below HG.out hbx)
                    obtain ⟨V, hV⟩ : ∃ V, xw.world = V := ⟨_, rfl⟩
                    rw [hV] at P2 P3 P4 ⊢
                    have hst := wcell P2.out i _ (show y.l[i]? = some (y.l.getD i 0) by rw [List.getD_eq_getElem?_getD, List.getElem?_eq_getElem (by rw [y.len]; omega)]; rfl)
                    have hfz2 := frozen_of_row V G i _ _ P2.out
                    clear hbx c0 c1 c2 c3 s24 s16 s8 hpi hpl hpl0 hpl1 hpl2 hp0 t1 t2 t3 hp8
                    go_wp2_with fail
                    go_roundw
                    case rel =>
                      rw [← HW.out]
                      refine ⟨i + 1, by omega, by go_num, ⟨y.set i (wordOf (fourAt F i)), hide ?_, wrow_set P2.out i _⟩, ?_, gb_set P4.out _ _ _ (Or.inl (by omega))⟩
                      · show y.l.set i _ = _
                        rw [hy.out]; exact HFP.out
                      · rw [heap_setCell_other _ _ _ _ (by show H ≠ G; exact nGH)]; exact P3.out
                    case measure => simp [intOf]; omega
                · have hi16e : i = 16 := by omega
                  subst hi16e
                  rw [show ((16 : Nat) : Int) = (16 : Int) from rfl]
                  go_wp2_with fail
                  go_loopw [11] (fun i wi => ∃ j : Nat, j ≤ 48 ∧ i = .int .i64 ((j : Int) + 16) ∧ (∃ y : Ws 64, Hid (y.l = expTo (fill16 F 16 0) j) ∧ wi.heap[G]? = some (.cells (wsv y) 83 (0, 0))) ∧ wi.heap[H]? = some (.cells (wsv x) 83 (0, 0)) ∧ w3.grownBy wi (some H)) (fun i _ => 64 - (intOf i).toNat)
                  case atStart => exact ⟨0, by omega, rfl, ⟨y, hide (by rw [hy.out]; rfl), QG.out⟩, HH.out, HG.out⟩
                  case round =>
                    obtain ⟨j, hj, rfl, ⟨y, hy, hrg⟩, hrh, hgb⟩ := hrel
                    clear QG HH HG
                    have QG := hide hrg
                    have HH := hide hrh
                    have HG := hide hgb
                    clear hrg hrh hgb
                    by_cases hjl : j < 48
                    · as_aux_lemma =>
                        have hjl2 : (j : Int) + 16 < 64 := by omega
                        have hylen := y.len
                        have key : ∀ k, k < 64 → wr.cell? ⟨G, k, none⟩ = some (.int .u32 ((y.l.getD k 0).toNat : Int)) := fun k hk => wcell QG.out k _ (by rw [List.getD_eq_getElem?_getD, List.getElem?_eq_getElem (by omega)]; rfl)
                        have k1 := key (j + 1) (by omega)
                        have k14 := key (j + 14) (by omega)
                        have k0 := key j (by omega)
                        have k9 := key (j + 9) (by omega)
                        have HY := hide (show moreWord (expTo (fill16 F 16 0) j) j = wadd (wadd (wadd (y.l.getD j 0) (sig0 (y.l.getD (j + 1) 0))) (y.l.getD (j + 9) 0)) (sig1 (y.l.getD (j + 14) 0)) by rw [← hy.out]; rfl)
                        obtain ⟨A1, hA1⟩ : ∃ A, Hid (y.l.getD (j + 1) 0 = A) := ⟨_, hide rfl⟩
                        obtain ⟨A14, hA14⟩ : ∃ A, Hid (y.l.getD (j + 14) 0 = A) := ⟨_, hide rfl⟩
                        obtain ⟨A0, hA0⟩ : ∃ A, Hid (y.l.getD j 0 = A) := ⟨_, hide rfl⟩
                        obtain ⟨A9, hA9⟩ : ∃ A, Hid (y.l.getD (j + 9) 0 = A) := ⟨_, hide rfl⟩
                        rw [hA1.out] at k1 HY
                        rw [hA14.out] at k14 HY
                        rw [hA0.out] at k0 HY
                        rw [hA9.out] at k9 HY
                        have w15 : IntKind.i64.wrap ((j : Int) + 16 - 15) = ((j + 1 : Nat) : Int) := (IntWalk.i64_in _ (by omega)).trans (by omega)
                        have w2 : IntKind.i64.wrap ((j : Int) + 16 - 2) = ((j + 14 : Nat) : Int) := (IntWalk.i64_in _ (by omega)).trans (by omega)
                        have sh3 := (shr_nat A1 3).symm
                        have sh10 := (shr_nat A14 10).symm
                        simp only [Int.reducePow] at sh3 sh10
                        have RA := hide (rotr_at A1 7 25 (by decide))
                        have RB1 := hide (rotr_at A1 18 14 (by decide))
                        have RC := hide (rotr_at A14 17 15 (by decide))
                        have RD := hide (rotr_at A14 19 13 (by decide))
                        clear key hylen
                        go_wp2_with fail
                        refine wp_region_quiet_lit (by as_aux_lemma => kernel_rfl) (by as_aux_lemma => kernel_rfl) ?_
                        iterate 5 go_big_quiet_step (fail)
                        go_big_quiet_step ((go_at_call 65; exact quiet_one RA.out _ _))
                        iterate 5 go_big_quiet_step (fail)
                        go_big_quiet_step ((go_at_call 65; exact quiet_one RB1.out _ _))
                        repeat go_big_quiet_step (fail)
                        refine wpQuiet_nil ?_
                        intro _ hw1
                        obtain ⟨nq1, hw2⟩ := hw1
                        subst hw2
                        go_wp2_with fail
                        refine wp_region_quiet_lit (by as_aux_lemma => kernel_rfl) (by as_aux_lemma => kernel_rfl) ?_
                        iterate 5 go_big_quiet_step (fail)
                        go_big_quiet_step ((go_at_call 65; exact quiet_next RC.out _ _ _))
                        iterate 5 go_big_quiet_step (fail)
                        go_big_quiet_step ((go_at_call 65; exact quiet_next RD.out _ _ _))
                        repeat go_big_quiet_step (fail)
                        refine wpQuiet_nil ?_
                        intro _ hw3
                        obtain ⟨nq2, hw4⟩ := hw3
                        subst hw4
                        clear w15 w2 sh3 sh10
                        have hf0 : IntKind.i64.wrap ((j : Int) + 16 - 16) = (j : Int) := (IntWalk.i64_in _ (by omega)).trans (by omega)
                        have hf9 : IntKind.i64.wrap ((j : Int) + 16 - 7) = ((j + 9 : Nat) : Int) := (IntWalk.i64_in _ (by omega)).trans (by omega)
                        have h16 : ((j : Int) + 16).toNat = j + 16 := by omega
                        go_wp2_with fail
                        refine wp_region_after_tail 18 (by as_aux_lemma => kernel_rfl) (by as_aux_lemma => kernel_rfl) ?_
                        simp only [List.take_succ_cons, List.take_zero, List.drop_succ_cons, List.drop_zero]
                        repeat go_big_quiet_step (fail)
                        refine wpQuiet_nil ?_
                        intro xw
                        have hbx := xw.below
                        have P2 := hide (show xw.world.heap[G]? = some (.cells (wsv y) 83 (0, 0)) from (hbx.block _ (lt_of_heap QG.out)).trans QG.out)
                        have P3 := hide (show xw.world.heap[H]? = some (.cells (wsv x) 83 (0, 0)) from (hbx.block _ (lt_of_heap HH.out)).trans HH.out)
                        have P4 := hide (gb_below HG.out (show Below wr.heap.size wr xw.world from ⟨hbx.os, hbx.tape, hbx.output, hbx.size, hbx.block⟩))
                        obtain ⟨V, hV⟩ : ∃ V, xw.world = V := ⟨_, rfl⟩
                        rw [hV] at P2 P3 P4 ⊢
                        have hst := wcell P2.out (j + 16) _ (show y.l[j + 16]? = some (y.l.getD (j + 16) 0) by rw [List.getD_eq_getElem?_getD, List.getElem?_eq_getElem (by rw [y.len]; omega)]; rfl)
                        have hfz2 := frozen_of_row V G (j + 16) _ _ P2.out
                        clear hbx k0 k1 k9 k14 hf0 hf9
                        go_wp2_with fail
                        go_roundw
                        case rel =>
                          refine ⟨j + 1, by omega, by go_num, ⟨y.set (j + 16) (moreWord (expTo (fill16 F 16 0) j) j), hide ?_, ?_⟩, ?_, gb_set P4.out _ _ _ (Or.inl (by omega))⟩
                          · show y.l.set _ _ = _
                            rw [hy.out, expTo]
                          · have := wrow_set P2.out (j + 16) (moreWord (expTo (fill16 F 16 0) j) j)
                            rw [HY.out] at this ⊢
                            exact this
                          · rw [heap_setCell_other _ _ _ _ (by show H ≠ G; exact nGH)]; exact P3.out
                        case measure => simp [intOf]; omega
                    · have hj48 : j = 48 := by omega
                      rw [hj48] at hy
                      have hyl0 : y.l = (spreadW F).l := by rw [spreadW_l, spreadL_eq]; exact hy.out
                      have hyl := hide hyl0
                      have hjl2 : ¬ (j : Int) + 16 < 64 := by omega
                      clear hyl0 hy hj48 hjl hj
                      obtain ⟨a1, a2, a3, a4, a5, a6, a7, a8, hxl⟩ := eight x.l x.len
                      have hx8 := hide hxl
                      have d0 := wcell HH.out 0 a1 (by rw [hxl]; rfl)
                      have d1 := wcell HH.out 1 a2 (by rw [hxl]; rfl)
                      have d2 := wcell HH.out 2 a3 (by rw [hxl]; rfl)
                      have d3 := wcell HH.out 3 a4 (by rw [hxl]; rfl)
                      have d4 := wcell HH.out 4 a5 (by rw [hxl]; rfl)
                      have d5 := wcell HH.out 5 a6 (by rw [hxl]; rfl)
                      have d6 := wcell HH.out 6 a7 (by rw [hxl]; rfl)
                      have d7 := wcell HH.out 7 a8 (by rw [hxl]; rfl)
                      clear hxl
                      go_wp2_with fail
                      refine wp_region_after_tail 24 (by as_aux_lemma => kernel_rfl) (by as_aux_lemma => kernel_rfl) ?_
                      simp only [List.take_succ_cons, List.take_zero, List.drop_succ_cons, List.drop_zero]
                      repeat go_big_quiet_step (fail)
                      refine wpQuiet_nil ?_
                      intro xw
                      have hbx := xw.below
                      have P2 := hide ((hbx.block _ (lt_of_heap QG.out)).trans QG.out)
                      have P3 := hide ((hbx.block _ (lt_of_heap HH.out)).trans HH.out)
                      have P4 := hide (gb_below HG.out hbx)
                      obtain ⟨V, hV⟩ : ∃ V, xw.world = V := ⟨_, rfl⟩
                      rw [hV] at P2 P3 P4 ⊢
                      clear hbx d0 d1 d2 d3 d4 d5 d6 d7 QG HH HG
                      go_wp2_with fail
                      have hVz := P4.out.size
                      have VV := hide (heap_alloc_new V (.cells (wsv (⟨[a1, a2, a3, a4, a5, a6, a7, a8], rfl⟩ : Ws 8)) 83))
                      have QG := hide ((heap_alloc_old V (.cells (wsv (⟨[a1, a2, a3, a4, a5, a6, a7, a8], rfl⟩ : Ws 8)) 83) (lt_of_heap P2.out)).trans P2.out)
                      have HH := hide ((heap_alloc_old V (.cells (wsv (⟨[a1, a2, a3, a4, a5, a6, a7, a8], rfl⟩ : Ws 8)) 83) (lt_of_heap P3.out)).trans P3.out)
                      have HG := hide (gb_alloc P4.out (.cells (wsv (⟨[a1, a2, a3, a4, a5, a6, a7, a8], rfl⟩ : Ws 8)) 83))
                      clear P2 P3 P4
                      go_loopw [14, 15] (fun v i wi => ∃ (j gv : Nat), j ≤ 64 ∧ w3.heap.size ≤ gv ∧ v = .slice (some ⟨gv, 0, none⟩) 8 8 ∧ i = .int .i64 j ∧ (∃ s : Ws 8, Hid (s.l = roundsTo x.l KW.l y.l j) ∧ wi.heap[gv]? = some (.cells (wsv s) 83 (0, 0))) ∧ wi.heap[G]? = some (.cells (wsv y) 83 (0, 0)) ∧ wi.heap[H]? = some (.cells (wsv x) 83 (0, 0)) ∧ w3.grownBy wi (some H)) (fun _ i _ => 64 - (intOf i).toNat)
                      case atStart => exact ⟨0, V.heap.size, by omega, hVz, rfl, rfl, ⟨⟨[a1, a2, a3, a4, a5, a6, a7, a8], rfl⟩, hide (hx8.out).symm, VV.out⟩, QG.out, HH.out, HG.out⟩
                      case round =>
                        obtain ⟨j, gv, hj, hgv, rfl, rfl, ⟨s, hs, hrv⟩, hrg, hrh, hgb⟩ := hrel
                        clear QG HH HG VV
                        have QV := hide hrv
                        have QG := hide hrg
                        have HH := hide hrh
                        have HG := hide hgb
                        clear hrv hrg hrh hgb
                        by_cases hlt2 : j < 64
                        · have hlt2i : (j : Int) < 64 := by omega
                          obtain ⟨a, b', c', d, e, f, gg, i, hsl⟩ := eight s.l s.len
                          have HL := hide hsl
                          have c0 := wcell QV.out 0 a (by rw [hsl]; rfl)
                          have c1 := wcell QV.out 1 b' (by rw [hsl]; rfl)
                          have c2 := wcell QV.out 2 c' (by rw [hsl]; rfl)
                          have c3 := wcell QV.out 3 d (by rw [hsl]; rfl)
                          have c4 := wcell QV.out 4 e (by rw [hsl]; rfl)
                          have c5 := wcell QV.out 5 f (by rw [hsl]; rfl)
                          have c6 := wcell QV.out 6 gg (by rw [hsl]; rfl)
                          have c7 := wcell QV.out 7 i (by rw [hsl]; rfl)
                          clear hsl
                          obtain ⟨kj, hkj⟩ : ∃ z, Hid (KW.l.getD j 0 = z) := ⟨_, hide rfl⟩
                          obtain ⟨wj, hwj⟩ : ∃ z, Hid (y.l.getD j 0 = z) := ⟨_, hide rfl⟩
                          have RKi : wr.heap[gk]? = some (.cells (wsv KW) 83 (0, 0)) := (HG.out.block gk zK (fun e => nkH2 (Option.some.inj e))).trans RK.out
                          have ck := wcell RKi j kj (by rw [← hkj.out, List.getD_eq_getElem?_getD, List.getElem?_eq_getElem (by rw [KW.len]; exact hlt2)]; rfl)
                          have cw := wcell QG.out j wj (by rw [← hwj.out, List.getD_eq_getElem?_getD, List.getElem?_eq_getElem (by rw [y.len]; exact hlt2)]; rfl)
                          have RTE1 := hide (rotr_at e 6 26 (by decide))
                          have RTE2 := hide (rotr_at e 11 21 (by decide))
                          have RTE3 := hide (rotr_at e 25 7 (by decide))
                          have RTA1 := hide (rotr_at a 2 30 (by decide))
                          have RTA2 := hide (rotr_at a 13 19 (by decide))
                          have RTA3 := hide (rotr_at a 22 10 (by decide))
                          have ws1 := w_sub e
                          obtain ⟨X, hX⟩ : ∃ X, Hid (rndX e f gg i kj wj = X) := ⟨_, hide rfl⟩
                          obtain ⟨Y, hY⟩ : ∃ Y, Hid (rndY a b' c' = Y) := ⟨_, hide rfl⟩
                          clear RKi
                          go_wp2_with fail
                          refine wp_region_quiet_lit (by as_aux_lemma => kernel_rfl) (by as_aux_lemma => kernel_rfl) ?_
                          iterate 3 go_big_quiet_step (fail)
                          go_big_quiet_step ((go_at_call 65; exact quiet_one RTE1.out _ _))
                          iterate 3 go_big_quiet_step (fail)
                          go_big_quiet_step ((go_at_call 65; exact quiet_one RTE2.out _ _))
                          iterate 4 go_big_quiet_step (fail)
                          go_big_quiet_step ((go_at_call 65; exact quiet_one RTE3.out _ _))
                          repeat go_big_quiet_step (fail)
                          refine wpQuiet_nil ?_
                          intro _ hq1
                          obtain ⟨n1, he1⟩ := hq1
                          subst he1
                          go_wp2_with fail
                          refine wp_region_quiet_lit (by as_aux_lemma => kernel_rfl) (by as_aux_lemma => kernel_rfl) ?_
                          repeat go_big_quiet_step (fail)
                          refine wpQuiet_nil ?_
                          intro _ hq2
                          obtain ⟨n2, he2⟩ := hq2
                          subst he2
                          go_wp2_with fail
                          refine wp_region_quiet_lit (by as_aux_lemma => kernel_rfl) (by as_aux_lemma => kernel_rfl) ?_
                          repeat go_big_quiet_step (fail)
                          refine wpQuiet_nil ?_
                          intro _ hq3
                          obtain ⟨n3, he3⟩ := hq3
                          subst he3
                          rw [show wadd (wadd (wadd (wadd i (wxor (wxor (rotl e 26) (rotl e 21)) (rotl e 7))) (wxor (wand e f) (wand (wnot e) gg))) kj) wj = X from hX.out]
                          clear ck cw ws1
                          go_wp2_with fail
                          refine wp_region_quiet_lit (by as_aux_lemma => kernel_rfl) (by as_aux_lemma => kernel_rfl) ?_
                          iterate 3 go_big_quiet_step (fail)
                          go_big_quiet_step ((go_at_call 65; exact quiet_next RTA1.out _ _ _))
                          iterate 3 go_big_quiet_step (fail)
                          go_big_quiet_step ((go_at_call 65; exact quiet_next RTA2.out _ _ _))
                          iterate 4 go_big_quiet_step (fail)
                          go_big_quiet_step ((go_at_call 65; exact quiet_next RTA3.out _ _ _))
                          repeat go_big_quiet_step (fail)
                          refine wpQuiet_nil ?_
                          intro _ hq4
                          obtain ⟨n4, he4⟩ := hq4
                          subst he4
                          go_wp2_with fail
                          refine wp_region_quiet_lit (by as_aux_lemma => kernel_rfl) (by as_aux_lemma => kernel_rfl) ?_
                          repeat go_big_quiet_step (fail)
                          refine wpQuiet_nil ?_
                          intro _ hq5
                          obtain ⟨n5, he5⟩ := hq5
                          subst he5
                          rw [show wxor (wxor (rotl a 30) (rotl a 19)) (rotl a 10) = big0 a from rfl, show wxor (wxor (wand a b') (wand a c')) (wand b' c') = majF a b' c' from rfl]
                          go_wp2_with fail
                          rw [show wadd (big0 a) (majF a b' c') = Y from hY.out]
                          refine wp_region_after_tail 26 (by as_aux_lemma => kernel_rfl) (by as_aux_lemma => kernel_rfl) ?_
                          simp only [List.take_succ_cons, List.take_zero, List.drop_succ_cons, List.drop_zero]
                          repeat go_big_quiet_step (fail)
                          refine wpQuiet_nil ?_
                          intro xw
                          have hbx := xw.below
                          have hbx2 : Below wr.heap.size wr xw.world := ⟨hbx.os, hbx.tape, hbx.output, hbx.size, hbx.block⟩
                          have P2 := hide ((hbx2.block _ (lt_of_heap QG.out)).trans QG.out)
                          have P3 := hide ((hbx2.block _ (lt_of_heap HH.out)).trans HH.out)
                          have P4 := hide (gb_below HG.out hbx2)
                          obtain ⟨V2, hV2⟩ : ∃ V, xw.world = V := ⟨_, rfl⟩
                          rw [hV2] at P2 P3 P4 ⊢
                          clear hbx hbx2 c0 c1 c2 c3 c4 c5 c6 c7 QG HH HG QV
                          have HN := hide (show roundsTo x.l KW.l y.l (j + 1) = [wadd X Y, a, b', c', wadd d X, e, f, gg] by
                            rw [roundsTo, ← hs.out, HL.out, hkj.out, hwj.out, ← hX.out, ← hY.out]; rfl)
                          go_wp2_with fail
                          go_roundw
                          case rel =>
                            refine ⟨j + 1, V2.heap.size, by omega, P4.out.size, rfl, by go_num, ⟨⟨[wadd X Y, a, b', c', wadd d X, e, f, gg], rfl⟩, hide HN.out.symm, heap_alloc_new V2 _⟩, (heap_alloc_old V2 _ (lt_of_heap P2.out)).trans P2.out, (heap_alloc_old V2 _ (lt_of_heap P3.out)).trans P3.out, gb_alloc P4.out _⟩
                          case measure => simp [intOf]; omega
                        · as_aux_lemma =>
                            have hj64 : j = 64 := by omega
                            have hj64i : ¬ (j : Int) < 64 := by omega
                            rw [hj64] at hs
                            clear hj64 hj hlt2
                            have hN : nextL x.l KW.l F = addTo x.l s.l 8 := by
                              unfold nextL
                              rw [hs.out, ← spreadW_l, ← hyl.out]
                            have HN := hide hN
                            clear hN hs
                            have hgvH : ¬ gv = H := by omega
                            go_wp2_with fail
                            go_loopw [22] (fun i wi => ∃ n : Nat, n ≤ 8 ∧ i = .int .i64 n ∧ (∃ z : Ws 8, Hid (z.l = addTo x.l s.l n) ∧ wi.heap[H]? = some (.cells (wsv z) 83 (0, 0))) ∧ wi.heap[gv]? = some (.cells (wsv s) 83 (0, 0)) ∧ w3.grownBy wi (some H)) (fun i _ => 8 - (intOf i).toNat)
                            case atStart => exact ⟨0, by omega, rfl, ⟨x, hide (by simp [addTo]), HH.out⟩, QV.out, HG.out⟩
                            case round =>
                              obtain ⟨n2, hn2, rfl, ⟨z, hz, hrh⟩, hrv, hgb⟩ := hrel
                              clear QV QG HH HG
                              have HH := hide hrh
                              have QV := hide hrv
                              have HG := hide hgb
                              clear hrh hrv hgb
                              by_cases hlt3 : n2 < 8
                              · have hlt3i : (n2 : Int) < 8 := by omega
                                have hs8 : n2 < x.l.length := by rw [x.len]; exact hlt3
                                have ht8' : n2 < s.l.length := by rw [s.len]; exact hlt3
                                obtain ⟨sn, hsn⟩ : ∃ q, Hid (x.l[n2]'hs8 = q) := ⟨_, hide rfl⟩
                                obtain ⟨tn, htn⟩ : ∃ q, Hid (s.l[n2]'ht8' = q) := ⟨_, hide rfl⟩
                                have c1 := wcell HH.out n2 sn (by rw [hz.out, addTo_get _ _ _ hs8 ht8', hsn.out])
                                have c2 := wcell QV.out n2 tn (by rw [List.getElem?_eq_getElem ht8', htn.out])
                                have HS := hide (addTo_step x.l s.l n2 hs8 ht8')
                                rw [hsn.out, htn.out] at HS
                                go_wp2_with fail
                                refine wp_region_after_tail 12 (by as_aux_lemma => kernel_rfl) (by as_aux_lemma => kernel_rfl) ?_
                                simp only [List.take_succ_cons, List.take_zero, List.drop_succ_cons, List.drop_zero]
                                repeat go_big_quiet_step (fail)
                                refine wpQuiet_nil ?_
                                intro xw
                                have hbx := xw.below
                                have P2 := hide ((hbx.block _ (lt_of_heap HH.out)).trans HH.out)
                                have P3 := hide ((hbx.block _ (lt_of_heap QV.out)).trans QV.out)
                                have P4 := hide (gb_below HG.out hbx)
                                obtain ⟨V3, hV3⟩ : ∃ V, xw.world = V := ⟨_, rfl⟩
                                rw [hV3] at P2 P3 P4 ⊢
                                have hst := wcell P2.out n2 sn (by rw [hz.out, addTo_get _ _ _ hs8 ht8', hsn.out])
                                have hfz2 := frozen_of_row V3 H n2 _ _ P2.out
                                clear hbx c1 c2
                                go_wp2_with fail
                                go_roundw
                                case rel =>
                                  refine ⟨n2 + 1, by omega, by go_num, ⟨z.set n2 (wadd sn tn), hide ?_, wrow_set P2.out n2 _⟩, ?_, gb_set P4.out _ _ _ (Or.inr rfl)⟩
                                  · show z.l.set n2 _ = _
                                    rw [hz.out]; exact HS.out
                                  · rw [heap_setCell_other _ _ _ _ (by show gv ≠ H; exact hgvH)]; exact P3.out
                                case measure => simp [intOf]; omega
                              · have hn8e : n2 = 8 := by omega
                                have hlt3i : ¬ (n2 : Int) < 8 := by omega
                                rw [hn8e] at hz
                                have hzz := hide (show z = blocksTo P (m + 1) by
                                  apply ws_ext
                                  rw [hz.out, ← HN.out, blocksTo, nextW_l, ← hx.out, hKW.out, hF.out])
                                clear hz hn8e hn2 hlt3
                                go_wp2_with fail
                                go_roundw
                                case rel => exact ⟨m + 1, by omega, by go_num, ⟨z, hzz, HH.out⟩, HG.out⟩
                                case measure => simp [intOf]; omega
            · as_aux_lemma =>
                have hmE : m = M := by omega
                have hlti : ¬ 64 * (m : Int) < (P.length : Int) := by have := HM.out; omega
                have hxx := hide (show digOfW x = shaOf t by
                  unfold shaOf
                  rw [hPP.out, hx.out, hmE]
                  congr 2; have := HM.out; omega)
                have Rw := hide ((HG.out.block w.heap.size (by omega) (fun e => nwH2 (Option.some.inj e))).trans R3.out)
                have HBw := hide (HB3.out.grown HG.out (by have := HB3.out.size; omega) (fun k hk => by have e2 : H = k := Option.some.inj hk; omega))
                rw [hm64]
                go_wp2_with fail
                have D0 := hide (heap_alloc_new wr (.cells (dgst dig0) 24))
                have zH2 : H < wr.heap.size := lt_of_heap HH.out
                have zw2 : w.heap.size < wr.heap.size := lt_of_heap Rw.out
                have S0 := hide ((heap_alloc_old wr (.cells (dgst dig0) 24) zH2).trans HH.out)
                have E0 := hide ((heap_alloc_old wr (.cells (dgst dig0) 24) zw2).trans Rw.out)
                have B0 := hide (HBw.out.alloc HBw.out.size (.cells (dgst dig0) 24))
                obtain ⟨D2, hD2⟩ : ∃ D2, wr.heap.size = D2 := ⟨_, rfl⟩
                rw [hD2] at D0 zH2 zw2 ⊢
                clear hD2 HH HG Rw HBw
                have nHD : ¬ H = D2 := by omega
                have nwD : ¬ w.heap.size = D2 := by omega
                go_loopw [24] (fun i wi => ∃ n : Nat, n ≤ 8 ∧ i = .int .i64 n ∧ (∃ d : Dig, Hid (d.bytes = digTo x.l (4 * n)) ∧ wi.heap[D2]? = some (.cells (dgst d) 24 (0, 0))) ∧ wi.heap[H]? = some (.cells (wsv x) 83 (0, 0)) ∧ wi.heap[w.heap.size]? = some (.cells (dgst dig0) 24 (0, 0)) ∧ Below w.heap.size w wi) (fun i _ => 8 - (intOf i).toNat)
                case atStart => exact ⟨0, by omega, rfl, ⟨dig0, hide rfl, D0.out⟩, S0.out, E0.out, B0.out⟩
                case round =>
                  obtain ⟨n2, hn2, rfl, ⟨d, hd, hr0⟩, hrs, hre, hbl⟩ := hrel
                  clear D0 S0 E0 B0
                  have D0 := hide hr0
                  have S0 := hide hrs
                  have E0 := hide hre
                  have B0 := hide hbl
                  clear hr0 hrs hre hbl
                  by_cases hlt3 : n2 < 8
                  · have hlt3i : (n2 : Int) < 8 := by omega
                    obtain ⟨p, hp⟩ : ∃ p, 4 * n2 = p := ⟨_, rfl⟩
                    have hpi : 4 * (n2 : Int) = (p : Int) := by omega
                    have hp29 : (p : Int) + 3 < 32 := by omega
                    have hp0 : (0 : Int) ≤ (p : Int) := by omega
                    have hpa : (p : Int) < 32 := by omega
                    have hpb : (p : Int) + 1 < 32 := by omega
                    have hpc : (p : Int) + 2 < 32 := by omega
                    have t1 : ((p : Int) + 1).toNat = p + 1 := by omega
                    have t2 : ((p : Int) + 2).toNat = p + 2 := by omega
                    have t3 : ((p : Int) + 3).toNat = p + 3 := by omega
                    obtain ⟨q, hq⟩ : ∃ q, Hid (x.l.getD n2 0 = q) := ⟨_, hide rfl⟩
                    have hcell := wcell S0.out n2 q (by rw [← hq.out, List.getD_eq_getElem?_getD, List.getElem?_eq_getElem (by rw [x.len]; exact hlt3)]; rfl)
                    have v0 := digByte0 x.l n2 q hq.out
                    have v1 := digByte1 x.l n2 q hq.out
                    have v2' := digByte2 x.l n2 q hq.out
                    have v3 := digByte3 x.l n2 q hq.out
                    rw [hp] at v0 v1 v2' v3
                    have z0 := cell_dgst (rowCells_of D0.out) p (by omega)
                    have z1 := cell_dgst (rowCells_of D0.out) (p + 1) (by omega)
                    have z2 := cell_dgst (rowCells_of D0.out) (p + 2) (by omega)
                    have z3 := cell_dgst (rowCells_of D0.out) (p + 3) (by omega)
                    have f0 := frozen_of_row wr D2 p _ _ D0.out
                    have f1 := frozen_of_row wr D2 (p + 1) _ _ D0.out
                    have f2 := frozen_of_row wr D2 (p + 2) _ _ D0.out
                    have f3 := frozen_of_row wr D2 (p + 3) _ _ D0.out
                    have HP := hide hp
                    clear hp
                    go_wp2_with fail
                    go_roundw
                    case rel =>
                      have hp := HP.out
                      refine ⟨n2 + 1, by omega, by go_num, ⟨(((d.set p (digByte x.l p)).set (p + 1) (digByte x.l (p + 1))).set (p + 2) (digByte x.l (p + 2))).set (p + 3) (digByte x.l (p + 3)), hide ?_, row_set (row_set (row_set (row_set D0.out p _) (p + 1) _) (p + 2) _) (p + 3) _⟩, ?_, ?_, ?_⟩
                      · show (((d.bytes.set p _).set (p + 1) _).set (p + 2) _).set (p + 3) _ = _
                        rw [hd.out, hp, digTo_set x.l p (by omega), digTo_set x.l (p + 1) (by omega), digTo_set x.l (p + 2) (by omega), digTo_set x.l (p + 3) (by omega)]
                        congr 1; omega
                      · rw [heap_setCell_other _ _ _ _ nHD, heap_setCell_other _ _ _ _ nHD, heap_setCell_other _ _ _ _ nHD, heap_setCell_other _ _ _ _ nHD]; exact S0.out
                      · rw [heap_setCell_other _ _ _ _ nwD, heap_setCell_other _ _ _ _ nwD, heap_setCell_other _ _ _ _ nwD, heap_setCell_other _ _ _ _ nwD]; exact E0.out
                      · exact (((B0.out.setCell (by show w.heap.size ≤ D2; omega) _).setCell (by show w.heap.size ≤ D2; omega) _).setCell (by show w.heap.size ≤ D2; omega) _).setCell (by show w.heap.size ≤ D2; omega) _
                    case measure => simp [intOf]; omega
                  · have hn0 : n2 = 8 := by omega
                    rw [hn0] at hd
                    have hdd := hide (show dgst d = dgst (shaOf t) by
                      rw [← hxx.out]
                      congr 1
                      have e : d.bytes = (digOfW x).bytes := hd.out
                      cases d
                      simp only at e
                      subst e
                      rfl)
                    have hni : ¬ (n2 : Int) < 8 := by omega
                    have rcd := rowCells_of D0.out
                    have y0 : D2 < wr.heap.size := lt_of_heap D0.out
                    have y1 : w.heap.size < wr.heap.size := lt_of_heap E0.out
                    have rk0 := rowOk_of 32 E0.out
                    rw [dgst_size] at rk0
                    have rk1 : wr.rowOk w.heap.size 32 = true := by rw [rk0]; rfl
                    clear rk0 hd hn0 hn2 hlt3
                    go_wp2_with fail
                    refine ret_dig rfl w.heap.size d rfl (rowCells_setRow_same _ rk1) rfl ⟨?_, below_setRow B0.out (Nat.le_refl _) _⟩
                    rw [hdd.out]
    · as_aux_lemma =>
        have h56i : ¬ (n : Int) % 64 = 56 := by omega
        have hj2 : j ≠ K := fun e => h56 (hpm.2 e)
        have hzr := HB.out.size
        clear hpm
        have HN := hide hn
        clear hn
        go_wp2_with (at_builtin; refine wpList_onto _ rfl _ _ 94 rfl 5 i0 (.int .u8 0) Try.underlying94 HI.out Hz0.out Hz1.out Hz2.out rfl (w.heap.size + 1) _ (u8s (padTo t j)) rfl (HON.out.below ((Below.refl _ _).alloc (Nat.le_refl _) _)) _ 1 (.int .u8 0) rfl (by rw [cell_of_row _ _ 0 _ _ _ (heap_alloc_new wr _)]; rfl) rfl (by rw [u8s_length, padTo_length]; omega) ?_; intro v2 w2 hon2 hb2)
        go_roundw
        case rel =>
          refine ⟨j + 1, by omega, by rw [padTo_next, u8s_append]; exact hon2, (hb2.block w.heap.size (by omega)).trans ((heap_alloc_old _ _ (lt_of_heap R.out)).trans R.out), (HB.out.alloc (by omega) _).trans (hb2.mono (by omega))⟩
        case measure =>
          obtain ⟨g2, c2, rfl, _, _⟩ := hon2.shape (by rw [List.length_append, u8s_length, padTo_length, HN.out])
          show t.length + 1 + K - (n + 1) < t.length + 1 + K - n
          have := HN.out
          omega
end Go.Proofs.Ytjmbnfcjambdkaa
