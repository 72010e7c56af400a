/- delta.Apply on what Make lays. -/
import Derived.Test.YtjmbnfcjambdkaaDeltaRows
import Derived.Test.YtjmbnfcjambdkaaShelf
import Derived.Shelf.Strings.MapGrows
namespace Go.Proofs.Ytjmbnfcjambdkaa
open Go.RowKit
/-- A delta's bytes. -/
def deltaOf (n m : Nat) (ps : List Pt) : List UInt8 := be 4 n ++ (be 4 m ++ (be 4 ps.length ++ (ps.flatMap layPt ++ [])))
def Pt.over (base : List UInt8) (p : Pt) : List UInt8 := if p.kind = 0 then (base.drop p.at').take p.ln else p.text
def textOf (base : List UInt8) (ps : List Pt) : List UInt8 := ps.flatMap (Pt.over base)
theorem delta_length (n m : Nat) (ps : List Pt) (hx : ∀ p ∈ ps, p.fits) : (deltaOf n m ps).length ≤ 12 + 100005 * ps.length := by
  have := flat_len layPt 100005 ps (fun p hp => layPt_length p (hx p hp))
  unfold deltaOf
  simp only [List.length_append, be_length, List.length_nil]
  omega
theorem str_byte (s : List UInt8) : Lib.strCells ⟨s.toArray⟩ = Lib.byteCells s := by
  simp [Lib.strCells, Lib.byteCells]
set_option maxRecDepth 20000 in
set_option maxHeartbeats 4000000 in
theorem apply_other (base : List UInt8) (n m : Nat) (ps : List Pt) (D : List UInt8) (hD : D = deltaOf n m ps) (w : World) (hn : n < 4294967296) (hm : m < 4294967296) (hps : ps.length ≤ 64) (hx : ∀ p ∈ ps, p.plain) (hb : base.length ≤ 1000000) (hne : n ≠ base.length) :
    Calls Try.prog 21 #[.string ⟨base.toArray⟩, .string ⟨D.toArray⟩] w fun q w' => q = .returned (.tuple #[.string ⟨#[]⟩, .int .i64 31]) ∧ Below w.heap.size w w' := by
  have hDl := delta_length n m ps (fun p hp => (hx p hp).1)
  rw [← hD] at hDl
  have HX := hide hx
  have hbl := ba_len base
  have N1 := hide (num4_app n (be 4 m ++ (be 4 ps.length ++ (ps.flatMap layPt ++ []))) hn)
  have N2 := hide (num4_app m (be 4 ps.length ++ (ps.flatMap layPt ++ [])) hm)
  have hfl := flat_len layPt 100005 ps (fun p hp => layPt_length p (hx p hp).1)
  have HD := hide hD
  clear hx hD
  go_enter Try.func21, Try.ntmps21
  go_wp2_with fail
  refine (wireOf_any D w).mono ?_
  rintro e1 w1 ⟨rfl, hi1, hb1⟩
  have HI1 := hide (show IsIn w1 w.heap.size ⟨0, be 4 n ++ (be 4 m ++ (be 4 ps.length ++ (ps.flatMap layPt ++ [])))⟩ from by show IsIn w1 w.heap.size ⟨0, deltaOf n m ps⟩; rw [← HD.out]; exact hi1)
  have HB1 := hide hb1
  clear hi1 hb1
  go_wp2_with fail
  refine (four_named w.heap.size _ _ (n : Int) w1 HI1.out (by simp only [List.length_append, be_length, List.length_nil]; omega) N1.out.1 N1.out.2).mono ?_
  rintro e2 w2 ⟨rfl, hi2, hg2⟩
  have HI2 := hide hi2
  have HB2 := hide (HB1.out.grown hg2 HB1.out.size (fun k hk => by cases hk; exact Nat.le_refl _))
  clear hi2 hg2
  go_wp2_with fail
  refine (four_named w.heap.size _ _ (m : Int) w2 HI2.out (by simp only [List.length_append, be_length, List.length_nil]; omega) N2.out.1 N2.out.2).mono ?_
  rintro e3 w3 ⟨rfl, hi3, hg3⟩
  have HI3 := hide hi3
  have HB3 := hide (HB2.out.grown hg3 HB2.out.size (fun k hk => by cases hk; exact Nat.le_refl _))
  clear hi3 hg3
  go_wp2_with fail
  refine (rowsPt_any w.heap.size ps [] w3 HI3.out (by simp) hps HX.out).mono ?_
  rintro e4 w4 ⟨⟨a4, c4, rfl, ho4⟩, hi4, hg4⟩
  have HI4 := hide hi4
  have HB4 := hide (HB3.out.grown hg4 HB3.out.size (fun k hk => by cases hk; exact Nat.le_refl _))
  clear hi4 hg4 ho4
  go_wp2_with fail
  refine (end_named w.heap.size ⟨0, []⟩ 0 w4 HI4.out rfl).mono ?_
  rintro e5 w5 ⟨rfl, rfl⟩
  have hne2 : ((n : Int) != (base.length : Int)) = true := by simp; omega
  have hne3 : ¬ (n : Int) = (base.length : Int) := by omega
  go_wp2_with fail
  go_ret2
  exact ⟨rfl, HB4.out⟩
set_option maxRecDepth 20000 in
set_option maxHeartbeats 4000000 in
theorem apply_ok (base : List UInt8) (n m : Nat) (ps : List Pt) (D : List UInt8) (hD : D = deltaOf n m ps) (w : World) (hn : n < 4294967296) (hm : m < 4294967296) (hps : ps.length ≤ 64) (hx : ∀ p ∈ ps, p.plain) (hb : base.length ≤ 1000000) (hn0 : n = base.length) (hpo : ∀ p ∈ ps, p.kind = 0 → p.at' + p.ln ≤ base.length) (hlen : (textOf base ps).length ≤ 32768) (hm0 : m = (textOf base ps).length) :
    Calls Try.prog 21 #[.string ⟨base.toArray⟩, .string ⟨D.toArray⟩] w fun q w' => q = .returned (.tuple #[.string ⟨(textOf base ps).toArray⟩, .int .i64 0]) ∧ Below w.heap.size w w' := by
  have hDl := delta_length n m ps (fun p hp => (hx p hp).1)
  rw [← hD] at hDl
  have HX := hide hx
  have HPO := hide hpo
  have HN0 := hide hn0
  have HM0 := hide hm0
  clear hpo hn0 hm0
  have hbl := ba_len base
  have N1 := hide (num4_app n (be 4 m ++ (be 4 ps.length ++ (ps.flatMap layPt ++ []))) hn)
  have N2 := hide (num4_app m (be 4 ps.length ++ (ps.flatMap layPt ++ [])) hm)
  have hfl := flat_len layPt 100005 ps (fun p hp => layPt_length p (hx p hp).1)
  have HD := hide hD
  clear hx hD
  go_enter Try.func21, Try.ntmps21
  go_wp2_with fail
  refine (wireOf_any D w).mono ?_
  rintro e1 w1 ⟨rfl, hi1, hb1⟩
  have HI1 := hide (show IsIn w1 w.heap.size ⟨0, be 4 n ++ (be 4 m ++ (be 4 ps.length ++ (ps.flatMap layPt ++ [])))⟩ from by show IsIn w1 w.heap.size ⟨0, deltaOf n m ps⟩; rw [← HD.out]; exact hi1)
  have HB1 := hide hb1
  clear hi1 hb1
  go_wp2_with fail
  refine (four_named w.heap.size _ _ (n : Int) w1 HI1.out (by simp only [List.length_append, be_length, List.length_nil]; omega) N1.out.1 N1.out.2).mono ?_
  rintro e2 w2 ⟨rfl, hi2, hg2⟩
  have HI2 := hide hi2
  have HB2 := hide (HB1.out.grown hg2 HB1.out.size (fun k hk => by cases hk; exact Nat.le_refl _))
  clear hi2 hg2
  go_wp2_with fail
  refine (four_named w.heap.size _ _ (m : Int) w2 HI2.out (by simp only [List.length_append, be_length, List.length_nil]; omega) N2.out.1 N2.out.2).mono ?_
  rintro e3 w3 ⟨rfl, hi3, hg3⟩
  have HI3 := hide hi3
  have HB3 := hide (HB2.out.grown hg3 HB2.out.size (fun k hk => by cases hk; exact Nat.le_refl _))
  clear hi3 hg3
  go_wp2_with fail
  refine (rowsPt_any w.heap.size ps [] w3 HI3.out (by simp) hps HX.out).mono ?_
  rintro e4 w4 ⟨⟨a4, c4, rfl, ho4⟩, hi4, hg4⟩
  have HI4 := hide hi4
  have HB4 := hide (HB3.out.grown hg4 HB3.out.size (fun k hk => by cases hk; exact Nat.le_refl _))
  have HR4 := hide (Reads.owned ho4 (ptCells_one ps) (by unfold maxLen; omega))
  clear hi4 hg4 ho4
  go_wp2_with fail
  refine (end_named w.heap.size ⟨0, []⟩ 0 w4 HI4.out rfl).mono ?_
  rintro e5 w5 ⟨rfl, rfl⟩
  have heq2 : ((n : Int) != (base.length : Int)) = false := by have := HN0.out; simp; omega
  have heq3 : (n : Int) = (base.length : Int) := by have := HN0.out; omega
  rw [heq3] at heq2 ⊢
  clear heq3
  go_wp2_with fail
  go_loopw [35] (fun i wr => ∃ k : Nat, k ≤ ps.length ∧ i = .int .i64 k ∧ Lib.IsBuilderF 96 5 w4.heap.size w4.heap.size (Lib.byteCells (textOf base (ps.take k))) wr ∧ Below w4.heap.size w4 wr ∧ w4.heap.size < wr.heap.size) (fun i _ => ps.length - (intOf i).toNat)
  case atStart =>
    refine ⟨0, by omega, rfl, ?_, (Below.refl _ w4).alloc (Nat.le_refl _) _, by simp⟩
    exact Lib.IsBuilderF.of (Lib.fresh_isBuilder 96 5 w4)
  case round =>
    obtain ⟨k, hk, rfl, hI, hb, hsz⟩ := hrel
    have HI := hide hI
    have HBR := hide hb
    clear hI hb
    have HLT := hide (show (textOf base (ps.take k)).length ≤ 32768 by
      have e : textOf base ps = textOf base (ps.take k) ++ textOf base (ps.drop k) := by
        unfold textOf; rw [← List.flatMap_append, List.take_append_drop]
      rw [e, List.length_append] at hlen; omega)
    by_cases hlt : k < ps.length
    · obtain ⟨bq, oq, cq, hq⟩ := HR4.out.isRow (by omega)
      cases hq
      obtain ⟨x, hxk⟩ : ∃ x, Hid (ps[k] = x) := ⟨_, hide rfl⟩
      have hxm := hide (hxk.out ▸ HX.out _ (List.getElem_mem hlt))
      have hxo := hide (hxk.out ▸ HPO.out _ (List.getElem_mem hlt))
      obtain ⟨g0, g1, g2, g3⟩ := (HR4.out.below HBR.out).pt k hlt x hxk.out
      have HTS := hide (show textOf base (ps.take (k + 1)) = textOf base (ps.take k) ++ x.over base by
        unfold textOf; rw [List.take_succ_eq_append_getElem hlt, List.flatMap_append, hxk.out]; simp)
      have HLS := hide (show (textOf base (ps.take (k + 1))).length ≤ 32768 by
        have e : textOf base ps = textOf base (ps.take (k + 1)) ++ textOf base (ps.drop (k + 1)) := by
          unfold textOf; rw [← List.flatMap_append, List.take_append_drop]
        rw [e, List.length_append] at hlen; omega)
      rw [HTS.out] at HLS
      obtain ⟨Y, hY⟩ : ∃ Y, Hid (x.over base = Y) := ⟨_, hide rfl⟩
      obtain ⟨T, hT⟩ : ∃ T, Hid (textOf base (ps.take k) = T) := ⟨_, hide rfl⟩
      rw [hY.out] at HTS HLS
      rw [hT.out] at HTS HLS HI HLT
      have hyl := ba_len Y
      have hTY : T.length + Y.length ≤ 32768 := by have := HLS.out; rwa [List.length_append] at this
      by_cases h0 : x.kind = 0
      · have hxo2 := hxo.out h0
        have hk0 : (x.kind : Int) = 0 := by omega
        rw [hk0] at g0
        have q1 : ¬ (base.length : Int) < (x.at' : Int) := by omega
        have q2 : ¬ (base.length : Int) - (x.at' : Int) < (x.ln : Int) := by omega
        have hsl : (⟨base.toArray⟩ : ByteArray).extract x.at' (x.at' + x.ln) = ⟨Y.toArray⟩ := by
          rw [← hY.out, Pt.over, if_pos h0]
          apply ByteArray.ext
          rw [ByteArray.data_extract]
          apply Array.ext'
          simp [List.extract_eq_take_drop]
        have q3 : (x.at' : Int) + (x.ln : Int) ≤ (base.length : Int) := by omega
        clear hxo2 h0 hk0
        go_wp2_with fail
        refine (Try.Builder_WriteString_f w4.heap.size w4.heap.size (Lib.byteCells T) ⟨Y.toArray⟩ _ (HI.out.below ((Below.refl _ _).alloc (Nat.le_refl _) _)) (by rw [Lib.byteCells_length, hyl]; omega) (by simp; omega)).mono ?_
        rintro e6 w6 ⟨rfl, hI6, hb6⟩
        rw [str_byte, ← Lib.byteCells_append] at hI6
        have HI6 := hide (show Lib.IsBuilderF 96 5 w4.heap.size w4.heap.size (Lib.byteCells (T ++ Y)) w6 from Or.inr hI6)
        have HB6 := hide ((HBR.out.alloc (by omega) _).trans hb6)
        have hz6 : w4.heap.size < w6.heap.size := by have := hb6.size; simp at this; omega
        have hlv : (((Lib.byteCells (T ++ Y)).length : Nat) : Int) = (T.length : Int) + (Y.length : Int) := by rw [Lib.byteCells_length, List.length_append]; omega
        have HLV := hide hlv
        clear hI6 hb6 g0 g1 g2 g3 hlv
        go_wp2_with fail
        refine (Try.Builder_Len_f w4.heap.size w4.heap.size _ _ HI6.out).mono ?_
        rw [HLV.out]
        rintro e7 w7 ⟨rfl, rfl⟩
        have hq7 : ¬ (32768 : Int) < (T.length : Int) + (Y.length : Int) := by omega
        go_wp2_with fail
        go_roundw
        case rel => exact ⟨k + 1, by omega, by go_num, by rw [HTS.out]; exact HI6.out, HB6.out, hz6⟩
        case measure => simp [intOf]; omega
      · have hk1 : x.kind = 1 := by
          rcases hxm.out.2.2 with h | h
          · exact absurd h.1 h0
          · exact h.1
        rw [hk1] at g0
        have g0 : wr.cell? ⟨bq, oq + k * 4, none⟩ = some (.int .u8 1) := g0
        have hyt : Y = x.text := by rw [← hY.out, Pt.over, if_neg h0]
        rw [← hyt] at g3
        clear h0 hk1 hyt
        go_wp2_with fail
        refine (Try.Builder_WriteString_f w4.heap.size w4.heap.size (Lib.byteCells T) ⟨Y.toArray⟩ _ (HI.out.below ((Below.refl _ _).alloc (Nat.le_refl _) _)) (by rw [Lib.byteCells_length, hyl]; omega) (by simp; omega)).mono ?_
        rintro e6 w6 ⟨rfl, hI6, hb6⟩
        rw [str_byte, ← Lib.byteCells_append] at hI6
        have HI6 := hide (show Lib.IsBuilderF 96 5 w4.heap.size w4.heap.size (Lib.byteCells (T ++ Y)) w6 from Or.inr hI6)
        have HB6 := hide ((HBR.out.alloc (by omega) _).trans hb6)
        have hz6 : w4.heap.size < w6.heap.size := by have := hb6.size; simp at this; omega
        have hlv : (((Lib.byteCells (T ++ Y)).length : Nat) : Int) = (T.length : Int) + (Y.length : Int) := by rw [Lib.byteCells_length, List.length_append]; omega
        have HLV := hide hlv
        clear hI6 hb6 g0 g1 g2 g3 hlv
        go_wp2_with fail
        refine (Try.Builder_Len_f w4.heap.size w4.heap.size _ _ HI6.out).mono ?_
        rw [HLV.out]
        rintro e7 w7 ⟨rfl, rfl⟩
        have hq7 : ¬ (32768 : Int) < (T.length : Int) + (Y.length : Int) := by omega
        go_wp2_with fail
        go_roundw
        case rel => exact ⟨k + 1, by omega, by go_num, by rw [HTS.out]; exact HI6.out, HB6.out, hz6⟩
        case measure => simp [intOf]; omega
    · obtain rfl : k = ps.length := by omega
      have HT9 := HI.out
      rw [List.take_length] at HT9
      have HIT := hide HT9
      clear HT9
      have hlv : (((Lib.byteCells (textOf base ps)).length : Nat) : Int) = (m : Int) := by rw [Lib.byteCells_length, HM0.out]
      have HLV := hide hlv
      clear hlv
      go_wp2_with fail
      refine (Try.Builder_Len_f w4.heap.size w4.heap.size _ _ HIT.out).mono ?_
      rw [HLV.out]
      rintro e7 w7 ⟨rfl, rfl⟩
      have hmm : ((m : Int) != (m : Int)) = false := by simp
      go_wp2_with fail
      refine (Try.Builder_String_any_f w4.heap.size w4.heap.size _ _ HIT.out (by omega)).mono ?_
      rintro e8 w8 ⟨rfl, h8, b8⟩
      have HB8 := hide (HB4.out.trans ((HBR.out.mono (Nat.le_refl _) |>.trans b8).mono HB4.out.size))
      clear h8 b8
      go_wp2_with fail
      go_ret2
      exact ⟨rfl, HB8.out⟩
end Go.Proofs.Ytjmbnfcjambdkaa
