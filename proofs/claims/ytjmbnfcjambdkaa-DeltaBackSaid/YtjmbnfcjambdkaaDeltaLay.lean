/- delta.lay: a part's bytes. -/
import Derived.Test.YtjmbnfcjambdkaaDeltaAlike
namespace Go.Proofs.Ytjmbnfcjambdkaa
open Go.RowKit
theorem outByteB (s : List UInt8) (c : Int) (B : List UInt8) (hB : B = s ++ [UInt8.ofNat c.toNat]) (w : World) (h0 : 0 ≤ c) (h1 : c ≤ 255) (hs : s.length ≤ 1000000000) :
    Calls Try.prog 92 #[.agg #[.string ⟨s.toArray⟩], .int .u8 c] w fun e w' => e = .returned (.agg #[.string ⟨B.toArray⟩]) ∧ Below w.heap.size w w' := by
  subst hB
  have h := outByte s (UInt8.ofNat c.toNat) w hs
  rw [show (((UInt8.ofNat c.toNat).toNat : Nat) : Int) = c by rw [UInt8.toNat_ofNat']; omega] at h
  exact h
theorem outFour2 (T : List UInt8) (n m : Nat) (v : Value) (B : List UInt8) (hB : B = T ++ (be 4 n ++ be 4 m)) (w : World) (hr : Reads w 1 v 2 [.int .u32 (n : Int), .int .u32 (m : Int)]) (hn : n < 4294967296) (hm : m < 4294967296) (hs : T.length + 8 ≤ 1000000000) :
    Calls Try.prog 44 #[.agg #[.string ⟨T.toArray⟩], v] w fun e w' => e = .returned (.agg #[.string ⟨B.toArray⟩]) ∧ Below w.heap.size w w' := by
  subst hB
  have := outFour T v [(n : Int), (m : Int)] w hr (fun k hk => by simp at hk; rcases hk with rfl | rfl <;> (simp [Lit.wf, IntKind.min, IntKind.max, IntKind.signed, IntKind.bits]; omega)) (by simpa using hs)
  rw [show [(n : Int), (m : Int)].flatMap (fun n => be 4 n.toNat) = be 4 n ++ be 4 m by simp] at this
  exact this
theorem lenL_text (t : List UInt8) : lenText ⟨t.toArray⟩ = lenL t := by
  unfold lenText lenL
  rw [ba_len]
theorem outTextL (T : List UInt8) (t : List UInt8) (v : Value) (B : List UInt8) (hB : B = T ++ lenL t) (w : World) (hr : Reads w 1 v 1 [.string ⟨t.toArray⟩]) (hx : t.length ≤ 1000000) (hs : T.length ≤ 900000000) :
    Calls Try.prog 70 #[.agg #[.string ⟨T.toArray⟩], v] w fun e w' => e = .returned (.agg #[.string ⟨B.toArray⟩]) ∧ Below w.heap.size w w' :=
  outText1 T ⟨t.toArray⟩ v B (by rw [hB, lenL_text]) w hr (by rw [ba_len]; exact hx) hs
/-- A part that may be laid. -/
def Pt.fits (p : Pt) : Prop := p.kind ≤ 255 ∧ p.at' < 4294967296 ∧ p.ln < 4294967296 ∧ p.text.length ≤ 100000
theorem layPt_length (p : Pt) (h : p.fits) : (layPt p).length ≤ 100005 := by
  obtain ⟨_, _, _, h4⟩ := h
  unfold layPt lenL
  split <;> simp [be_length] <;> omega
theorem heap_lst3 (w : World) (o p q : Obj) : (((w.alloc o).alloc p).alloc q).heap[w.heap.size + 1 + 1]? = some q := by
  have := heap_alloc_new ((w.alloc o).alloc p) q
  simpa using this
set_option maxRecDepth 20000 in
set_option maxHeartbeats 2000000 in
theorem lay_any (T : List UInt8) (p : Pt) (B : List UInt8) (hB : B = T ++ layPt p) (hp : p.fits) (hT : T.length ≤ 800000000) (w : World) :
    Calls Try.prog 45 #[.agg #[.string ⟨T.toArray⟩], .agg #[.int .u8 (p.kind : Int), .int .i64 (p.at' : Int), .int .i64 (p.ln : Int), .string ⟨p.text.toArray⟩]] w fun e w' => e = .returned (.agg #[.string ⟨B.toArray⟩]) ∧ Below w.heap.size w w' := by
  obtain ⟨h1, h2, h3, h4⟩ := hp
  obtain ⟨k, at', ln, text⟩ := p
  simp only at h1 h2 h3 h4
  have HB := hide hB
  clear hB
  obtain ⟨S0, hS0⟩ : ∃ S0, Hid (S0 = T ++ [UInt8.ofNat k]) := ⟨_, hide rfl⟩
  have hS0l := hide (show S0.length = T.length + 1 by rw [hS0.out, List.length_append]; rfl)
  go_enter Try.func45, Try.ntmps45
  go_wp2_with fail
  refine (outByteB T (k : Int) S0 (by rw [hS0.out]; simp) _ (by omega) (by omega) (by omega)).mono ?_
  rintro e w1 ⟨rfl, hb1⟩
  have HB1 := hide ((below3 w _ _ _).trans (hb1.mono (by rw [size3]; omega)))
  have R0 := hide ((hb1.block w.heap.size (by rw [size3]; omega)).trans (heap_fst3 w _ _ _))
  have R1 := hide ((hb1.block (w.heap.size + 1) (by rw [size3]; omega)).trans (heap_mid3 w _ _ _))
  have R2 := hide ((hb1.block (w.heap.size + 1 + 1) (by rw [size3]; omega)).trans (heap_lst3 w _ _ _))
  clear hb1
  have hst := one_cell R0.out
  have hfz := frozen_of_row w1 w.heap.size 0 _ _ R0.out
  by_cases h0 : k = 0
  · subst h0
    have HK := hide (show layPt ⟨0, at', ln, text⟩ = [UInt8.ofNat 0] ++ (be 4 at' ++ be 4 ln) by unfold layPt; rw [if_pos rfl]; rfl)
    have c1 : w1.cell? ⟨w.heap.size + 1, 0, none⟩ = some (.int .u8 0) := by rw [cell_of_row w1 _ 0 _ _ _ R1.out]; rfl
    have c2 : w1.cell? ⟨w.heap.size + 1, 1, none⟩ = some (.int .i64 (at' : Int)) := by rw [cell_of_row w1 _ 1 _ _ _ R1.out]; rfl
    have c3 : w1.cell? ⟨w.heap.size + 1, 2, none⟩ = some (.int .i64 (ln : Int)) := by rw [cell_of_row w1 _ 2 _ _ _ R1.out]; rfl
    go_wp2_with fail
    refine (outFour2 S0 at' ln _ B (by rw [HB.out, HK.out, hS0.out, List.append_assoc]) _ (reads_fresh_at (w1.setCell ⟨w.heap.size, 0, none⟩ (.string ⟨S0.toArray⟩)) w1.heap.size (by simp) [.int .u32 (at' : Int), .int .u32 (ln : Int)] 83 1 2 rfl (by simp [Value.oneCell']) (by unfold maxLen; omega)) h2 h3 (by have := hS0l.out; omega)).mono ?_
    rintro e2 w2 ⟨rfl, hb2⟩
    have Z1 := HB1.out.size
    have Z2 : w.heap.size + 1 + 1 < w1.heap.size := lt_of_heap R2.out
    have HB2 := hide (((HB1.out.setCell (p := ⟨w.heap.size, 0, none⟩) (Nat.le_refl _) (.string ⟨S0.toArray⟩)).alloc (by simp; omega) (.cells #[.int .u32 (at' : Int), .int .u32 (ln : Int)] 83)).trans (hb2.mono (by simp; omega)))
    have R3 := hide ((hb2.block (w.heap.size + 1 + 1) (by simp; omega)).trans ((heap_alloc_old _ _ (by simp; omega)).trans ((heap_setCell_other _ _ _ _ (by show w.heap.size + 1 + 1 ≠ w.heap.size; omega)).trans R2.out)))
    have cst := one_cell R3.out
    have cfz := frozen_of_row w2 (w.heap.size + 1 + 1) 0 _ _ R3.out
    clear hb2
    go_wp2_with fail
    exact ret_out_cell rfl (w.heap.size + 1 + 1) B rfl (rowCells_of (heap_set_row R3.out _)) rfl ⟨rfl, HB2.out.setCell (by show w.heap.size ≤ w.heap.size + 1 + 1; omega) _⟩
  · have HK := hide (show layPt ⟨k, at', ln, text⟩ = [UInt8.ofNat k] ++ lenL text by unfold layPt; rw [if_neg h0])
    have hk0 : ((k : Int) == 0) = false := by simpa using h0
    have hk1 : ¬ (k : Int) = 0 := by omega
    have c1 : w1.cell? ⟨w.heap.size + 1, 0, none⟩ = some (.int .u8 (k : Int)) := by rw [cell_of_row w1 _ 0 _ _ _ R1.out]; rfl
    have c4 : w1.cell? ⟨w.heap.size + 1, 3, none⟩ = some (.string ⟨text.toArray⟩) := by rw [cell_of_row w1 _ 3 _ _ _ R1.out]; rfl
    go_wp2_with fail
    refine (outTextL S0 text _ B (by rw [HB.out, HK.out, hS0.out, List.append_assoc]) _ (reads_fresh_at (w1.setCell ⟨w.heap.size, 0, none⟩ (.string ⟨S0.toArray⟩)) w1.heap.size (by simp) [.string ⟨text.toArray⟩] 9 1 1 rfl (by simp [Value.oneCell']) (by unfold maxLen; omega)) (by omega) (by have := hS0l.out; omega)).mono ?_
    rintro e2 w2 ⟨rfl, hb2⟩
    have Z1 := HB1.out.size
    have Z2 : w.heap.size + 1 + 1 < w1.heap.size := lt_of_heap R2.out
    have HB2 := hide (((HB1.out.setCell (p := ⟨w.heap.size, 0, none⟩) (Nat.le_refl _) (.string ⟨S0.toArray⟩)).alloc (by simp; omega) (.cells #[.string ⟨text.toArray⟩] 9)).trans (hb2.mono (by simp; omega)))
    have R3 := hide ((hb2.block (w.heap.size + 1 + 1) (by simp; omega)).trans ((heap_alloc_old _ _ (by simp; omega)).trans ((heap_setCell_other _ _ _ _ (by show w.heap.size + 1 + 1 ≠ w.heap.size; omega)).trans R2.out)))
    have cst := one_cell R3.out
    have cfz := frozen_of_row w2 (w.heap.size + 1 + 1) 0 _ _ R3.out
    clear hb2
    go_wp2_with fail
    exact ret_out_cell rfl (w.heap.size + 1 + 1) B rfl (rowCells_of (heap_set_row R3.out _)) rfl ⟨rfl, HB2.out.setCell (by show w.heap.size ≤ w.heap.size + 1 + 1; omega) _⟩
end Go.Proofs.Ytjmbnfcjambdkaa
