/- delta.take: the part that stands next. -/
import Derived.Test.YtjmbnfcjambdkaaDeltaRow
namespace Go.Proofs.Ytjmbnfcjambdkaa
open Go.RowKit
/-- A part as Make lays it. -/
def Pt.plain (p : Pt) : Prop := p.fits ∧ p.text.length ≤ 32768 ∧ ((p.kind = 0 ∧ p.text = []) ∨ (p.kind = 1 ∧ p.at' = 0 ∧ p.ln = 0))
theorem byte_named (b : Nat) (r r' : Rd) (n : Int) (w : World) (h : IsIn w b r) (hs : r.s.length ≤ 1000000000) (hn : ((r.number 1).1 : Int) = n) (hr : (r.number 1).2 = r') :
    Calls Try.prog 96 #[.pointer (some ⟨b, 0, none⟩)] w fun q w' => q = .returned (.int .u8 n) ∧ IsIn w' b r' ∧ w.grownBy w' (some b) := by
  subst hn hr; exact byte_any b r w h hs
theorem num4_app (n : Nat) (rest : List UInt8) (h : n < 4294967296) : (((Rd.mk 0 (be 4 n ++ rest)).number 4).1 : Int) = (n : Int) ∧ ((Rd.mk 0 (be 4 n ++ rest)).number 4).2 = ⟨0, rest⟩ := by
  rw [Rd.number_app 4 n rest]
  exact ⟨by show (((n % 256 ^ 4 : Nat)) : Int) = _; rw [Nat.mod_eq_of_lt (by omega)], rfl⟩
theorem num1_app (n : Nat) (rest : List UInt8) (h : n < 256) : (((Rd.mk 0 ([UInt8.ofNat n] ++ rest)).number 1).1 : Int) = (n : Int) ∧ ((Rd.mk 0 ([UInt8.ofNat n] ++ rest)).number 1).2 = ⟨0, rest⟩ := by
  have e : [UInt8.ofNat n] = be 1 n := rfl
  rw [e, Rd.number_app 1 n rest]
  exact ⟨by show (((n % 256 ^ 1 : Nat)) : Int) = _; rw [Nat.mod_eq_of_lt (by omega)], rfl⟩
theorem grown_one {w w1 w2 : World} {b : Nat} (h : w.grownBy w1 (some b)) (h2 : w1.grownBy w2 (some b)) : w.grownBy w2 (some b) := h.andThen h2 (fun _ hj => .inr hj)
theorem grown_alloc {w w1 : World} {b : Nat} (h : w.grownBy w1 (some b)) (o : Obj) : w.grownBy (w1.alloc o) (some b) := h.andThen (World.grownBy_alloc w1 o none) (fun _ hj => by cases hj)
theorem grown_setCell {w w1 : World} {b : Nat} (h : w.grownBy w1 (some b)) (g i : Nat) (v : Value) (hg : w.heap.size ≤ g) : w.grownBy (w1.setCell ⟨g, i, none⟩ v) (some b) :=
  h.andThen (grown_set w1 g i v) (fun j hj => .inl (by cases hj; exact hg))
set_option maxRecDepth 20000 in
set_option maxHeartbeats 4000000 in
theorem take_pt (b : Nat) (p : Pt) (rest S : List UInt8) (hS : S = layPt p ++ rest) (w : World) (h : IsIn w b ⟨0, S⟩) (hs : S.length ≤ 100000000) (hp : p.plain) :
    Calls Try.prog 52 #[.pointer (some ⟨b, 0, none⟩)] w fun q w' => q = .returned (.agg #[.int .u8 (p.kind : Int), .int .i64 (p.at' : Int), .int .i64 (p.ln : Int), .string ⟨p.text.toArray⟩]) ∧ IsIn w' b ⟨0, rest⟩ ∧ w.grownBy w' (some b) := by
  obtain ⟨⟨h1, h2, h3, h4⟩, h5, h6⟩ := hp
  obtain ⟨k, at', ln, text⟩ := p
  simp only at h1 h2 h3 h4 h5 h6 ⊢
  have H := hide h
  have hblt := h.lt
  clear h
  obtain ⟨S1, hS1, hS1l⟩ : ∃ S1, Hid (S = [UInt8.ofNat k] ++ S1 ∧ (k = 0 → S1 = be 4 at' ++ (be 4 ln ++ rest)) ∧ (k = 1 → S1 = be 4 text.length ++ text ++ rest)) ∧ S1.length ≤ 100000000 := by
    rcases h6 with ⟨rfl, _⟩ | ⟨rfl, _⟩
    · refine ⟨be 4 at' ++ (be 4 ln ++ rest), hide ⟨by rw [hS]; unfold layPt; simp, fun _ => rfl, fun h => (by cases h)⟩, ?_⟩
      have := congrArg List.length hS
      unfold layPt at this; simp at this ⊢; omega
    · refine ⟨be 4 text.length ++ text ++ rest, hide ⟨by rw [hS]; unfold layPt lenL; simp, fun h => (by cases h), fun _ => rfl⟩, ?_⟩
      have := congrArg List.length hS
      unfold layPt lenL at this; simp at this ⊢; omega
  clear hS
  have n1 := num1_app k S1 (by omega)
  rw [← hS1.out.1] at n1
  have N1 := hide n1
  clear n1
  go_enter Try.func52, Try.ntmps52
  go_wp2_with fail
  refine (byte_named b ⟨0, S⟩ ⟨0, S1⟩ (k : Int) _ (H.out.below ((Below.refl _ _).alloc (Nat.le_refl _) _)) (by show S.length ≤ 1000000000; omega) N1.out.1 N1.out.2).mono ?_
  rintro e1 w1 ⟨rfl, hi1, hg1⟩
  have HI1 := hide hi1
  have R0 := hide (grown_at hg1 (heap_alloc_new w _) (by omega))
  have HG1 := hide (grown_one (grown_alloc (World.grownBy.refl w (some b)) _) hg1)
  have z1 : w.heap.size < w1.heap.size := lt_of_heap R0.out
  clear hi1 hg1
  rcases h6 with ⟨rfl, rfl⟩ | ⟨rfl, rfl, rfl⟩
  · have n2 := num4_app at' (be 4 ln ++ rest) h2
    rw [← hS1.out.2.1 rfl] at n2
    have N2 := hide n2
    have E9 := hide (hS1.out.2.1 rfl)
    have N3 := hide (num4_app ln rest h3)
    clear n2
    go_wp2_with fail
    refine (four_named b ⟨0, S1⟩ ⟨0, be 4 ln ++ rest⟩ (at' : Int) _ (HI1.out.below ((Below.refl _ _).alloc (Nat.le_refl _) _)) (by show S1.length ≤ 1000000000; omega) N2.out.1 N2.out.2).mono ?_
    rintro e2 w2 ⟨rfl, hi2, hg2⟩
    have HI2 := hide hi2
    have R1 := hide (grown_at hg2 (heap_alloc_new w1 _) (by omega))
    have R2 := hide (grown_at hg2 ((heap_alloc_old _ _ z1).trans R0.out) (by omega))
    have HG2 := hide (grown_one (grown_alloc HG1.out _) hg2)
    have z2 : w1.heap.size < w2.heap.size := lt_of_heap R1.out
    have hl2 : (be 4 ln ++ rest).length ≤ 100000000 := by
      have e := congrArg List.length E9.out
      rw [List.length_append] at e
      omega
    clear hi2 hg2
    go_wp2_with fail
    refine (four_named b ⟨0, be 4 ln ++ rest⟩ ⟨0, rest⟩ (ln : Int) _ HI2.out (by show (be 4 ln ++ rest).length ≤ 1000000000; omega) N3.out.1 N3.out.2).mono ?_
    rintro e3 w3 ⟨rfl, hi3, hg3⟩
    have HI3 := hide hi3
    have R3 := hide (grown_at hg3 R1.out (by omega))
    have R4 := hide (grown_at hg3 R2.out (by omega))
    have HG3 := hide (grown_one HG2.out hg3)
    clear hi3 hg3
    have f3 := fun o => frozen_of_row w3 w1.heap.size o _ _ R3.out
    have f4 := fun o => frozen_of_row w3 w.heap.size o _ _ R4.out
    have c0 : w3.cell? ⟨w1.heap.size, 0, none⟩ = some (.int .u8 0) := by rw [cell_of_row w3 _ 0 _ _ _ R3.out]; rfl
    have c1 : w3.cell? ⟨w1.heap.size, 1, none⟩ = some (.int .i64 0) := by rw [cell_of_row w3 _ 1 _ _ _ R3.out]; rfl
    have c2 : w3.cell? ⟨w1.heap.size, 2, none⟩ = some (.int .i64 0) := by rw [cell_of_row w3 _ 2 _ _ _ R3.out]; rfl
    have c3 : w3.cell? ⟨w1.heap.size, 3, none⟩ = some (.string ⟨#[]⟩) := by rw [cell_of_row w3 _ 3 _ _ _ R3.out]; rfl
    have d0 : w3.cell? ⟨w.heap.size, 0, none⟩ = some (.int .u8 0) := by rw [cell_of_row w3 _ 0 _ _ _ R4.out]; rfl
    have d1 : w3.cell? ⟨w.heap.size, 1, none⟩ = some (.int .i64 0) := by rw [cell_of_row w3 _ 1 _ _ _ R4.out]; rfl
    have d2 : w3.cell? ⟨w.heap.size, 2, none⟩ = some (.int .i64 0) := by rw [cell_of_row w3 _ 2 _ _ _ R4.out]; rfl
    have d3 : w3.cell? ⟨w.heap.size, 3, none⟩ = some (.string ⟨#[]⟩) := by rw [cell_of_row w3 _ 3 _ _ _ R4.out]; rfl
    have hne : w.heap.size ≠ w1.heap.size := by omega
    go_wp2_with fail
    have e4 : (((((((w3.setCell ⟨w1.heap.size, 1, none⟩ (.int .i64 (at' : Int))).setCell ⟨w1.heap.size, 2, none⟩ (.int .i64 (ln : Int))).setCell ⟨w.heap.size, 0, none⟩ (.int .u8 0)).setCell ⟨w.heap.size, 1, none⟩ (.int .i64 (at' : Int))).setCell ⟨w.heap.size, 2, none⟩ (.int .i64 (ln : Int))).setCell ⟨w.heap.size, 3, none⟩ (.string ⟨#[]⟩)).heap[w.heap.size]?) = some (.cells #[.int .u8 0, .int .i64 (at' : Int), .int .i64 (ln : Int), .string ⟨#[]⟩] 78 (0, 0)) :=
      heap_set_row (heap_set_row (heap_set_row (heap_set_row ((heap_setCell_other _ _ _ _ hne).trans ((heap_setCell_other _ _ _ _ hne).trans R4.out)) _) _) _) _
    refine bodyPost_ret (results_row rfl _ 4 (by decide) Try.underlying78 rfl (by kernel_rfl) _ _ w.heap.size _ rfl rfl (rowCells_of e4)) rfl ⟨rfl, ?_, ?_⟩
    · have hn1 : b ≠ w1.heap.size := by omega
      have hn2 : b ≠ w.heap.size := by omega
      exact (heap_setCell_other _ _ _ _ hn2).trans ((heap_setCell_other _ _ _ _ hn2).trans ((heap_setCell_other _ _ _ _ hn2).trans ((heap_setCell_other _ _ _ _ hn2).trans ((heap_setCell_other _ _ _ _ hn1).trans ((heap_setCell_other _ _ _ _ hn1).trans HI3.out)))))
    · have hge : w.heap.size ≤ w1.heap.size := by omega
      exact grown_setCell (grown_setCell (grown_setCell (grown_setCell (grown_setCell (grown_setCell HG3.out _ _ _ hge) _ _ _ hge) _ _ _ (Nat.le_refl _)) _ _ _ (Nat.le_refl _)) _ _ _ (Nat.le_refl _)) _ _ _ (Nat.le_refl _)
  · have hx := Rd.text_app text rest 32768 (by omega) (by omega)
    rw [← hS1.out.2.2 rfl] at hx
    have HX := hide hx
    clear hx
    go_wp2_with fail
    refine (text_named b ⟨0, S1⟩ ⟨0, rest⟩ 32768 text _ (HI1.out.below ((Below.refl _ _).alloc (Nat.le_refl _) _)) (by show S1.length ≤ 1000000000; omega) (by omega) (by omega) (by rw [HX.out]) (by rw [HX.out])).mono ?_
    rintro e2 w2 ⟨rfl, hi2, hg2⟩
    have HI2 := hide hi2
    have R1 := hide (grown_at hg2 (heap_alloc_new w1 _) (by omega))
    have R2 := hide (grown_at hg2 ((heap_alloc_old _ _ z1).trans R0.out) (by omega))
    have HG2 := hide (grown_one (grown_alloc HG1.out _) hg2)
    have z2 : w1.heap.size < w2.heap.size := lt_of_heap R1.out
    clear hi2 hg2
    have f3 := fun o => frozen_of_row w2 w1.heap.size o _ _ R1.out
    have f4 := fun o => frozen_of_row w2 w.heap.size o _ _ R2.out
    have c0 : w2.cell? ⟨w1.heap.size, 0, none⟩ = some (.int .u8 1) := by rw [cell_of_row w2 _ 0 _ _ _ R1.out]; rfl
    have c1 : w2.cell? ⟨w1.heap.size, 1, none⟩ = some (.int .i64 0) := by rw [cell_of_row w2 _ 1 _ _ _ R1.out]; rfl
    have c2 : w2.cell? ⟨w1.heap.size, 2, none⟩ = some (.int .i64 0) := by rw [cell_of_row w2 _ 2 _ _ _ R1.out]; rfl
    have c3 : w2.cell? ⟨w1.heap.size, 3, none⟩ = some (.string ⟨#[]⟩) := by rw [cell_of_row w2 _ 3 _ _ _ R1.out]; rfl
    have d0 : w2.cell? ⟨w.heap.size, 0, none⟩ = some (.int .u8 0) := by rw [cell_of_row w2 _ 0 _ _ _ R2.out]; rfl
    have d1 : w2.cell? ⟨w.heap.size, 1, none⟩ = some (.int .i64 0) := by rw [cell_of_row w2 _ 1 _ _ _ R2.out]; rfl
    have d2 : w2.cell? ⟨w.heap.size, 2, none⟩ = some (.int .i64 0) := by rw [cell_of_row w2 _ 2 _ _ _ R2.out]; rfl
    have d3 : w2.cell? ⟨w.heap.size, 3, none⟩ = some (.string ⟨#[]⟩) := by rw [cell_of_row w2 _ 3 _ _ _ R2.out]; rfl
    have hne : w.heap.size ≠ w1.heap.size := by omega
    go_wp2_with fail
    have e4 : ((((((w2.setCell ⟨w1.heap.size, 3, none⟩ (.string ⟨text.toArray⟩)).setCell ⟨w.heap.size, 0, none⟩ (.int .u8 1)).setCell ⟨w.heap.size, 1, none⟩ (.int .i64 0)).setCell ⟨w.heap.size, 2, none⟩ (.int .i64 0)).setCell ⟨w.heap.size, 3, none⟩ (.string ⟨text.toArray⟩)).heap[w.heap.size]?) = some (.cells #[.int .u8 1, .int .i64 0, .int .i64 0, .string ⟨text.toArray⟩] 78 (0, 0)) :=
      heap_set_row (heap_set_row (heap_set_row (heap_set_row ((heap_setCell_other _ _ _ _ hne).trans R2.out) _) _) _) _
    refine bodyPost_ret (results_row rfl _ 4 (by decide) Try.underlying78 rfl (by kernel_rfl) _ _ w.heap.size _ rfl rfl (rowCells_of e4)) rfl ⟨rfl, ?_, ?_⟩
    · have hn1 : b ≠ w1.heap.size := by omega
      have hn2 : b ≠ w.heap.size := by omega
      exact (heap_setCell_other _ _ _ _ hn2).trans ((heap_setCell_other _ _ _ _ hn2).trans ((heap_setCell_other _ _ _ _ hn2).trans ((heap_setCell_other _ _ _ _ hn2).trans ((heap_setCell_other _ _ _ _ hn1).trans HI2.out))))
    · have hge : w.heap.size ≤ w1.heap.size := by omega
      exact grown_setCell (grown_setCell (grown_setCell (grown_setCell (grown_setCell HG2.out _ _ _ hge) _ _ _ (Nat.le_refl _)) _ _ _ (Nat.le_refl _)) _ _ _ (Nat.le_refl _)) _ _ _ (Nat.le_refl _)
end Go.Proofs.Ytjmbnfcjambdkaa
