/- refs.table: place, at; refs.State: Branch, Tag. -/
import Derived.Test.YtjmbnfcjambdkaaRefsCells
namespace Go.Proofs.Ytjmbnfcjambdkaa
open Go.RowKit
set_option maxHeartbeats 1000000 in
theorem place_any (v : Value) (L : List RefT) (n : List UInt8) (w : World) (hr : Reads w 33 v L.length (refCells L)) (hL : Rising L) (hl : L.length ≤ 100000) :
    Calls Try.prog 87 #[v, .string ⟨n.toArray⟩] w fun e w' => e = .returned (.tuple #[.int .i64 (lowI L n : Int), .bool (foundI L n)]) ∧ Below w.heap.size w w' := by
  have HS := hide (search_any v L n w hr hL hl)
  obtain ⟨a0, c0, rfl⟩ := hr.shape
  clear hr
  go_enter Try.func87, Try.ntmps87
  go_wp2_with fail
  refine HS.out.mono ?_
  rintro e w' ⟨rfl, hb⟩
  have HB := hide hb
  clear hb
  go_wp2_with fail
  go_ret2
  exact ⟨rfl, HB.out⟩
set_option maxRecDepth 20000 in
set_option maxHeartbeats 1000000 in
theorem at_any (v : Value) (L : List RefT) (n : List UInt8) (w : World) (hr : Reads w 33 v L.length (refCells L)) (hL : Rising L) (hl : L.length ≤ 100000) :
    Calls Try.prog 41 #[v, .string ⟨n.toArray⟩] w fun e w' => e = .returned (.tuple #[.agg (dgst (atI L n)), .bool (foundI L n)]) ∧ Below w.heap.size w w' := by
  have HR := hide hr
  have HP := hide (fun w' (h : Reads w' 33 v L.length (refCells L)) => place_any v L n w' h hL hl)
  obtain ⟨a0, c0, rfl⟩ := hr.shape
  clear hr
  go_enter Try.func41, Try.ntmps41
  go_wp2_with fail
  refine (HP.out _ (HR.out.alloc _)).mono ?_
  rintro e w1 ⟨rfl, hb⟩
  have R0 := hide ((hb.block w.heap.size (by simp)).trans (heap_alloc_new w _))
  have HB := hide (((Below.refl _ w).alloc (Nat.le_refl _) _).trans (hb.mono (by simp)))
  have HR1 := hide ((HR.out.alloc _).below hb)
  clear hb
  have rk0 := rowOk_of 32 R0.out
  rw [dgst_size] at rk0
  have rk1 : w1.rowOk w.heap.size 32 = true := by rw [rk0]; rfl
  clear rk0
  cases hf : foundI L n with
  | false =>
    have ha := hide (atI_none hf)
    have HF := hide hf
    clear hf
    go_wp2_with fail
    refine ret_dig_tmp rfl w.heap.size dig0 rfl (rowCells_setRow_same _ rk1) rfl ⟨?_, below_setRow HB.out (Nat.le_refl _) _⟩
    rw [ha.out, HF.out]
    rfl
  | true =>
    have hlt := found_lt hf
    have ha := hide (atI_found hf hlt)
    have HF := hide hf
    obtain ⟨b, o, c, hv⟩ := HR.out.isRow (by omega)
    cases hv
    have hsp := reads_refDig HR1.out _ hlt
    obtain ⟨d, hd⟩ : ∃ d, Hid (L[lowI L n].2 = d) := ⟨_, hide rfl⟩
    rw [hd.out] at hsp ha
    obtain ⟨i, hi⟩ : ∃ i, Hid (lowI L n = i) := ⟨_, hide rfl⟩
    rw [hi.out] at hsp hlt ⊢
    have hlti : (i : Int) < (L.length : Int) := by omega
    clear hf
    go_wp2_with fail
    refine ret_dig_tmp rfl w.heap.size d rfl (rowCells_setRow_same _ rk1) rfl ⟨?_, below_setRow HB.out (Nat.le_refl _) _⟩
    rw [ha.out, HF.out]
    rfl
/-- A state: its head, its branches, its tags, its next number. -/
def stA (h : ByteArray) (b t : Value) (x : Int) : Array Value := #[.string h, b, t, .int .u64 x]
set_option maxRecDepth 20000 in
set_option maxHeartbeats 1000000 in
theorem branch_any (h : ByteArray) (v t : Value) (x : Int) (L : List RefT) (n : List UInt8) (w : World) (hr : Reads w 33 v L.length (refCells L)) (hL : Rising L) (hl : L.length ≤ 100000) :
    Calls Try.prog 14 #[.agg #[.string h, v, t, .int .u64 x], .string ⟨n.toArray⟩] w fun e w' => e = .returned (.tuple #[.agg (dgst (atI L n)), .bool (foundI L n)]) ∧ Below w.heap.size w w' := by
  have HR := hide hr
  have HP := hide (fun w' (h : Reads w' 33 v L.length (refCells L)) => at_any v L n w' h hL hl)
  obtain ⟨a0, c0, rfl⟩ := hr.shape
  clear hr
  go_enter Try.func14, Try.ntmps14
  go_wp2_with fail
  refine (HP.out _ ((HR.out.alloc _).alloc _)).mono ?_
  rintro e w1 ⟨rfl, hb⟩
  have R0 := hide ((hb.block (w.heap.size + 1) (by simp)).trans (heap_alloc2_new w _ _))
  have HB := hide ((((Below.refl _ w).alloc (Nat.le_refl _) _).alloc (by simp) _).trans (hb.mono (by simp; omega)))
  clear hb
  have rk0 := rowOk_of 32 R0.out
  rw [dgst_size] at rk0
  have rk1 : w1.rowOk (w.heap.size + 1) 32 = true := by rw [rk0]; rfl
  clear rk0
  obtain ⟨d, hd⟩ : ∃ d, Hid (atI L n = d) := ⟨_, hide rfl⟩
  obtain ⟨f, hf⟩ : ∃ f, Hid (foundI L n = f) := ⟨_, hide rfl⟩
  rw [hd.out, hf.out]
  go_wp2_with fail
  refine ret_dig_tmp rfl (w.heap.size + 1) d rfl (rowCells_setRow_same _ rk1) rfl ⟨?_, below_setRow HB.out (by omega) _⟩
  rw [hd.out, hf.out]
  rfl
set_option maxRecDepth 20000 in
set_option maxHeartbeats 1000000 in
theorem tag_any (h : ByteArray) (v t : Value) (x : Int) (L : List RefT) (n : List UInt8) (w : World) (hr : Reads w 33 v L.length (refCells L)) (hL : Rising L) (hl : L.length ≤ 100000) :
    Calls Try.prog 38 #[.agg #[.string h, t, v, .int .u64 x], .string ⟨n.toArray⟩] w fun e w' => e = .returned (.tuple #[.agg (dgst (atI L n)), .bool (foundI L n)]) ∧ Below w.heap.size w w' := by
  have HR := hide hr
  have HP := hide (fun w' (h : Reads w' 33 v L.length (refCells L)) => at_any v L n w' h hL hl)
  obtain ⟨a0, c0, rfl⟩ := hr.shape
  clear hr
  go_enter Try.func38, Try.ntmps38
  go_wp2_with fail
  refine (HP.out _ ((HR.out.alloc _).alloc _)).mono ?_
  rintro e w1 ⟨rfl, hb⟩
  have R0 := hide ((hb.block (w.heap.size + 1) (by simp)).trans (heap_alloc2_new w _ _))
  have HB := hide ((((Below.refl _ w).alloc (Nat.le_refl _) _).alloc (by simp) _).trans (hb.mono (by simp; omega)))
  clear hb
  have rk0 := rowOk_of 32 R0.out
  rw [dgst_size] at rk0
  have rk1 : w1.rowOk (w.heap.size + 1) 32 = true := by rw [rk0]; rfl
  clear rk0
  obtain ⟨d, hd⟩ : ∃ d, Hid (atI L n = d) := ⟨_, hide rfl⟩
  obtain ⟨f, hf⟩ : ∃ f, Hid (foundI L n = f) := ⟨_, hide rfl⟩
  rw [hd.out, hf.out]
  go_wp2_with fail
  refine ret_dig_tmp rfl (w.heap.size + 1) d rfl (rowCells_setRow_same _ rk1) rfl ⟨?_, below_setRow HB.out (by omega) _⟩
  rw [hd.out, hf.out]
  rfl
end Go.Proofs.Ytjmbnfcjambdkaa
