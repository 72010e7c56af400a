/- wire.Row at texts, its lay being whatever function lays a text as Text does. -/
import Derived.Test.YtkkfnpbbigcpbaaWireRef
namespace Go.Proofs.Ytkkfnpbbigcpbaa
open Go.RowKit

theorem heap_mid3 (w : World) (o p q : Obj) : (((w.alloc o).alloc p).alloc q).heap[w.heap.size + 1]? = some p := by
  rw [heap_alloc_old _ _ (by simp)]; exact heap_two w o p
theorem heap_fst3 (w : World) (o p q : Obj) : (((w.alloc o).alloc p).alloc q).heap[w.heap.size]? = some o := by
  rw [heap_alloc_old _ _ (by simp; omega)]; exact heap_one w o p
theorem below3 (w : World) (o p q : Obj) : Below w.heap.size w (((w.alloc o).alloc p).alloc q) := (((Below.refl _ w).alloc (Nat.le_refl _) _).alloc (by simp) _).alloc (by simp; omega) _
theorem size3 (w : World) (o p q : Obj) : (((w.alloc o).alloc p).alloc q).heap.size = w.heap.size + 1 + 1 + 1 := by simp
theorem reads_fresh_at (w : World) (b : Nat) (hb : b = w.heap.size) (cs : List Value) (T : TypeId) (size m : Nat) (hl : cs.length = m * size) (h1 : ∀ u ∈ cs, u.oneCell' = true) (hm : m ≤ maxLen) : Reads (w.alloc (.cells cs.toArray T)) size (.slice (some ⟨b, 0, none⟩) m m) m cs :=
  hb ▸ reads_fresh w cs T size m hl h1 hm
/-- Function f lays a text. -/
def Lays1 (f : FuncId) : Prop := ∀ (T : List UInt8) (x : ByteArray) (B : List UInt8), B = T ++ lenText x → x.size ≤ 1000000 → T.length ≤ 900000000 → ∀ w : World,
  Calls Try.prog f #[.agg #[.string ⟨T.toArray⟩], .string x] w fun e w' => e = .returned (.agg #[.string ⟨B.toArray⟩]) ∧ Below w.heap.size w w'
set_option maxRecDepth 20000 in
set_option maxHeartbeats 1000000 in
theorem call1 : ∀ (args : Array Value) (w' : World), (callFunc 70 args).run Try.prog w' = .ok (.enter 70 args) w' := fun _ _ => by kernel_rfl
theorem call2 : ∀ (args : Array Value) (w' : World), (callFunc 76 args).run Try.prog w' = .ok (.enter 76 args) w' := fun _ _ => by kernel_rfl
set_option maxRecDepth 20000 in
set_option maxHeartbeats 1000000 in
theorem lay2 : Lays1 76 := by
  intro T x B hB hx hT w
  have HB := hide hB
  clear hB
  go_enter Try.func76, Try.ntmps76
  go_wp2_with fail
  refine (outText1 T x _ B HB.out _ (reads_fresh_at _ (w.heap.size + 1 + 1) (by simp) [.string x] 9 1 1 rfl (by simp [Value.oneCell']) (by unfold maxLen; omega)) hx hT).mono ?_
  rintro e w1 ⟨rfl, hb1⟩
  have HB1 := hide ((below3 w _ _ _).trans (hb1.mono (by rw [size3]; omega)))
  have HR := hide ((hb1.block (w.heap.size + 1) (by rw [size3]; omega)).trans (heap_mid3 w _ _ _))
  clear hb1
  have hst := one_cell HR.out
  have hfz := frozen_of_row w1 (w.heap.size + 1) 0 _ _ HR.out
  go_wp2_with fail
  exact ret_out_cell rfl (w.heap.size + 1) B rfl (rowCells_of (heap_set_row HR.out _)) rfl ⟨rfl, HB1.out.setCell (by simp) _⟩
set_option maxRecDepth 20000 in
set_option maxHeartbeats 1000000 in
theorem lay1 : Lays1 70 := by
  intro T x B hB hx hT w
  have HB := hide hB
  clear hB
  go_enter Try.func70, Try.ntmps70
  go_wp2_with fail
  refine (outText1 T x _ B HB.out _ (reads_fresh_at _ (w.heap.size + 1 + 1) (by simp) [.string x] 9 1 1 rfl (by simp [Value.oneCell']) (by unfold maxLen; omega)) hx hT).mono ?_
  rintro e w1 ⟨rfl, hb1⟩
  have HB1 := hide ((below3 w _ _ _).trans (hb1.mono (by rw [size3]; omega)))
  have HR := hide ((hb1.block (w.heap.size + 1) (by rw [size3]; omega)).trans (heap_mid3 w _ _ _))
  clear hb1
  have hst := one_cell HR.out
  have hfz := frozen_of_row w1 (w.heap.size + 1) 0 _ _ HR.out
  go_wp2_with fail
  exact ret_out_cell rfl (w.heap.size + 1) B rfl (rowCells_of (heap_set_row HR.out _)) rfl ⟨rfl, HB1.out.setCell (by simp) _⟩
set_option maxRecDepth 20000 in
set_option maxHeartbeats 2000000 in
theorem row_any (f : FuncId) (hcall : ∀ (args : Array Value) (w' : World), (callFunc f args).run Try.prog w' = .ok (.enter f args) w') (hf : Lays1 f) (s : List UInt8) (v : Value) (xs : List ByteArray) (B : List UInt8) (hB : B = s ++ be 4 xs.length ++ xs.flatMap lenText) (w : World) (hr : Reads w 1 v xs.length (strs xs)) (hn : xs.length ≤ 1000) (hx : ∀ x ∈ xs, x.size ≤ 10000) (hs : s.length ≤ 1000) :
    Calls Try.prog 69 #[.agg #[.string ⟨s.toArray⟩], v, .func (.func f) #[] #[]] w fun e w' => e = .returned (.agg #[.string ⟨B.toArray⟩]) ∧ Below w.heap.size w w' := by
  obtain ⟨a0, c0, rfl⟩ := hr.shape
  have HRD := hide hr
  have HX := hide hx
  have HB := hide hB
  have HF := hide hf
  clear hr hx hB hf
  obtain ⟨S0, hS0⟩ : ∃ S0, Hid (S0 = s ++ be 4 xs.length) := ⟨_, hide rfl⟩
  have hS0l := hide (show S0.length = s.length + 4 by rw [hS0.out, List.length_append, be_length])
  go_enter Try.func69, Try.ntmps69
  go_wp2_with fail
  refine (outFour1 s xs.length _ S0 hS0.out _ (reads_fresh_at _ (w.heap.size + 1 + 1) (by simp) [.int .u32 (xs.length : Int)] 28 1 1 rfl (by simp [Value.oneCell']) (by unfold maxLen; omega)) (by omega) (by omega)).mono ?_
  rintro e w1 ⟨rfl, hb1⟩
  have HB1 := hide ((below3 w _ _ _).trans (hb1.mono (by rw [size3]; omega)))
  have HR2 := hide ((hb1.block (w.heap.size + 1) (by rw [size3]; omega)).trans (heap_mid3 w _ _ _))
  have HR := hide ((hb1.block w.heap.size (by rw [size3]; omega)).trans (heap_fst3 w _ _ _))
  clear hb1
  have hst := one_cell HR.out
  have hfz := frozen_of_row w1 w.heap.size 0 _ _ HR.out
  go_wp2_with fail
  go_loopw [17, 8] (fun i _ wr => ∃ k : Nat, k ≤ xs.length ∧ i = .int .i64 k ∧ wr.heap[w.heap.size]? = some (.cells #[.string ⟨(S0 ++ (xs.take k).flatMap lenText).toArray⟩] 80 (0, 0)) ∧ wr.heap[w.heap.size + 1]? = some (.cells #[.string ⟨#[]⟩] 80 (0, 0)) ∧ Below w.heap.size w wr) (fun i _ _ => xs.length - (intOf i).toNat)
  case atStart =>
    refine ⟨0, by omega, rfl, ?_, ?_, HB1.out.setCell (Nat.le_refl _) _⟩
    · rw [heap_set_row HR.out]; simp
    · rw [heap_setCell_other _ _ _ _ (by simp)]; exact HR2.out
  case round =>
    obtain ⟨k, hk, rfl, hr, hr2, hb⟩ := hrel
    clear hst hfz HR HR2 HB1
    have HR := hide hr
    have HR2 := hide hr2
    clear hr hr2
    by_cases hlt : k < xs.length
    · obtain ⟨b, o, c2, hv⟩ := HRD.out.isRow (by omega)
      cases hv
      have hlen := hide (flat_take_len lenText 10004 xs k (lenText_le xs 10000 HX.out))
      obtain ⟨T, hT⟩ : ∃ T, Hid (S0 ++ (xs.take k).flatMap lenText = T) := ⟨_, hide rfl⟩
      rw [hT.out] at HR
      have hTl := hide (show T.length ≤ 900000000 by have h1 := hlen.out; have h2 := hS0l.out; rw [← hT.out, List.length_append]; omega)
      obtain ⟨x, hxk⟩ : ∃ x, Hid (xs[k] = x) := ⟨_, hide rfl⟩
      have hxm := hide (HX.out xs[k] (List.getElem_mem hlt))
      have hcell := (HRD.out.below hb).cellAt k _ (strs_get xs k hlt)
      rw [hxk.out] at hcell hxm
      obtain ⟨C, hC⟩ : ∃ C, Hid (C = T ++ lenText x) := ⟨_, hide rfl⟩
      have hst := one_cell HR.out
      have hfz := frozen_of_row wr w.heap.size 0 _ _ HR.out
      go_wp2_with fail
      refine (HF.out T x C hC.out (by have := hxm.out; omega) hTl.out _).mono ?_
      rintro e2 w2 ⟨rfl, hb2⟩
      have HB2 := hide hb2
      have HR3 := hide ((hb2.block _ (lt_of_heap HR.out)).trans HR.out)
      have HR4 := hide ((hb2.block _ (lt_of_heap HR2.out)).trans HR2.out)
      clear hb2
      have hst3 := one_cell HR3.out
      have hfz3 := frozen_of_row w2 w.heap.size 0 _ _ HR3.out
      go_wp2_with fail
      go_roundw
      case rel =>
        refine ⟨k + 1, by omega, by go_num, ?_, ?_, (hb.trans (HB2.out.mono hb.size)).setCell (Nat.le_refl _) _⟩
        · rw [heap_set_row HR3.out, flat_snoc _ xs k hlt, ← List.append_assoc, hT.out, hxk.out, hC.out]; rfl
        · rw [heap_setCell_other _ _ _ _ (by simp)]; exact HR4.out
      case measure => simp [intOf]; omega
    · obtain rfl : k = xs.length := by omega
      have hst := one_cell HR.out
      have hst2 := one_cell HR2.out
      have hfz2 := frozen_of_row wr (w.heap.size + 1) 0 _ _ HR2.out
      go_wp2_with fail
      refine ret_out_cell rfl (w.heap.size + 1) _ rfl (rowCells_of (heap_set_row HR2.out _)) rfl ⟨?_, hb.setCell (by simp) _⟩
      rw [HB.out, ← hS0.out]; rfl
end Go.Proofs.Ytkkfnpbbigcpbaa
