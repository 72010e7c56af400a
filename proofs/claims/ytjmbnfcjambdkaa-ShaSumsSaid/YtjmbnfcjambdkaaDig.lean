/- Digests in memory: made, stored, handed back. -/
import Derived.Test.YtjmbnfcjambdkaaHex
import Derived.Test.YtjmbnfcjambdkaaRow
namespace Go.Proofs.Ytjmbnfcjambdkaa
open Go.RowKit

@[simp, go_sem] theorem dgst_one (d : Dig) : rowOnes (dgst d) = true := by
  unfold rowOnes
  rw [Array.all_eq_true_iff_forall_mem]
  intro v hv
  simp only [dgst, Lib.byteCells, List.mem_toArray, List.mem_map] at hv
  obtain ⟨c, _, rfl⟩ := hv
  rfl
theorem info_dgst : (Try.prog.info? 24).map (·.size) = some 32 := by kernel_rfl
theorem run_zero_dgst (w : World) : (zeroValue 24).run Try.prog w = .ok (.agg (dgst dig0)) w := by kernel_rfl
theorem run_alloc_dgst (w : World) (old : Value) : (Instr.alloc 24 true old).run Try.prog w = .ok (.pointer (some ⟨w.heap.size, 0, none⟩)) (w.alloc (.cells (dgst dig0) 24)) := by
  unfold Instr.alloc
  simp only [Sem.run_bind, run_zero_dgst, Result.andThen_ok]
  rfl
theorem run_build_dgst (w : World) : (Instr.build 24 #[]).run Try.prog w = .ok (.agg (dgst dig0)) w := by kernel_rfl
section
variable (dst : Option Tmp) (x y : Operand) (ty : TypeId) (pos : String) (after : Array Edge) (guard : Option (Nat × Bool)) (a : Act) (w : World) (K : Act → World → Prop) (Q : Exit → Act → World → Prop)
@[go_sem ↓] theorem wp_alloc_dgst : Oper.wp Try.prog ⟨dst, .alloc 24, ty, pos, after, guard⟩ a w K Q = K (a.put dst (.pointer (some ⟨w.heap.size, 0, none⟩))) (w.alloc (.cells (dgst dig0) 24)) := by
  unfold Oper.wp execOp
  simp only [Sem.run_bind, run_alloc_dgst, Result.andThen_ok, Sem.run_pure]
  rfl
theorem map_none {α β : Type} (f : α → β) : (#[] : Array α).map f = #[] := Array.map_empty
@[go_sem ↓] theorem wp_build_dgst : Oper.wp Try.prog ⟨dst, .build 24 #[], ty, pos, after, guard⟩ a w K Q = K (a.put dst (.agg (dgst dig0))) w := by
  have h := run_build_dgst w
  unfold Oper.wp execOp
  generalize dgst dig0 = V at h ⊢
  simp only [Array.map_empty, Sem.run_bind, h, Result.andThen_ok, Sem.run_pure]
  rfl
@[go_sem ↓] theorem wp_store_dgst : Oper.wp Try.prog ⟨dst, .store 24 x y, ty, pos, after, guard⟩ a w K Q = storeRow w 32 (fun w' => K (a.put dst undef) w') (wpSame Try.prog ⟨dst, .store 24 x y, ty, pos, after, guard⟩ a w K Q) (a.eval x) (a.eval y) :=
  wp_store_row_eq 24 32 info_dgst dst x y ty pos after guard a w K Q
end
/-- A digest with another byte at a place. -/
def Dig.set (d : Dig) (k : Nat) (c : UInt8) : Dig := ⟨d.bytes.set k c, by rw [List.length_set]; exact d.len⟩
theorem dgst_set (d : Dig) (k : Nat) (c : UInt8) : (dgst d).setIfInBounds k (.int .u8 (c.toNat : Int)) = dgst (d.set k c) := by
  simp [dgst, Dig.set, Lib.byteCells, List.map_set]
theorem row_set {w : World} {b : Nat} {d : Dig} {T : TypeId} (h : w.heap[b]? = some (.cells (dgst d) T (0, 0))) (k : Nat) (c : UInt8) : (w.setCell ⟨b, k, none⟩ (.int .u8 (c.toNat : Int))).heap[b]? = some (.cells (dgst (d.set k c)) T (0, 0)) := by
  rw [heap_setCell_same w b k (dgst d) T _ h, dgst_set]

theorem cell_dgst {w : World} {b : Nat} {d : Dig} (h : w.rowCells b = dgst d) (k : Nat) (hk : k < 32) : w.cell? ⟨b, k, none⟩ = some (.int .u8 ((d.bytes.getD k 0).toNat : Int)) := by
  refine cell_of_rowCells h ?_
  have hl : k < d.bytes.length := by rw [d.len]; exact hk
  rw [dgst_get d k hl]
  simp [List.getD_eq_getElem?_getD, hl]
theorem ret_dig_tmp {fn : Func} {p t : Tmp} (h : fn.results = #[.cell p 24, .tmp t]) {R : Ending → World → Prop} {a : Act} {w : World} (b : Nat) (d : Dig) (hp : a.tmps.getD p undef = .pointer (some ⟨b, 0, none⟩)) (hr : w.rowCells b = dgst d) (hd : a.defers = [])
    (hR : R (.returned (.tuple #[.agg (dgst d), a.tmps.getD t undef])) w) : bodyPost Try.prog fn R .ret a w :=
  bodyPost_ret (results_row_tmp h _ 32 (by omega) Try.underlying24 rfl (by kernel_rfl) _ _ b _ hp (dgst_size d) hr) hd hR
theorem ret_tmp_dig_tmp {fn : Func} {p s t : Tmp} (h : fn.results = #[.tmp s, .cell p 24, .tmp t]) {R : Ending → World → Prop} {a : Act} {w : World} (b : Nat) (d : Dig) (hp : a.tmps.getD p undef = .pointer (some ⟨b, 0, none⟩)) (hr : w.rowCells b = dgst d) (hd : a.defers = [])
    (hR : R (.returned (.tuple #[a.tmps.getD s undef, .agg (dgst d), a.tmps.getD t undef])) w) : bodyPost Try.prog fn R .ret a w :=
  bodyPost_ret (results_tmp_row_tmp h _ 32 (by omega) Try.underlying24 rfl (by kernel_rfl) _ _ b _ hp (dgst_size d) hr) hd hR
theorem ret_dig {fn : Func} {p : Tmp} (h : fn.results = #[.cell p 24]) {R : Ending → World → Prop} {a : Act} {w : World} (b : Nat) (d : Dig) (hp : a.tmps.getD p undef = .pointer (some ⟨b, 0, none⟩)) (hr : w.rowCells b = dgst d) (hd : a.defers = [])
    (hR : R (.returned (.agg (dgst d))) w) : bodyPost Try.prog fn R .ret a w :=
  bodyPost_ret (results_row h _ 32 (by omega) Try.underlying24 rfl (by kernel_rfl) _ _ b _ hp (dgst_size d) hr) hd hR
end Go.Proofs.Ytjmbnfcjambdkaa
