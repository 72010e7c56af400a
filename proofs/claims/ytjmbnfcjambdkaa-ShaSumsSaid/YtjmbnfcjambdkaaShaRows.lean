/- Rows of words: [8]uint32 and [64]uint32 as whole values. -/
import Derived.Test.YtjmbnfcjambdkaaShaRoot
import Derived.Test.YtjmbnfcjambdkaaRow
import Derived.Test.YtjmbnfcjambdkaaHexPlain
namespace Go.Proofs.Ytjmbnfcjambdkaa
open Go.RowKit
/-- So many words. -/
structure Ws (n : Nat) where
  l : List UInt32
  len : l.length = n
def wcells (l : List UInt32) : List Value := l.map fun x : UInt32 => Value.int .u32 (x.toNat : Int)
def wsv {n : Nat} (x : Ws n) : Array Value := (wcells x.l).toArray
@[simp, go_sem] theorem wsv_size {n : Nat} (x : Ws n) : (wsv x).size = n := by simp [wsv, wcells, x.len]
@[simp, go_sem] theorem wsv_ones {n : Nat} (x : Ws n) : rowOnes (wsv x) = true := by
  unfold rowOnes
  rw [Array.all_eq_true_iff_forall_mem]
  intro v hv
  simp only [wsv, wcells, List.mem_toArray, List.mem_map] at hv
  obtain ⟨c, _, rfl⟩ := hv
  rfl
theorem wsv_get {n : Nat} (x : Ws n) (k : Nat) (y : UInt32) (h : x.l[k]? = some y) : (wsv x)[k]? = some (.int .u32 (y.toNat : Int)) := by simp [wsv, wcells, h]
def Ws.zero (n : Nat) : Ws n := ⟨List.replicate n 0, List.length_replicate⟩
def Ws.set {n : Nat} (x : Ws n) (k : Nat) (y : UInt32) : Ws n := ⟨x.l.set k y, by rw [List.length_set]; exact x.len⟩
theorem wsv_set {n : Nat} (x : Ws n) (k : Nat) (y : UInt32) : (wsv x).setIfInBounds k (.int .u32 (y.toNat : Int)) = wsv (x.set k y) := by
  simp [wsv, wcells, Ws.set, List.map_set]
theorem wrow_set {w : World} {b n : Nat} {x : Ws n} {T : TypeId} (h : w.heap[b]? = some (.cells (wsv x) T (0, 0))) (k : Nat) (y : UInt32) : (w.setCell ⟨b, k, none⟩ (.int .u32 (y.toNat : Int))).heap[b]? = some (.cells (wsv (x.set k y)) T (0, 0)) := by
  rw [heap_setCell_same w b k (wsv x) T _ h, wsv_set]
theorem wcell {w : World} {b n : Nat} {x : Ws n} {T : TypeId} (h : w.heap[b]? = some (.cells (wsv x) T (0, 0))) (k : Nat) (y : UInt32) (hy : x.l[k]? = some y) : w.cell? ⟨b, k, none⟩ = some (.int .u32 (y.toNat : Int)) := by
  rw [cell_of_row w b k _ _ _ h, wsv_get x k y hy]
theorem info_w64 : (Try.prog.info? 107).map (·.size) = some 64 := by kernel_rfl
theorem info_w8 : (Try.prog.info? 105).map (·.size) = some 8 := by kernel_rfl
theorem run_zero_w64 (w : World) : (zeroValue 107).run Try.prog w = .ok (.agg (wsv (Ws.zero 64))) w := by kernel_rfl
theorem run_zero_w8 (w : World) : (zeroValue 105).run Try.prog w = .ok (.agg (wsv (Ws.zero 8))) w := by kernel_rfl
theorem run_alloc_w64 (w : World) (old : Value) : (Instr.alloc 107 true old).run Try.prog w = .ok (.pointer (some ⟨w.heap.size, 0, none⟩)) (w.alloc (.cells (wsv (Ws.zero 64)) 107)) := by
  unfold Instr.alloc
  simp only [Sem.run_bind, run_zero_w64, Result.andThen_ok]
  rfl
theorem run_alloc_w8 (w : World) (old : Value) : (Instr.alloc 105 true old).run Try.prog w = .ok (.pointer (some ⟨w.heap.size, 0, none⟩)) (w.alloc (.cells (wsv (Ws.zero 8)) 105)) := by
  unfold Instr.alloc
  simp only [Sem.run_bind, run_zero_w8, Result.andThen_ok]
  rfl
section
variable (dst : Option Tmp) (x y : Operand) (ty : TypeId) (pos : String) (after : Array Edge) (guard : Option (Nat × Bool)) (a : Act) (w : World) (K : Act → World → Prop) (Q : Exit → Act → World → Prop)
@[go_sem ↓] theorem wp_alloc_w64 : Oper.wp Try.prog ⟨dst, .alloc 107, ty, pos, after, guard⟩ a w K Q = K (a.put dst (.pointer (some ⟨w.heap.size, 0, none⟩))) (w.alloc (.cells (wsv (Ws.zero 64)) 107)) := by
  unfold Oper.wp execOp
  simp only [Sem.run_bind, run_alloc_w64, Result.andThen_ok, Sem.run_pure]
  rfl
@[go_sem ↓] theorem wp_alloc_w8 : Oper.wp Try.prog ⟨dst, .alloc 105, ty, pos, after, guard⟩ a w K Q = K (a.put dst (.pointer (some ⟨w.heap.size, 0, none⟩))) (w.alloc (.cells (wsv (Ws.zero 8)) 105)) := by
  unfold Oper.wp execOp
  simp only [Sem.run_bind, run_alloc_w8, Result.andThen_ok, Sem.run_pure]
  rfl
@[go_sem ↓] theorem wp_store_w64 : Oper.wp Try.prog ⟨dst, .store 107 x y, ty, pos, after, guard⟩ a w K Q = storeRow w 64 (fun w' => K (a.put dst undef) w') (wpSame Try.prog ⟨dst, .store 107 x y, ty, pos, after, guard⟩ a w K Q) (a.eval x) (a.eval y) :=
  wp_store_row_eq 107 64 info_w64 dst x y ty pos after guard a w K Q
@[go_sem ↓] theorem wp_store_w8 : Oper.wp Try.prog ⟨dst, .store 105 x y, ty, pos, after, guard⟩ a w K Q = storeRow w 8 (fun w' => K (a.put dst undef) w') (wpSame Try.prog ⟨dst, .store 105 x y, ty, pos, after, guard⟩ a w K Q) (a.eval x) (a.eval y) :=
  wp_store_row_eq 105 8 info_w8 dst x y ty pos after guard a w K Q
@[go_sem ↓] theorem wp_load_w64 : Oper.wp Try.prog ⟨dst, .load 107 x, ty, pos, after, guard⟩ a w K Q = loadRow w 64 (fun cs => K (a.put dst (.agg cs)) w) (wpSame Try.prog ⟨dst, .load 107 x, ty, pos, after, guard⟩ a w K Q) (a.eval x) :=
  wp_load_row_eq 107 _ 64 (by decide) Try.underlying107 rfl info_w64 dst x ty pos after guard a w K Q
@[go_sem ↓] theorem wp_load_w8 : Oper.wp Try.prog ⟨dst, .load 105 x, ty, pos, after, guard⟩ a w K Q = loadRow w 8 (fun cs => K (a.put dst (.agg cs)) w) (wpSame Try.prog ⟨dst, .load 105 x, ty, pos, after, guard⟩ a w K Q) (a.eval x) :=
  wp_load_row_eq 105 _ 8 (by decide) Try.underlying105 rfl info_w8 dst x ty pos after guard a w K Q
end
theorem ret_w64 {fn : Func} {p : Tmp} (h : fn.results = #[.cell p 107]) {R : Ending → World → Prop} {a : Act} {w : World} (b : Nat) (d : Ws 64) (hp : a.tmps.getD p undef = .pointer (some ⟨b, 0, none⟩)) (hr : w.rowCells b = wsv d) (hd : a.defers = [])
    (hR : R (.returned (.agg (wsv d))) w) : bodyPost Try.prog fn R .ret a w :=
  bodyPost_ret (results_row h _ 64 (by omega) Try.underlying107 rfl (by kernel_rfl) _ _ b _ hp (wsv_size d) hr) hd hR
theorem ret_w8 {fn : Func} {p : Tmp} (h : fn.results = #[.cell p 105]) {R : Ending → World → Prop} {a : Act} {w : World} (b : Nat) (d : Ws 8) (hp : a.tmps.getD p undef = .pointer (some ⟨b, 0, none⟩)) (hr : w.rowCells b = wsv d) (hd : a.defers = [])
    (hR : R (.returned (.agg (wsv d))) w) : bodyPost Try.prog fn R .ret a w :=
  bodyPost_ret (results_row h _ 8 (by omega) Try.underlying105 rfl (by kernel_rfl) _ _ b _ hp (wsv_size d) hr) hd hR
end Go.Proofs.Ytjmbnfcjambdkaa
