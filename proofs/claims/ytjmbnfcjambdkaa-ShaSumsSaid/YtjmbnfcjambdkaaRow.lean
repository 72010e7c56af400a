/- A whole array stored into its block; what such a block holds behind stores. -/
import Derived.Test.YtjmbnfcjambdkaaAfter
import Derived.Laws.ResultCell
import Derived.Laws.CopyRow
import Derived.Laws.CopyOwn
namespace Go
/-- Is the block a row of n cells that may be written? -/
def World.rowOk (w : World) (b n : Nat) : Bool := match w.heap[b]? with | some (.cells cs _ (0, 0)) => cs.size == n | _ => false
end Go
namespace Go.Proofs.Ytjmbnfcjambdkaa
open Go.RowKit

theorem rowOk_of {w : World} {b : Nat} {cs : Array Value} {T : TypeId} (n : Nat) (h : w.heap[b]? = some (.cells cs T (0, 0))) : w.rowOk b n = (cs.size == n) := by simp [World.rowOk, h]
theorem rowOk_spec {w : World} {b n : Nat} (h : w.rowOk b n = true) : ∃ cs T, w.heap[b]? = some (.cells cs T (0, 0)) ∧ cs.size = n := by
  unfold World.rowOk at h
  split at h
  · rename_i cs T hb; exact ⟨cs, T, hb, by simpa using h⟩
  · cases h
@[go_sem] theorem rowOk_drew (w : World) (b n : Nat) : w.drew.rowOk b n = w.rowOk b n := rfl
@[go_sem] theorem rowOk_drewN (w : World) (b n k : Nat) : (w.drewN k).rowOk b n = w.rowOk b n := rfl
@[go_sem] theorem rowCells_drewN (w : World) (b k : Nat) : (w.drewN k).rowCells b = w.rowCells b := rfl
@[go_sem] theorem rowOk_new (w : World) (cs : Array Value) (T : TypeId) (n : Nat) : (w.alloc (.cells cs T (0, 0))).rowOk w.heap.size n = (cs.size == n) := rowOk_of n (heap_alloc_new w _)
@[go_sem] theorem rowOk_at (w : World) (cs : Array Value) (T : TypeId) (b n : Nat) (h : b = w.heap.size) : (w.alloc (.cells cs T (0, 0))).rowOk b n = (cs.size == n) := h ▸ rowOk_new w cs T n
@[go_sem] theorem rowCells_at (w : World) (cs : Array Value) (T : TypeId) (b : Nat) (h : b = w.heap.size) : (w.alloc (.cells cs T (0, 0))).rowCells b = cs := by subst h; exact rowCells_of (heap_alloc_new w _)
@[go_sem] theorem rowOk_old (w : World) (o : Obj) (b n : Nat) (h : b < w.heap.size) : (w.alloc o).rowOk b n = w.rowOk b n := by simp only [World.rowOk, heap_alloc_old w o h]
@[go_sem] theorem rowOk_setCell (w : World) (a : Addr) (v : Value) (b n : Nat) : (w.setCell a v).rowOk b n = w.rowOk b n := by
  by_cases hb : b = a.block
  · subst hb
    simp only [World.rowOk, World.setCell, Array.getElem?_modify, if_true]
    cases w.heap[a.block]? with
    | none => rfl
    | some o =>
      cases o with
      | cells cs t fr =>
        obtain ⟨lo, hi⟩ := fr
        match lo, hi with
        | 0, 0 => simp; split <;> simp
        | 0, k + 1 => rfl
        | l + 1, k => rfl
      | _ => simp
  · simp only [World.rowOk, heap_setCell_other w a b v hb]
@[go_sem] theorem rowOk_setRow_same (w : World) (b n : Nat) (cs : Array Value) (h : w.rowOk b n = true) : (w.setRow b cs).rowOk b n = (cs.size == n) := by
  obtain ⟨old, T, hb, _⟩ := rowOk_spec h
  exact rowOk_of n (setRow_heap w b old cs T (0, 0) hb)
@[go_sem] theorem rowOk_setRow_other (w : World) (g b n : Nat) (cs : Array Value) (h : b ≠ g) : (w.setRow g cs).rowOk b n = w.rowOk b n := by
  simp only [World.rowOk, setRow_other w g b cs h]
@[go_sem] theorem rowCells_setRow_other (w : World) (g b : Nat) (cs : Array Value) (h : b ≠ g) : (w.setRow g cs).rowCells b = w.rowCells b := by
  simp only [World.rowCells, setRow_other w g b cs h]
theorem rowCells_setRow_same {w : World} {b n : Nat} (cs : Array Value) (h : w.rowOk b n = true) : (w.setRow b cs).rowCells b = cs := by
  obtain ⟨old, T, hb, _⟩ := rowOk_spec h
  exact rowCells_of (setRow_heap w b old cs T (0, 0) hb)
theorem rowOk_below {B : Nat} {w w' : World} (h : Below B w w') {b : Nat} (hb : b < B) (n : Nat) : w'.rowOk b n = w.rowOk b n := by simp only [World.rowOk, h.block b hb]

@[go_sem] theorem size_setRow (w : World) (g : Nat) (cs : Array Value) : (w.setRow g cs).heap.size = w.heap.size := by simp [World.setRow]
@[go_sem] theorem spanAt_setRow_other (w : World) (g b o n : Nat) (cs : Array Value) (h : b ≠ g) : (w.setRow g cs).spanAt b o n = w.spanAt b o n := spanAt_of_heap (setRow_other w g b cs h) o n
theorem below_setRow {B : Nat} {a w : World} (h : Below B a w) {g : Nat} (hg : B ≤ g) (cs : Array Value) : Below B a (w.setRow g cs) :=
  ⟨h.os, h.tape, h.output, by rw [size_setRow]; exact h.size, fun k hk => by rw [setRow_other w g k cs (by omega)]; exact h.block k hk⟩
/-- Is each of them one cell? -/
def rowOnes (cs : Array Value) : Bool := cs.all (·.oneCell')
/-- A whole row of n cells is stored at an address; else: what is told. -/
def storeRow (w : World) (n : Nat) (k : World → Prop) (other : Prop) : Value → Value → Prop
  | .pointer (some ⟨b, 0, none⟩), .agg cs => if cs.size = n ∧ rowOnes cs = true ∧ w.rowOk b n = true then k (w.setRow b cs) else other
  | _, _ => other
@[go_sem] theorem storeRow_at (w : World) (n b : Nat) (cs : Array Value) (k : World → Prop) (other : Prop) :
    storeRow w n k other (.pointer (some ⟨b, 0, none⟩)) (.agg cs) = if cs.size = n ∧ rowOnes cs = true ∧ w.rowOk b n = true then k (w.setRow b cs) else other := rfl

theorem run_storeAt_row {P : Program} (T : TypeId) (w : World) (b : Nat) (cs : Array Value) (hi : (P.info? T).map (·.size) = some cs.size) (h1 : cs.all (·.oneCell') = true) (h : w.rowOk b cs.size = true) :
    (Instr.storeAt T (.pointer (some ⟨b, 0, none⟩)) (.agg cs)).run P w = .ok () (w.setRow b cs) := by
  obtain ⟨old, T', hb, hs⟩ := rowOk_spec h
  have := run_storeCells_at (P := P) b 0 T' cs.toList 0 old w hb (by simp [hs]) (fun v hv => (Array.all_eq_true_iff_forall_mem.1 h1) v (by simpa using hv))
  have hd : old.toList.drop cs.toList.length = [] := List.drop_of_length_le (by simp [hs])
  simp only [Nat.add_zero, Nat.zero_add, List.take_zero, List.nil_append, hd, List.append_nil, Array.toArray_toList] at this
  cases hq : P.info? T with
  | none => simp [hq] at hi
  | some i =>
    have hsz : cs.size = i.size := by simp [hq] at hi; omega
    simp [Instr.storeAt, Instr.sureAddr, storeVar, sizeOf, typeInfo, hq, Value.cells, hsz, this]
theorem wp_store_row_eq {P : Program} (T : TypeId) (n : Nat) (hi : (P.info? T).map (·.size) = some n)
    (dst : Option Tmp) (x y : Operand) (ty : TypeId) (pos : String) (after : Array Edge) (guard : Option (Nat × Bool)) (a : Act) (w : World) (K : Act → World → Prop) (Q : Exit → Act → World → Prop) :
    Oper.wp P ⟨dst, .store T x y, ty, pos, after, guard⟩ a w K Q = storeRow w n (fun w' => K (a.put dst undef) w') (wpSame P ⟨dst, .store T x y, ty, pos, after, guard⟩ a w K Q) (a.eval x) (a.eval y) := by
  unfold storeRow
  split
  · rename_i b cs hx hy
    split
    · rename_i h
      obtain ⟨h1, h2, h3⟩ := h
      have hrun := run_storeAt_row (P := P) T w b cs (by rw [hi, h1]) h2 (by rw [h1]; exact h3)
      unfold Oper.wp execOp
      simp only [hx, hy, Sem.run_bind, hrun, Result.andThen_ok, Sem.run_pure]
      rfl
    · rfl
  · rfl

/-! Results that lie in memory -/
theorem results_row_tmp {P : Program} {fn : Func} {p t : Tmp} {T : TypeId} (h : fn.results = #[.cell p T, .tmp t]) (d : TypeDesc) (n : Nat) (hn : 0 < n) (hu : P.underlying T = some d) (hd : (match d with | .struct _ | .array _ _ => true | _ => false) = true) (hi : (P.info? T).map (·.size) = some n)
    (tmps : Array Value) (w : World) (b : Nat) (cs : Array Value) (hp : tmps.getD p undef = .pointer (some ⟨b, 0, none⟩)) (hs : cs.size = n) (hr : w.rowCells b = cs) :
    (results fn tmps).run P w = .ok (.tuple #[.agg cs, tmps.getD t undef]) w := by
  subst hr
  unfold World.rowCells at hs ⊢
  cases hb : w.heap[b]? with
  | none => simp [hb] at hs; omega
  | some o =>
    cases o with
    | cells cs t' fr =>
      rw [hb] at hs
      have := run_loadVar_row (P := P) w b t' T cs fr d hb hu hd (by rw [hi]; exact congrArg some hs.symm)
      rw [results_cell_tmp h, hp]
      simp only [asAddr, Sem.run_pure, Result.andThen_ok, this]
    | _ => simp [hb] at hs; omega
theorem results_tmp_row_tmp {P : Program} {fn : Func} {p s t : Tmp} {T : TypeId} (h : fn.results = #[.tmp s, .cell p T, .tmp t]) (d : TypeDesc) (n : Nat) (hn : 0 < n) (hu : P.underlying T = some d) (hd : (match d with | .struct _ | .array _ _ => true | _ => false) = true) (hi : (P.info? T).map (·.size) = some n)
    (tmps : Array Value) (w : World) (b : Nat) (cs : Array Value) (hp : tmps.getD p undef = .pointer (some ⟨b, 0, none⟩)) (hs : cs.size = n) (hr : w.rowCells b = cs) :
    (results fn tmps).run P w = .ok (.tuple #[tmps.getD s undef, .agg cs, tmps.getD t undef]) w := by
  subst hr
  unfold World.rowCells at hs ⊢
  cases hb : w.heap[b]? with
  | none => simp [hb] at hs; omega
  | some o =>
    cases o with
    | cells cs t' fr =>
      rw [hb] at hs
      have := run_loadVar_row (P := P) w b t' T cs fr d hb hu hd (by rw [hi]; exact congrArg some hs.symm)
      have hp' : tmps[p]?.getD undef = .pointer (some ⟨b, 0, none⟩) := by simpa using hp
      simp [results, h, Sem.run_bind, Result.andThen, hp', asAddr, this]
    | _ => simp [hb] at hs; omega
theorem results_row {P : Program} {fn : Func} {p : Tmp} {T : TypeId} (h : fn.results = #[.cell p T]) (d : TypeDesc) (n : Nat) (hn : 0 < n) (hu : P.underlying T = some d) (hd : (match d with | .struct _ | .array _ _ => true | _ => false) = true) (hi : (P.info? T).map (·.size) = some n)
    (tmps : Array Value) (w : World) (b : Nat) (cs : Array Value) (hp : tmps.getD p undef = .pointer (some ⟨b, 0, none⟩)) (hs : cs.size = n) (hr : w.rowCells b = cs) :
    (results fn tmps).run P w = .ok (.agg cs) w := by
  subst hr
  unfold World.rowCells at hs ⊢
  cases hb : w.heap[b]? with
  | none => simp [hb] at hs; omega
  | some o =>
    cases o with
    | cells cs t' fr =>
      rw [hb] at hs
      exact results_cell_row h tmps w b t' cs fr d hp hb hu hd (by rw [hi]; exact congrArg some hs.symm)
    | _ => simp [hb] at hs; omega
end Go.Proofs.Ytjmbnfcjambdkaa
