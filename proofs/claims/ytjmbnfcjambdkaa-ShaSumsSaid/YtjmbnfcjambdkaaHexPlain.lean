/- Plain lemmas on a digest's bytes and its text in base sixteen; a whole array read out of its block. -/
import Derived.Deep.MidRow
import Derived.Test.YtjmbnfcjambdkaaLib
import Derived.Lib.UnsafeStr
import Derived.Lib.Builder
import Derived.Deep.RegionHeld3
namespace Go
/-- The cells of a block; none: no cells. -/
def World.rowCells (w : World) (b : Nat) : Array Value := match w.heap[b]? with | some (.cells cs _ _) => cs | _ => #[]
end Go
namespace Go
/-- The n cells of a block from a place on. -/
def World.spanAt (w : World) (b o n : Nat) : Option (Array Value) := match w.heap[b]? with
  | some (.cells cs _ _) => if o + n ≤ cs.size then some (cs.extract o (o + n)) else none
  | _ => none
/-- The same, under a name that no rule opens. -/
def World.spanSame (w : World) (b n : Nat) : Option (Array Value) := w.spanAt b 0 n
end Go
namespace Go.Proofs.Ytjmbnfcjambdkaa
open Go.RowKit

theorem rowCells_of {w : World} {b : Nat} {cs : Array Value} {T : TypeId} {fr : Nat × Nat} (h : w.heap[b]? = some (.cells cs T fr)) : w.rowCells b = cs := by simp [World.rowCells, h]
@[go_sem] theorem rowCells_drew (w : World) (b : Nat) : w.drew.rowCells b = w.rowCells b := rfl
@[go_sem] theorem rowCells_new (w : World) (cs : Array Value) (T : TypeId) (fr : Nat × Nat) : (w.alloc (.cells cs T fr)).rowCells w.heap.size = cs := rowCells_of (heap_alloc_new w _)
@[go_sem] theorem rowCells_old (w : World) (o : Obj) (b : Nat) (h : b < w.heap.size) : (w.alloc o).rowCells b = w.rowCells b := by simp only [World.rowCells, heap_alloc_old w o h]
@[go_sem] theorem rowCells_set (w : World) (a : Addr) (v : Value) (b : Nat) (h : b ≠ a.block) : (w.setCell a v).rowCells b = w.rowCells b := by simp only [World.rowCells, heap_setCell_other w a b v h]
theorem rowCells_below {B : Nat} {w w' : World} (h : Below B w w') {b : Nat} (hb : b < B) : w'.rowCells b = w.rowCells b := by simp only [World.rowCells, h.block b hb]
theorem rowAt_below {B : Nat} {w w' : World} {b : Nat} {cs : Array Value} (h : Below B w w') (hb : b < B) (e : w.rowCells b = cs) : w'.rowCells b = cs := (rowCells_below h hb).trans e
theorem cell_of_rowCells {w : World} {b k : Nat} {cs : Array Value} {v : Value} (e : w.rowCells b = cs) (hv : cs[k]? = some v) : w.cell? ⟨b, k, none⟩ = some v := by
  subst e
  unfold World.rowCells at hv
  cases hb : w.heap[b]? with
  | none => simp [hb] at hv
  | some o =>
    cases o with
    | cells cs t fr => rw [hb] at hv; simp [World.cell?, hb, hv]
    | _ => simp [hb] at hv
/-- An operation's wp, under a name that no rule of the walk opens. -/
def wpSame (P : Program) (o : Oper) (a : Act) (w : World) (K : Act → World → Prop) (Q : Exit → Act → World → Prop) : Prop := o.wp P a w K Q
theorem spanAt_of_heap {w w' : World} {b : Nat} (h : w'.heap[b]? = w.heap[b]?) (o n : Nat) : w'.spanAt b o n = w.spanAt b o n := by simp only [World.spanAt, h]
@[go_sem] theorem spanAt_zero (w : World) (b n : Nat) : w.spanAt b 0 n = if 0 < n ∧ (w.rowCells b).size = n then some (w.rowCells b) else w.spanSame b n := by
  split
  · rename_i h
    obtain ⟨h0, rfl⟩ := h
    revert h0
    unfold World.spanAt World.rowCells
    cases hb : w.heap[b]? with
    | none => simp
    | some o => cases o <;> simp
  · rfl
@[go_sem] theorem spanAt_drew (w : World) (b o n : Nat) : w.drew.spanAt b o n = w.spanAt b o n := rfl
@[go_sem] theorem spanAt_drewN (w : World) (b o n k : Nat) : (w.drewN k).spanAt b o n = w.spanAt b o n := rfl
@[go_sem] theorem spanAt_old (w : World) (ob : Obj) (b o n : Nat) (h : b < w.heap.size) : (w.alloc ob).spanAt b o n = w.spanAt b o n := spanAt_of_heap (heap_alloc_old w ob h) o n
@[go_sem] theorem spanAt_set (w : World) (a : Addr) (v : Value) (b o n : Nat) (h : b ≠ a.block) : (w.setCell a v).spanAt b o n = w.spanAt b o n := spanAt_of_heap (heap_setCell_other w a b v h) o n
theorem span_below {B : Nat} {w w' : World} (h : Below B w w') {b : Nat} (hb : b < B) (o n : Nat) : w'.spanAt b o n = w.spanAt b o n := spanAt_of_heap (h.block b hb) o n
theorem spanAt_cells {w : World} {b o : Nat} {cs : Array Value} (hn : 0 < cs.size) (h : ∀ (j : Nat) (v : Value), cs[j]? = some v → w.cell? ⟨b, o + j, none⟩ = some v) : w.spanAt b o cs.size = some cs := by
  have h0 := h 0 cs[0] (Array.getElem?_eq_getElem hn)
  unfold World.spanAt
  unfold World.cell? at h h0
  cases hb : w.heap[b]? with
  | none => simp [hb] at h0
  | some ob =>
    cases ob with
    | cells c t fr =>
      simp only [hb, Option.isSome_none, Bool.false_eq_true, if_false] at h ⊢
      have hlast := h (cs.size - 1) cs[cs.size - 1] (Array.getElem?_eq_getElem (by omega))
      have hle : o + (cs.size - 1) < c.size := (Array.getElem?_eq_some_iff.1 hlast).1
      rw [if_pos (by omega)]
      congr 1
      apply Array.ext
      · simp; omega
      · intro i h1 h2
        have := h i cs[i] (Array.getElem?_eq_getElem h2)
        rw [Array.getElem_extract]
        exact (Array.getElem?_eq_some_iff.1 this).2
    | _ => simp [hb] at h0
theorem cells_of_span {w : World} {b o n : Nat} {cs : Array Value} (h : w.spanAt b o n = some cs) : cs.size = n ∧ ∀ (j : Nat) (v : Value), cs[j]? = some v → w.cell? ⟨b, o + j, none⟩ = some v := by
  unfold World.spanAt at h
  cases hb : w.heap[b]? with
  | none => simp [hb] at h
  | some ob =>
    cases ob with
    | cells c t fr =>
      simp only [hb] at h
      split at h
      · rename_i hle
        cases h
        refine ⟨by simp; omega, fun j v hv => ?_⟩
        have hj := (Array.getElem?_eq_some_iff.1 hv).1
        simp at hj
        simp only [World.cell?, hb, Option.isSome_none, Bool.false_eq_true, if_false]
        rw [← hv, Array.getElem?_extract, if_pos (by omega)]
      · cases h
    | _ => simp [hb] at h
/-- Cells in a row are read at an address; else: what is told. -/
def loadRow (w : World) (n : Nat) (k : Array Value → Prop) (other : Prop) : Value → Prop
  | .pointer (some ⟨b, o, none⟩) => match w.spanAt b o n with | some cs => k cs | none => other
  | _ => other
@[go_sem] theorem loadRow_at (w : World) (n b o : Nat) (k : Array Value → Prop) (other : Prop) :
    loadRow w n k other (.pointer (some ⟨b, o, none⟩)) = match w.spanAt b o n with | some cs => k cs | none => other := rfl
theorem run_loadVar_span {P : Program} {w : World} {b o n : Nat} {T : TypeId} {d : TypeDesc} {cs : Array Value} (h : w.spanAt b o n = some cs) (hu : P.underlying T = some d) (hd : (match d with | .struct _ | .array _ _ => true | _ => false) = true) (hi : (P.info? T).map (·.size) = some n) :
    (loadVar T ⟨b, o, none⟩).run P w = .ok (.agg cs) w := by
  obtain ⟨hs, hc⟩ := cells_of_span h
  have := run_loadVar_mid (P := P) w b o T cs.toList d (fun j v hv => hc j v (by simpa using hv)) hu (by cases d <;> simp_all [TypeDesc.isRow]) (by rw [hi]; simp [hs])
  simpa using this
theorem wp_load_row_eq {P : Program} (T : TypeId) (d : TypeDesc) (n : Nat) (hn : 0 < n) (hu : P.underlying T = some d) (hd : (match d with | .struct _ | .array _ _ => true | _ => false) = true) (hi : (P.info? T).map (·.size) = some n)
    (dst : Option Tmp) (x : Operand) (ty : TypeId) (pos : String) (after : Array Edge) (guard : Option (Nat × Bool)) (a : Act) (w : World) (K : Act → World → Prop) (Q : Exit → Act → World → Prop) :
    Oper.wp P ⟨dst, .load T x, ty, pos, after, guard⟩ a w K Q = loadRow w n (fun cs => K (a.put dst (.agg cs)) w) (wpSame P ⟨dst, .load T x, ty, pos, after, guard⟩ a w K Q) (a.eval x) := by
  unfold loadRow
  split
  · rename_i b o hx
    split
    · rename_i cs h
      have := run_loadVar_span (P := P) h hu hd hi
      unfold Oper.wp execOp
      simp only [hx, Instr.loadAt, Instr.sureAddr, Sem.run_bind, Sem.run_pure, Result.andThen_ok, this]
      rfl
    · rfl
  · rfl

/-- A digest: thirty-two bytes. -/
structure Dig where
  bytes : List UInt8
  len : bytes.length = 32
/-- A digest's cells. -/
def dgst (d : Dig) : Array Value := (Lib.byteCells d.bytes).toArray
@[simp, go_sem] theorem dgst_size (d : Dig) : (dgst d).size = 32 := by simp [dgst, Lib.byteCells, d.len]
theorem dgst_get (d : Dig) (k : Nat) (h : k < d.bytes.length) : (dgst d)[k]? = some (.int .u8 (d.bytes[k].toNat : Int)) := by
  simp [dgst, Lib.byteCells, List.getElem?_eq_getElem h]
/-- The digest that is all noughts. -/
def dig0 : Dig := ⟨List.replicate 32 0, by simp⟩
/-- A digit of base sixteen. -/
def hexDigit (n : Nat) : UInt8 := if n < 10 then (48 + n).toUInt8 else (87 + n).toUInt8
/-- A byte's two digits. -/
def hexByte (c : UInt8) : List UInt8 := [hexDigit (c.toNat / 16), hexDigit (c.toNat % 16)]
/-- A digest's text. -/
def hexText (d : List UInt8) : List UInt8 := d.flatMap hexByte
theorem hexText_snoc (d : List UInt8) (k : Nat) (h : k < d.length) : hexText (d.take (k + 1)) = hexText (d.take k) ++ [hexDigit (d[k].toNat / 16)] ++ [hexDigit (d[k].toNat % 16)] := by
  rw [List.take_succ_eq_append_getElem h, hexText, List.flatMap_append, List.append_assoc]; rfl
theorem hexText_length (d : List UInt8) : (hexText d).length = 2 * d.length := by
  induction d with
  | nil => rfl
  | cons a l ih => simp [hexText, hexByte, List.flatMap_cons] at *; omega

theorem dgst_range_of {w : World} {b : Nat} {T : TypeId} {fr : Nat × Nat} {d : Dig} (h : w.heap[b]? = some (.cells (dgst d) T fr)) : w.rangeAt b 0 (Lib.byteCells d.bytes) := fun j v hv => by
  rw [cell_of_row w b (0 + j) (dgst d) T fr h, Nat.zero_add]
  simpa [dgst] using hv
theorem range_below {B : Nat} {w w' : World} {b o : Nat} {cs : List Value} (hr : w.rangeAt b o cs) (h : Below B w w') (hb : b < B) : w'.rangeAt b o cs := fun j v hv => by
  rw [h.cell (p := ⟨b, o + j, none⟩) hb]; exact hr j v hv

theorem run_index_row {P : Program} (t e : TypeId) (n : Nat) (cs : Array Value) (k : IntKind) (i : Nat) (v : Value) (hu : P.underlying t = some (.array n e)) (he : ∀ w, (isAgg e).run P w = .ok false w) (hs : ∀ w, (sizeOf e).run P w = .ok 1 w) (hi : i < n) (hv : cs[i]? = some v) (w : World) :
    (Instr.index t (.agg cs) (.int k (i : Int))).run P w = .ok v w := by
  simp [Instr.index, asIntOf, Sem.run_bind, run_underlying hu, hi, part, he, hs, hv]
end Go.Proofs.Ytjmbnfcjambdkaa
