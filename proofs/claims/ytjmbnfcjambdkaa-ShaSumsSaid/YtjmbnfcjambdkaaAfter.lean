/- A region that draws its order, whose operations only read and whose callees make memory but leave all that was there: one walk in the text's order, at the class of the worlds that stand behind the world at hand. -/
import Derived.Test.YtjmbnfcjambdkaaHexPlain
import Derived.BigQuiet
import Derived.Deep.QuietTactic
namespace Go
open Go.RowKit
/-- A world behind w: all that was there stands. -/
structure After (w : World) where
  world : World
  below : Below w.heap.size w world
instance afterIs (w : World) : Nonempty (After w) := ⟨⟨w, Below.refl _ w⟩⟩
section
variable {P : Program} {w : World}
@[go_sem] theorem After.cell (x : After w) (a : Addr) (h : (w.cell? a).isSome = true) : x.world.cell? a = w.cell? a := by
  obtain ⟨v, hv⟩ := Option.isSome_iff_exists.1 h
  exact x.below.cell (block_lt_of_cell hv)
@[go_sem] theorem After.frozen (x : After w) (a : Addr) (h : (w.cell? a).isSome = true) : x.world.frozen? a = w.frozen? a := by
  obtain ⟨v, hv⟩ := Option.isSome_iff_exists.1 h
  exact x.below.frozen (block_lt_of_cell hv)
@[go_sem] theorem After.row (x : After w) (b : Nat) (h : 0 < (w.rowCells b).size) : x.world.rowCells b = w.rowCells b := by
  refine Go.Proofs.Ytjmbnfcjambdkaa.rowCells_below x.below ?_
  by_cases hb : b < w.heap.size
  · exact hb
  · have : w.heap[b]? = none := by simp; omega
    simp [World.rowCells, this] at h
@[go_sem] theorem After.span (x : After w) (b o n : Nat) (h : (w.spanAt b o n).isSome = true) : x.world.spanAt b o n = w.spanAt b o n := by
  refine Go.Proofs.Ytjmbnfcjambdkaa.span_below x.below ?_ o n
  by_cases hb : b < w.heap.size
  · exact hb
  · have : w.heap[b]? = none := by simp; omega
    simp [World.spanAt, this] at h
theorem wp_region_after_lit {id : Nat} {Q : Exit → Act → World → Prop} {a : Act} {l : List Oper} (hm : P.follows .mixedOrders = true) (hB : Region.lexB .any l.toArray = true)
    (h : wpQuiet P l.toArray (fun w' => ∃ x : After w, w' = x.world) (fun a' => ∀ w', (∃ x : After w, w' = x.world) → Q .normal a' w') l a) : (Code.region id l.toArray true).wp P Q a w :=
  wp_region_quiet (C := fun w' => ∃ x : After w, w' = x.world) hm hB ⟨⟨_, (Below.refl _ w).drew⟩, rfl⟩ (by simpa using h)
theorem Calls.quiet_after {f : FuncId} {args : Array Value} {x : After w} {v : Value} (h : Calls P f args x.world fun e w' => e = .returned v ∧ Below x.world.heap.size x.world w') :
    Calls P f args x.world fun e w'' => e = .returned v ∧ ∃ y : After w, w'' = y.world :=
  h.mono fun _ _ ⟨he, hb⟩ => ⟨he, ⟨_, x.below.trans (hb.mono x.below.size)⟩, rfl⟩
theorem Calls.quiet_after_same {f : FuncId} {args : Array Value} {x : After w} {v : Value} (h : Calls P f args x.world fun e w' => e = .returned v ∧ x.world = w') :
    Calls P f args x.world fun e w'' => e = .returned v ∧ ∃ y : After w, w'' = y.world :=
  h.mono fun _ _ ⟨he, hb⟩ => ⟨he, x, hb.symm⟩
end
end Go
namespace Go.Proofs.Ytjmbnfcjambdkaa
open Go.RowKit
/-- 'quietAt', under a name that no rule of the walk opens. -/
def quietSame (P : Program) (o : Oper) (a : Act) (C : World → Prop) (w : World) (v : Value) : Prop := o.quietAt P a C w v
theorem quietAt_load_row_eq {P : Program} (T : TypeId) (d : TypeDesc) (n : Nat) (hn : 0 < n) (hu : P.underlying T = some d) (hd : (match d with | .struct _ | .array _ _ => true | _ => false) = true) (hi : (P.info? T).map (·.size) = some n)
    (dst : Option Tmp) (x : Operand) (ty : TypeId) (pos : String) (after : Array Edge) (guard : Option (Nat × Bool)) (a : Act) (C : World → Prop) (w : World) (v : Value) :
    Oper.quietAt P ⟨dst, .load T x, ty, pos, after, guard⟩ a C w v = loadRow w n (fun cs => Value.agg cs = v) (quietSame P ⟨dst, .load T x, ty, pos, after, guard⟩ a C w v) (a.eval x) := by
  unfold loadRow
  split
  · rename_i b o hx
    split
    · rename_i cs h
      have := run_loadVar_span (P := P) h hu hd hi
      unfold Oper.quietAt execOp
      simp only [hx, Instr.loadAt, Instr.sureAddr, Sem.run_bind, Sem.run_pure, Result.andThen_ok, this, Oper.quietUpon, true_and]
    · rfl
  · rfl
end Go.Proofs.Ytjmbnfcjambdkaa
