/- Calls of a script, thirty-five cells each: as they lie in memory, as they come in. -/
import Derived.Test.YtjmbnfcjambdkaaRefsMove
import Derived.Test.YtjmbnfcjambdkaaOpenSl
import Derived.Lib.SmallJoins
namespace Go.Proofs.Ytjmbnfcjambdkaa
open Go.ChangeShapes Go.WideShapes Go.ChangeAt Go.RowKit
structure ActT where
  kind : Int
  name : ByteArray
  source : Int
  target : Dig
def actL (x : ActT) : List Value := .int .i64 x.kind :: .string x.name :: .int .i64 x.source :: (dgst x.target).toList
def actA (x : ActT) : Array Value := (actL x).toArray
theorem actL_length (x : ActT) : (actL x).length = 35 := by simp [actL]
@[simp, go_sem] theorem actA_size (x : ActT) : (actA x).size = 35 := by simp [actA, actL_length]
theorem actL_one (x : ActT) : ∀ u ∈ actL x, u.oneCell' = true := by
  intro u hu
  simp only [actL, List.mem_cons] at hu
  rcases hu with rfl | rfl | rfl | hu
  · rfl
  · rfl
  · rfl
  · exact dcells_cell [x.target] u (by rw [dcells_one]; exact hu)
@[simp, go_sem] theorem actA_ones (x : ActT) : rowOnes (actA x) = true := by
  unfold rowOnes
  rw [Array.all_eq_true_iff_forall_mem]
  intro v hv
  exact actL_one x v (by simpa [actA] using hv)
def act0 : ActT := ⟨0, ⟨#[]⟩, 0, dig0⟩
def actCells (l : List ActT) : List Value := l.flatMap actL
theorem act_get (l : List ActT) (i r : Nat) (hi : i < l.length) (hr : r < 35) : (actCells l)[i * 35 + r]? = (actA l[i])[r]? := by
  rw [actCells, flat_get 35 actL actL_length l i r l[i] (List.getElem?_eq_getElem hi) hr]; simp [actA]
theorem reads_actSpan {w : World} {b o n c : Nat} {l : List ActT} (h : Reads w 35 (.slice (some ⟨b, o, none⟩) n c) n (actCells l)) (j : Nat) (hj : j < l.length) : w.spanAt b (o + j * 35) 35 = some (actA l[j]) := by
  have := spanAt_cells (w := w) (b := b) (o := o + j * 35) (cs := actA l[j]) (by simp) (fun r u hr => by
    have hr35 : r < 35 := by have := (Array.getElem?_eq_some_iff.1 hr).1; simpa using this
    obtain ⟨_, _, _, ⟨h, _⟩ | ⟨b', o', c', h, _, _, h4⟩⟩ := h
    · cases h
    · cases h
      rw [Nat.add_assoc]
      exact h4 _ _ (by rw [act_get l j r hj hr35]; exact hr))
  rwa [actA_size] at this
theorem act_name (x : ActT) : (actA x)[1]? = some (.string x.name) := by simp [actA, actL]
theorem act_dig (x : ActT) (k : Nat) (hk : k < 32) : (actA x)[3 + k]? = (dgst x.target)[k]? := by simp [actA, actL, Nat.add_comm 3 k]
theorem act_span {w : World} {b : Nat} {x : ActT} {T : TypeId} (h : w.heap[b]? = some (.cells (actA x) T (0, 0))) : w.spanAt b 3 32 = some (dgst x.target) := by
  have := spanAt_cells (w := w) (b := b) (o := 3) (cs := dgst x.target) (by simp) (fun r u hr => by
    have hr32 : r < 32 := by have := (Array.getElem?_eq_some_iff.1 hr).1; simpa using this
    rw [cell_of_row w b (3 + r) _ _ _ h, act_dig x r hr32]; exact hr)
  rwa [dgst_size] at this
theorem info_act : (Try.prog.info? 32).map (·.size) = some 35 := by kernel_rfl
theorem run_zero_act (w : World) : (zeroValue 32).run Try.prog w = .ok (.agg (actA act0)) w := by kernel_rfl
theorem run_alloc_act (w : World) (old : Value) : (Instr.alloc 32 true old).run Try.prog w = .ok (.pointer (some ⟨w.heap.size, 0, none⟩)) (w.alloc (.cells (actA act0) 32)) := by
  unfold Instr.alloc
  simp only [Sem.run_bind, run_zero_act, Result.andThen_ok]
  rfl
section
variable (dst : Option Tmp) (x y : Operand) (ty : TypeId) (pos : String) (after : Array Edge) (guard : Option (Nat × Bool)) (a : Act) (w : World) (K : Act → World → Prop) (Q : Exit → Act → World → Prop)
@[go_sem ↓] theorem wp_alloc_act : Oper.wp Try.prog ⟨dst, .alloc 32, ty, pos, after, guard⟩ a w K Q = K (a.put dst (.pointer (some ⟨w.heap.size, 0, none⟩))) (w.alloc (.cells (actA act0) 32)) := by
  unfold Oper.wp execOp
  simp only [Sem.run_bind, run_alloc_act, Result.andThen_ok, Sem.run_pure]
  rfl
@[go_sem ↓] theorem wp_load_act : Oper.wp Try.prog ⟨dst, .load 32 x, ty, pos, after, guard⟩ a w K Q = loadRow w 35 (fun cs => K (a.put dst (.agg cs)) w) (wpSame Try.prog ⟨dst, .load 32 x, ty, pos, after, guard⟩ a w K Q) (a.eval x) :=
  wp_load_row_eq 32 _ 35 (by decide) Try.underlying32 rfl info_act dst x ty pos after guard a w K Q
@[go_sem ↓] theorem wp_store_act : Oper.wp Try.prog ⟨dst, .store 32 x y, ty, pos, after, guard⟩ a w K Q = storeRow w 35 (fun w' => K (a.put dst undef) w') (wpSame Try.prog ⟨dst, .store 32 x y, ty, pos, after, guard⟩ a w K Q) (a.eval x) (a.eval y) :=
  wp_store_row_eq 32 35 info_act dst x y ty pos after guard a w K Q
end
set_option maxRecDepth 100000 in
theorem open_acts {H : Type} {enc : TypeId × Value → H} {W : World} {base : Nat} {b0 : Nat} {v : Value} {d : DataW H} {p : List MemPlace} {spare : Nat → Bool} {held : Bool}
    (hv : Value.okWide Try.prog W .any base 22 v) (h : DataW.Trod enc Try.prog W b0 spare held 22 v d p) :
    ∃ L : List ActT, Reads W 35 v L.length (actCells L) ∧ ∀ x ∈ L, x.name.size ≤ maxLen := by
  have h1c : Try.prog.cellsOf 3 = 1 := by kernel_rfl
  have h2c : Try.prog.cellsOf 9 = 1 := by kernel_rfl
  have h3c : Try.prog.cellsOf 24 = 32 := by kernel_rfl
  exact reads_open 35 (by omega) actL (fun x => x.name.size ≤ maxLen) actL_length actL_one (fun n cs y hcl hy => by
    obtain ⟨y0, y1, y2, y3, m, _, _, h0, h1, h2, h3⟩ := Go.Joins.trod_struct4 Try.underlying32 hy
    rw [h1c] at h0 h2
    rw [h2c] at h1
    rw [h3c] at h3
    obtain ⟨n0, e0, _, w0⟩ := DataW.trod_int Try.underlying3 h0
    obtain ⟨s1, e1, _, w1⟩ := DataW.trod_string Try.underlying9 h1
    obtain ⟨n2, e2, _, w2⟩ := DataW.trod_int Try.underlying3 h2
    obtain ⟨D, e3⟩ := dig_of_trod (by simp; omega) h3
    refine ⟨⟨n0, s1, n2, D⟩, w1, ?_⟩
    match cs, hcl with
    | c0 :: c1 :: c2 :: r, hcl =>
      have hr : r.length = 32 := by simpa using hcl
      simp at e0 e1 e2 e3
      rw [List.take_of_length_le (by omega)] at e3
      rw [e0, e1, e2, e3]; rfl) Try.underlying22 (by kernel_rfl) hv h
end Go.Proofs.Ytjmbnfcjambdkaa
