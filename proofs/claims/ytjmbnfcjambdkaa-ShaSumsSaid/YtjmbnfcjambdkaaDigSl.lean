/- Slices of digests: one built of a digest; what such a slice reads. -/
import Derived.Test.YtjmbnfcjambdkaaNib
import Derived.Test.YtjmbnfcjambdkaaSlNums
namespace Go.Proofs.Ytjmbnfcjambdkaa
open Go.RowKit

theorem foldl_places (l : List Value) : ∀ (k : Nat) (z : Array Value), k + l.length ≤ z.size →
    ((l.zipIdx k).foldl (fun cs (p : Value × Nat) => cs.setIfInBounds (0 + p.2) p.1) z).toList = z.toList.take k ++ l ++ z.toList.drop (k + l.length) := by
  induction l with
  | nil => intro k z _; simp
  | cons v l ih =>
    intro k z h
    rw [List.zipIdx_cons, List.foldl_cons, ih (k + 1) _ (by simp at *; omega)]
    simp only [List.length_cons] at h
    simp only [Array.toList_setIfInBounds, Nat.zero_add]
    rw [List.take_set, List.drop_set_of_lt (by omega), List.take_succ_eq_append_getElem (by simp; omega)]
    rw [List.set_append_right _ _ (by simp; omega)]
    simp [show min k z.size = k by omega, show k + 1 + l.length = k + (l.length + 1) by omega]
theorem fill_one (n : Nat) (cs z : Array Value) (hc : cs.size = n) (hz : z.size = n) :
    Instr.fill (fun i => some (i * n, n)) z [(0, .agg cs)] = some cs := by
  subst hc
  have hcell : (Value.agg cs).cells = cs := rfl
  simp only [Instr.fill, hcell, Nat.zero_mul, ne_eq, not_true_eq_false, decide_false, Bool.false_or, Nat.zero_add]
  rw [if_neg (by simp [hz])]
  congr 1
  apply Array.toList_inj.1
  have := foldl_places cs.toList 0 z (by simp [hz])
  simp only [Nat.zero_add, List.take_zero, List.nil_append] at this
  rw [← Array.foldl_toList, Array.toList_zipIdx]
  refine Eq.trans ?_ (this.trans (by rw [List.drop_of_length_le (by simp [hz]), List.append_nil]))
  rfl
theorem run_buildSlice_one {P : Program} (T E : TypeId) (n : Nat) (hn : 0 < n) (hn2 : n ≤ 2 ^ 24) (ht : P.underlying T = some (.slice E)) (hs : ∀ w, (sizeOf E).run P w = .ok n w) (z : Value) (hz : ∀ w, (zeroValue E).run P w = .ok z w) (cs : Array Value) (hc : cs.size = n) (w : World) :
    (Instr.buildSlice T 1 #[(0, .agg cs)]).run P w = .ok (.slice (some ⟨w.heap.size, 0, none⟩) 1 1) (w.alloc (.cells cs E)) := by
  unfold Instr.buildSlice
  have h1 : ¬ (2 ^ 24 < n) := by omega
  have h2 : ¬ n = 0 := by omega
  have hf : Instr.fill (fun i => some (i * n, n)) ((Array.range n).map (z.cells[· % z.cells.size]!)) [(0, .agg cs)] = some cs := fill_one n cs _ hc (by simp)
  simp only [Sem.run_bind, run_underlying ht, Result.andThen_ok, hs, Nat.one_mul, h1, if_false, h2, hz, Sem.run_pure, gt_iff_lt, hf]
  rfl
/-- One row of n cells is laid; else: what is told. -/
def buildOne (w : World) (n : Nat) (k : Array Value → Prop) (other : Prop) : Value → Prop
  | .agg cs => if cs.size = n then k cs else other
  | _ => other
@[go_sem] theorem buildOne_agg (w : World) (n : Nat) (cs : Array Value) (k : Array Value → Prop) (other : Prop) : buildOne w n k other (.agg cs) = if cs.size = n then k cs else other := rfl
theorem wp_buildSlice_one_eq {P : Program} (T E : TypeId) (n : Nat) (hn : 0 < n) (hn2 : n ≤ 2 ^ 24) (ht : P.underlying T = some (.slice E)) (hs : ∀ w, (sizeOf E).run P w = .ok n w) (z : Value) (hz : ∀ w, (zeroValue E).run P w = .ok z w)
    (dst : Option Tmp) (x : Operand) (ty : TypeId) (pos : String) (after : Array Edge) (guard : Option (Nat × Bool)) (a : Act) (w : World) (K : Act → World → Prop) (Q : Exit → Act → World → Prop) :
    Oper.wp P ⟨dst, .buildSlice T 1 #[(0, x)], ty, pos, after, guard⟩ a w K Q = buildOne w n (fun cs => K (a.put dst (.slice (some ⟨w.heap.size, 0, none⟩) 1 1)) (w.alloc (.cells cs E))) (wpSame P ⟨dst, .buildSlice T 1 #[(0, x)], ty, pos, after, guard⟩ a w K Q) (a.eval x) := by
  unfold buildOne
  split
  · rename_i cs hx
    split
    · rename_i h
      have hrun := run_buildSlice_one (P := P) T E n hn hn2 ht hs z hz cs h w
      unfold Oper.wp execOp
      simp only [List.map_toArray, List.map_cons, List.map_nil, hx, Sem.run_bind, hrun, Result.andThen_ok, Sem.run_pure]
      rfl
    · rfl
  · rfl
@[go_sem ↓] theorem wp_buildSlice_dgst (dst : Option Tmp) (x : Operand) (ty : TypeId) (pos : String) (after : Array Edge) (guard : Option (Nat × Bool)) (a : Act) (w : World) (K : Act → World → Prop) (Q : Exit → Act → World → Prop) :
    Oper.wp Try.prog ⟨dst, .buildSlice 170 1 #[(0, x)], ty, pos, after, guard⟩ a w K Q = buildOne w 32 (fun cs => K (a.put dst (.slice (some ⟨w.heap.size, 0, none⟩) 1 1)) (w.alloc (.cells cs 24))) (wpSame Try.prog ⟨dst, .buildSlice 170 1 #[(0, x)], ty, pos, after, guard⟩ a w K Q) (a.eval x) :=
  wp_buildSlice_one_eq 170 24 32 (by omega) (by omega) Try.underlying170 Try.sizeOf24 _ run_zero_dgst dst x ty pos after guard a w K Q

theorem info_dgst_parts : (Try.prog.info? 24).map (fun i => (i.zero, i.size, i.bytes)) = some (some (.agg (dgst dig0)), 32, 32) := by kernel_rfl
/-- The cells of a row of digests. -/
def dcells (l : List Dig) : List Value := l.flatMap fun d => (dgst d).toList
theorem dcells_append (l m : List Dig) : dcells (l ++ m) = dcells l ++ dcells m := by simp [dcells]
theorem dcells_snoc (l : List Dig) (d : Dig) : dcells (l ++ [d]) = dcells l ++ (dgst d).toList := by simp [dcells]
theorem dcells_one (d : Dig) : dcells [d] = (dgst d).toList := by simp [dcells]
theorem dcells_length (l : List Dig) : (dcells l).length = l.length * 32 := by
  induction l with
  | nil => rfl
  | cons d l ih => rw [dcells, List.flatMap_cons, List.length_append]; simp only [dcells] at ih; rw [ih]; simp; omega
theorem dcells_cell (l : List Dig) : ∀ u ∈ dcells l, u.oneCell' = true := by
  intro u hu
  simp only [dcells, List.mem_flatMap] at hu
  obtain ⟨d, _, hd⟩ := hu
  have := dgst_one d
  unfold rowOnes at this
  exact (Array.all_eq_true_iff_forall_mem.1 this) u (by simpa using hd)
theorem dcells_get (l : List Dig) (j k : Nat) (hj : j < l.length) (hk : k < 32) : (dcells l)[j * 32 + k]? = (dgst l[j])[k]? := by
  induction l generalizing j with
  | nil => simp at hj
  | cons d l ih =>
    have h1 : dcells (d :: l) = (dgst d).toList ++ dcells l := by simp [dcells]
    have h2 : (dgst d).toList.length = 32 := by simp
    rw [h1]
    cases j with
    | zero =>
      rw [List.getElem?_append_left (by rw [h2]; omega)]
      simp
    | succ j =>
      rw [List.getElem?_append_right (by rw [h2]; omega), h2]
      have := ih j (by simpa using hj)
      rw [show (j + 1) * 32 + k - 32 = j * 32 + k by omega, this]
      simp
theorem reads_dgst {w : World} {b : Nat} {d : Dig} (h : w.rowCells b = dgst d) : Reads w 32 (.slice (some ⟨b, 0, none⟩) 1 1) 1 (dcells [d]) := by
  refine ⟨dcells_length _, dcells_cell _, by unfold maxLen; omega, .inr ⟨b, 0, 1, rfl, Nat.le_refl _, by unfold maxLen; omega, fun j u hj => ?_⟩⟩
  rw [dcells_one] at hj
  exact cell_of_rowCells h (by simpa using hj)
theorem reads_span {w : World} {b o n c : Nat} {L : List Dig} (h : Reads w 32 (.slice (some ⟨b, o, none⟩) n c) n (dcells L)) (j : Nat) (hj : j < L.length) : w.spanAt b (o + j * 32) 32 = some (dgst L[j]) := by
  have hc : ∀ (r : Nat) (u : Value), (dgst L[j])[r]? = some u → w.cell? ⟨b, o + j * 32 + r, none⟩ = some u := fun r u hr => by
    have hr32 : r < 32 := by have := (Array.getElem?_eq_some_iff.1 hr).1; simpa using this
    obtain ⟨_, _, _, ⟨h, _⟩ | ⟨b', o', c', h, _, _, h4⟩⟩ := h
    · cases h
    · cases h
      rw [Nat.add_assoc]
      exact h4 _ _ (by rw [dcells_get L j r hj hr32]; exact hr)
  have := spanAt_cells (cs := dgst L[j]) (by simp) hc
  rwa [dgst_size] at this
end Go.Proofs.Ytjmbnfcjambdkaa
