/- A row of bytes of the call's own that is appended to, one by one, wherever it came from. -/
import Derived.Test.YtjmbnfcjambdkaaWireIn3
import Derived.ArgAppend
namespace Go.Proofs.Ytjmbnfcjambdkaa
open Go.RowKit
def Onto (w : World) (B : Nat) (v : Value) (xs : List Value) : Prop := ∃ g cap, v = .slice (some ⟨g, 0, none⟩) xs.length cap ∧ B ≤ g ∧ g < w.heap.size ∧ xs.length ≤ cap ∧ cap ≤ maxLen ∧
  (∀ j, j < cap → (w.cell? ⟨g, j, none⟩).isSome = true ∧ w.frozen? ⟨g, j, none⟩ = false) ∧ (∀ (j : Nat) (u : Value), xs[j]? = some u → w.cell? ⟨g, j, none⟩ = some u) ∧ (∀ u ∈ xs, u.oneCell' = true)
theorem Onto.reads {w : World} {B : Nat} {v : Value} {xs : List Value} (h : Onto w B v xs) : Reads w 1 v xs.length xs := by
  obtain ⟨g, cap, rfl, hB, hg, hc, hm, ha, hx, h1⟩ := h
  exact ⟨by simp, h1, by omega, .inr ⟨_, 0, _, rfl, hc, hm, fun j u hj => by rw [Nat.zero_add]; exact hx j u hj⟩⟩
theorem Onto.below {w w' : World} {B : Nat} {v : Value} {xs : List Value} (h : Onto w B v xs) (hb : Below w.heap.size w w') : Onto w' B v xs := by
  obtain ⟨g, cap, hv, hB, hg, hc, hm, ha, hx, h1⟩ := h
  exact ⟨g, cap, hv, hB, by have := hb.size; omega, hc, hm, fun j hj => by rw [hb.cell (p := ⟨g, j, none⟩) hg, hb.frozen (p := ⟨g, j, none⟩) hg]; exact ha j hj, fun j u hj => by rw [hb.cell (p := ⟨g, j, none⟩) hg]; exact hx j u hj, h1⟩
theorem Onto.of_own {w : World} {B n : Nat} {T : TypeId} {v : Value} {xs : List Value} (h : w.ownsRow B T 1 v n xs) (hn : 0 < n) (h1 : ∀ u ∈ xs, u.oneCell' = true) : Onto w B v xs := by
  obtain ⟨hl, ⟨_, h0⟩ | ⟨g, cap, cur, rfl, hB, hg, hc, hm, hs, ht⟩⟩ := h
  · omega
  · have hnl : n = xs.length := by omega
    subst hnl
    refine ⟨g, cap, rfl, hB, lt_of_heap hg, hc, hm, fun j hj => ⟨?_, frozen_of_row w g j _ _ hg⟩, fun j u hj => ?_, h1⟩
    · rw [cell_of_row w g j _ _ _ hg]
      have : j < cur.size := by omega
      simp [this]
    · rw [cell_of_row w g j _ _ _ hg]
      rw [← ht, List.getElem?_take] at hj
      split at hj
      · simpa using hj
      · cases hj
theorem bytesRow_ge (s : ByteArray) (cap : Nat) : cap ≤ (bytesRow s cap).size := by
  have : s.data.size = s.size := rfl
  simp [bytesRow]; omega
/-- '[]byte(s)': it may be appended to. -/
theorem run_tobytes_onto (w : World) (l : List UInt8) (hl : l.length ≤ 1000000000) : ∃ v w', (convert 9 94 (.string ⟨l.toArray⟩)).run Try.prog w = .ok v w' ∧ Onto w' w.heap.size v (u8s l) ∧ Below w.heap.size w w' := by
  have hrun := run_bytes_of_string (P := Try.prog) w 9 94 5 ⟨l.toArray⟩ Try.underlying9 Try.underlying94 Try.underlying5
  rw [size_str] at hrun
  have hc := grownCap_ge w l.length 0 5
  have hm := grownCap_le_maxLen w l.length 0 5 (by unfold maxLen; omega)
  refine ⟨_, _, hrun, ⟨w.heap.size, _, by rw [u8s_length], Nat.le_refl _, by simp, by rw [u8s_length]; exact hc, hm, fun j hj => ⟨?_, ?_⟩, fun j u hj => ?_, u8s_one l⟩, ((Below.refl _ w).drew).alloc (Nat.le_refl _) _⟩
  · rw [cell_of_row _ w.heap.size _ _ _ _ (heap_alloc_new w.drew _)]
    have hz : j < (bytesRow ⟨l.toArray⟩ (grownCap w l.length 0 5)).size := Nat.lt_of_lt_of_le hj (bytesRow_ge _ _)
    simp [hz]
  · have hz : j < (bytesRow ⟨l.toArray⟩ (grownCap w l.length 0 5)).size := Nat.lt_of_lt_of_le hj (bytesRow_ge _ _)
    unfold World.frozen?
    have hh := heap_alloc_new w.drew (.cells (bytesRow ⟨l.toArray⟩ (grownCap w l.length 0 5)) 5 ((bytesRow ⟨l.toArray⟩ (grownCap w l.length 0 5)).size, (bytesRow ⟨l.toArray⟩ (grownCap w l.length 0 5)).size + 1))
    rw [show (w.drew.heap.size) = w.heap.size from rfl] at hh
    simp only [hh]
    simp
    omega
  · have hjl : j < l.length := by
      have := (List.getElem?_eq_some_iff.1 hj).1
      simpa [u8s] using this
    rw [u8s_get l j hjl] at hj
    cases hj
    rw [cell_of_row _ w.heap.size _ _ _ _ (heap_alloc_new w.drew _), bytesRow_at _ _ _ (by simpa using hjl)]
    simp
theorem wpList_onto {P : Program} (w : World) {ops : Array Oper} {rest : List Oper} {o : Oper} {a : Act} {Q : Exit → Act → World → Prop}
    (hg : o.guard = none) (s x : Operand) (t : TypeId) (hop : o.op = Op.call { callee := Callee.builtin Builtin.append, args := #[s, x], argTypes := #[t, t] })
    (e : TypeId) (i : TypeInfo) (z : Value) (h1 : P.underlying t = some (.slice e)) (h2 : P.info? e = some i) (h3 : i.zero = some z) (h4 : i.size = 1) (h5 : i.bytes = 1) (h6 : z.cells.size = 1)
    (B : Nat) (v : Value) (xs : List Value) (hs : a.eval s = v) (h : Onto w B v xs) (ad : Addr) (c : Nat) (u : Value) (hx : a.eval x = .slice (some ad) 1 c) (hc : w.cell? ad = some u) (hu : u.oneCell' = true)
    (hl : xs.length + 1 ≤ 1000000000) (hK : ∀ v' w', Onto w' B v' (xs ++ [u]) → Below B w w' → wpList P ops Q rest (a.put o.dst v') w') : wpList P ops Q (o :: rest) a w := by
  obtain ⟨g, cap, rfl, hB, hgs, hcap, hm, ha, hxs, h1c⟩ := h
  have hone : ∀ y ∈ xs ++ [u], y.oneCell' = true := by
    intro y hy
    rcases List.mem_append.1 hy with hy | hy
    · exact h1c y hy
    · simp at hy; subst hy; exact hu
  refine wpList_append_arg w hg s x t hop e i z 1 1 h1 h2 h3 h4 h5 h6 (by decide) g 0 xs.length cap xs hs (by simp) (fun j y hj => by rw [Nat.zero_add]; exact hxs j y hj) ad 1 c [u] hx (by simp)
    (fun j y hj => ?_) (by simpa using hu) (fun hr j hj => ?_) (by unfold maxLen; omega) (by omega) (fun hr => ?_) (fun hgw v' w' hown hgr => ?_)
  · cases j with
    | zero => simp at hj; subst hj; simpa [Addr.add] using hc
    | succ j => simp at hj
  · have hj0 : j = 0 := by simpa using hj
    subst hj0
    rw [show 0 + xs.length * 1 + 0 = xs.length by omega]
    exact ha xs.length (by omega)
  · rw [show 0 + xs.length * 1 = xs.length by omega]
    have hset : ∀ j, (w.setCells g xs.length [u]).frozen? ⟨g, j, none⟩ = w.frozen? ⟨g, j, none⟩ := fun j => World.frozen?_setCells g _ _ _ _
    refine hK _ _ ⟨g, cap, by simp, hB, ?_, by simp; omega, hm, fun j hj => ?_, fun j y hj => ?_, hone⟩ ?_
    · show g < (w.setCell ⟨g, xs.length, none⟩ u).heap.size
      simpa using hgs
    · rw [hset]
      refine ⟨?_, (ha j hj).2⟩
      by_cases hj2 : j = xs.length
      · subst hj2
        have := World.cell?_setCells_in g [u] xs.length w (fun k hk => by have hk0 : k = 0 := by simpa using hk
                                                                          subst hk0; exact (ha xs.length (by omega)).1) 0 (by simp)
        rw [Nat.add_zero] at this
        rw [this]; rfl
      · rw [World.cell?_setCells_out g [u] xs.length w ⟨g, j, none⟩ (fun _ _ => by simp; omega)]
        exact (ha j hj).1
    · by_cases hj2 : j < xs.length
      · rw [World.cell?_setCells_out g [u] xs.length w ⟨g, j, none⟩ (fun _ _ => by simp; omega)]
        rw [List.getElem?_append_left hj2] at hj
        exact hxs j y hj
      · have hj3 : j = xs.length := by
          have := (List.getElem?_eq_some_iff.1 hj).1
          simp at this; omega
        subst hj3
        have := World.cell?_setCells_in g [u] xs.length w (fun k hk => by have hk0 : k = 0 := by simpa using hk
                                                                          subst hk0; exact (ha xs.length (by omega)).1) 0 (by simp)
        rw [Nat.add_zero] at this
        rw [this]
        simpa using hj
    · exact (Below.refl B w).setCell hB u
  · refine hK v' w' ?_ ?_
    · exact Onto.of_own (owned_mono hown (by omega)) (by omega) hone
    · exact (Below.refl B w).grown hgr (by omega) (fun k hk => by cases hk)
end Go.Proofs.Ytjmbnfcjambdkaa
