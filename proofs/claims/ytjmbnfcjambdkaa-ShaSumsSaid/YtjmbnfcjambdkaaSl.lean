/- Slices as the walks see them: what a slice value reads as; append onto a row of the call's own from whatever slice. -/
import Derived.Test.YtjmbnfcjambdkaaLib
import Derived.Lib.Builder
import Derived.Deep.RegionLaw
import Derived.Laws.AppendOwnNone
namespace Go.Proofs.Ytjmbnfcjambdkaa
open Go.RowKit

/-- The slice value v has n elements of 'size' cells each, and they read cs: it is nil, or its cells lie behind its address. -/
def Reads (w : World) (size : Nat) (v : Value) (n : Nat) (cs : List Value) : Prop :=
  cs.length = n * size ∧ (∀ u ∈ cs, u.oneCell' = true) ∧ n ≤ maxLen ∧
  ((v = .slice none 0 0 ∧ n = 0) ∨ ∃ b o c, v = .slice (some ⟨b, o, none⟩) n c ∧ n ≤ c ∧ c ≤ maxLen ∧ ∀ j u, cs[j]? = some u → w.cell? ⟨b, o + j, none⟩ = some u)
theorem Reads.below {w w' : World} {size n : Nat} {v : Value} {cs : List Value} (h : Reads w size v n cs) (hb : Below w.heap.size w w') : Reads w' size v n cs := by
  obtain ⟨h1, h2, h3, h4⟩ := h
  refine ⟨h1, h2, h3, ?_⟩
  rcases h4 with h4 | ⟨b, o, c, e, hc, hm, h4⟩
  · exact .inl h4
  · exact .inr ⟨b, o, c, e, hc, hm, fun j u hj => by rw [hb.cell (p := ⟨b, o + j, none⟩) (block_lt_of_cell (h4 j u hj))]; exact h4 j u hj⟩
theorem Reads.drew {w : World} {size n : Nat} {v : Value} {cs : List Value} (h : Reads w size v n cs) : Reads w.drew size v n cs := h
theorem Reads.alloc {w : World} {size n : Nat} {v : Value} {cs : List Value} (h : Reads w size v n cs) (o : Obj) : Reads (w.alloc o) size v n cs :=
  h.below ((Below.refl _ w).alloc (Nat.le_refl _) o)
theorem Reads.nil (w : World) (size : Nat) : Reads w size (.slice none 0 0) 0 [] := ⟨by simp, by simp, by simp, .inl ⟨rfl, rfl⟩⟩
theorem Reads.owned {w : World} {base : Nat} {e : TypeId} {size n : Nat} {v : Value} {cs : List Value} (h : w.ownsRow base e size v n cs) (h1 : ∀ u ∈ cs, u.oneCell' = true) (hn : n ≤ maxLen) : Reads w size v n cs := by
  obtain ⟨hl, h⟩ := h
  refine ⟨hl, h1, hn, ?_⟩
  rcases h with h | ⟨g, cap, cur, rfl, _, hg, hc, hm, hs, ht⟩
  · exact .inl h
  · refine .inr ⟨g, 0, cap, rfl, hc, hm, fun j u hj => ?_⟩
    rw [cell_of_row w g (0 + j) cur e (0, 0) hg, Nat.zero_add]
    rw [← ht, List.getElem?_take] at hj
    split at hj
    · simpa using hj
    · cases hj
theorem Reads.grown {w w' : World} {size n : Nat} {v : Value} {cs : List Value} {row : Option Nat} (h : Reads w size v n cs) (hg : w.grownBy w' row) (hne : ∀ k, row = some k → v.ownBlock ≠ some k) : Reads w' size v n cs := by
  obtain ⟨h1, h2, h3, h4⟩ := h
  refine ⟨h1, h2, h3, ?_⟩
  rcases h4 with h4 | ⟨b, o, c, rfl, hc, hm, h4⟩
  · exact .inl h4
  · refine .inr ⟨b, o, c, rfl, hc, hm, fun j u hj => ?_⟩
    have hk := h4 j u hj
    rw [World.cell?_of_block (a := ⟨b, o + j, none⟩) (hg.block b (block_lt_of_cell hk) (fun e => hne b e.symm rfl))]
    exact hk
theorem Reads.lt {w : World} {size n : Nat} {v : Value} {cs : List Value} (h : Reads w size v n cs) (hn : 0 < n) (hs : 0 < size) : ∀ k, v.ownBlock = some k → k < w.heap.size := by
  obtain ⟨h1, h2, h3, h4⟩ := h
  rcases h4 with ⟨_, h4⟩ | ⟨b, o, c, rfl, hc, hm, h4⟩
  · omega
  · intro k hk
    cases hk
    have : 0 < cs.length := by rw [h1]; exact Nat.mul_pos hn hs
    exact block_lt_of_cell (h4 0 cs[0] (List.getElem?_eq_getElem this))

theorem owned_form {w : World} {base : Nat} {e : TypeId} {size n : Nat} {v : Value} {cs : List Value} (h : w.ownsRow base e size v n cs) : ∃ a c, v = .slice a n c := by
  obtain ⟨_, ⟨rfl, rfl⟩ | ⟨g, cap, cur, rfl, _⟩⟩ := h
  · exact ⟨none, 0, rfl⟩
  · exact ⟨_, _, rfl⟩
theorem owned_mono {w : World} {base base' : Nat} {e : TypeId} {size n : Nat} {v : Value} {cs : List Value} (h : w.ownsRow base e size v n cs) (hb : base' ≤ base) : w.ownsRow base' e size v n cs := by
  obtain ⟨h1, h2 | ⟨g, cap, cur, e, hg, h3⟩⟩ := h
  · exact ⟨h1, .inl h2⟩
  · exact ⟨h1, .inr ⟨g, cap, cur, e, Nat.le_trans hb hg, h3⟩⟩
theorem owned_ge {w : World} {base : Nat} {e : TypeId} {size n : Nat} {v : Value} {cs : List Value} (h : w.ownsRow base e size v n cs) : ∀ k, v.ownBlock = some k → base ≤ k := by
  obtain ⟨_, ⟨rfl, rfl⟩ | ⟨g, cap, cur, rfl, hg, _⟩⟩ := h
  · intro k hk; cases hk
  · intro k hk; cases hk; exact hg
theorem Reads.cellAt {w : World} {b o c n : Nat} {cs : List Value} (h : Reads w 1 (.slice (some ⟨b, o, none⟩) n c) n cs) (j : Nat) (u : Value) (hj : cs[j]? = some u) : w.cell? ⟨b, o + j, none⟩ = some u := by
  obtain ⟨_, _, _, ⟨h, _⟩ | ⟨b', o', c', h, _, _, h4⟩⟩ := h
  · cases h
  · cases h; exact h4 j u hj
theorem Reads.form {w : World} {size n : Nat} {v : Value} {cs : List Value} (h : Reads w size v n cs) : (v = .slice none 0 0 ∧ n = 0) ∨ ∃ b o c, v = .slice (some ⟨b, o, none⟩) n c := by
  obtain ⟨_, _, _, h | ⟨b, o, c, h, _⟩⟩ := h
  · exact .inl h
  · exact .inr ⟨b, o, c, h⟩

theorem Reads.shape {w : World} {size n : Nat} {v : Value} {cs : List Value} (h : Reads w size v n cs) : ∃ a c, v = .slice a n c := by
  rcases h.form with ⟨rfl, rfl⟩ | ⟨b, o, c, rfl⟩
  · exact ⟨none, 0, rfl⟩
  · exact ⟨_, c, rfl⟩
theorem owned_below {w w' : World} {base size n : Nat} {e : TypeId} {v : Value} {cs : List Value} (h : w.ownsRow base e size v n cs) (hb : Below w.heap.size w w') : w'.ownsRow base e size v n cs := by
  obtain ⟨h1, h2 | ⟨g, cap, cur, e1, hg, hc, h3⟩⟩ := h
  · exact ⟨h1, .inl h2⟩
  · refine ⟨h1, .inr ⟨g, cap, cur, e1, hg, ?_, h3⟩⟩
    rw [hb.block g (by
      by_cases hh : g < w.heap.size
      · exact hh
      · rw [Array.getElem?_eq_none (by omega)] at hc; cases hc)]
    exact hc
theorem owned_setRow {w : World} {base size n g : Nat} {e : TypeId} {v : Value} {cs : List Value} (h : w.ownsRow base e size v n cs) (hg : v.ownBlock ≠ some g) (ds : Array Value) : (w.setRow g ds).ownsRow base e size v n cs := by
  obtain ⟨h1, h2 | ⟨b, cap, cur, rfl, hb, hc, h3⟩⟩ := h
  · exact ⟨h1, .inl h2⟩
  · refine ⟨h1, .inr ⟨b, cap, cur, rfl, hb, ?_, h3⟩⟩
    rw [setRow_other w g b ds (fun e => hg (by rw [← e]; rfl))]
    exact hc
theorem owned_apart {w : World} {base base' size size' n n' : Nat} {e e' : TypeId} {v v' : Value} {xs xs' : List Value} (h : w.ownsRow base e size v n xs) (h' : w.ownsRow base' e' size' v' n' xs') (he : e ≠ e') : v.ownBlock = none ∨ v.ownBlock ≠ v'.ownBlock := by
  obtain ⟨_, ⟨rfl, _⟩ | ⟨g, cap, cur, rfl, _, hg, _⟩⟩ := h
  · exact .inl rfl
  · right
    obtain ⟨_, ⟨rfl, _⟩ | ⟨g', cap', cur', rfl, _, hg', _⟩⟩ := h'
    · simp [Value.ownBlock]
    · intro hh
      simp only [Value.ownBlock, Option.some.injEq] at hh
      subst hh
      rw [hg] at hg'
      cases hg'
      exact he rfl
theorem reads_fresh (w : World) (cs : List Value) (T : TypeId) (size m : Nat) (hl : cs.length = m * size) (h1 : ∀ u ∈ cs, u.oneCell' = true) (hm : m ≤ maxLen) : Reads (w.alloc (.cells cs.toArray T)) size (.slice (some ⟨w.heap.size, 0, none⟩) m m) m cs := by
  refine ⟨hl, h1, hm, .inr ⟨_, 0, m, rfl, Nat.le_refl _, hm, fun j u hj => ?_⟩⟩
  rw [cell_of_row _ _ _ _ _ _ (heap_alloc_new w _), Nat.zero_add]
  simpa using hj
theorem Reads.isRow {w : World} {size n : Nat} {v : Value} {cs : List Value} (h : Reads w size v n cs) (hn : 0 < n) : ∃ b o c, v = .slice (some ⟨b, o, none⟩) n c := by
  obtain ⟨_, _, _, ⟨_, h⟩ | ⟨b, o, c, h, _⟩⟩ := h
  · omega
  · exact ⟨b, o, c, h⟩
section
variable {P : Program}
/-- append onto a row of the call's own, from whatever slice. -/
theorem wp_append_reads {o : Oper} {a : Act} {w : World} {K : Act → World → Prop} {Q : Exit → Act → World → Prop} (s x : Operand) (t : TypeId)
    (ho : o.op = .call { callee := .builtin .append, args := #[s, x], argTypes := #[t, t] })
    (base : Nat) (e : TypeId) (i : TypeInfo) (z : Value) (size bytes : Nat) (ht : P.underlying t = some (.slice e)) (hi : P.info? e = some i) (hz : i.zero = some z)
    (hsize : i.size = size) (hby : i.bytes = bytes) (hzs : z.cells.size = size) (hsz : 0 < size)
    (v : Value) (n : Nat) (xs : List Value) (hs : a.eval s = v) (hown : w.ownsRow base e size v n xs)
    (y : Value) (m : Nat) (news : List Value) (hx : a.eval x = y) (hr : Reads w size y m news)
    (h63 : n + m ≤ maxLen) (hbytes : (n + m) * bytes ≤ 140737488355328) (hbase : base ≤ w.heap.size)
    (h : ∀ a' c w', w'.ownsRow base e size (.slice a' (n + m) c) (n + m) (xs ++ news) → w.grownBy w' v.ownBlock → K (a.put o.dst (.slice a' (n + m) c)) w') : o.wp P a w K Q := by
  obtain ⟨h1, h2, h3, h4⟩ := hr
  rcases h4 with ⟨rfl, rfl⟩ | ⟨b, off, c, rfl, hc, hm, h4⟩
  · have hn : news = [] := List.eq_nil_of_length_eq_zero (by rw [h1]; simp)
    subst hn
    have hrun := run_append_owned_none (P := P) (w := w) base t o.type e i size ht hi v n xs hown
    have hK : K (a.put o.dst v) w := by
      obtain ⟨a', c, rfl⟩ := owned_form hown
      have := h a' c w (by simpa using hown) ⟨rfl, rfl, rfl, Nat.le_refl _, fun _ _ _ => rfl⟩
      simpa using this
    unfold Oper.wp
    simp [execOp, ho, resolve, invoke, builtin, hs, hx, hrun, Result.andThen]
    exact hK
  · refine wp_append_own w s x t ho base e i z size bytes ht hi hz hsize hby hzs hsz v n xs hs hown ⟨b, off, none⟩ m c news hx h1 (fun j u hj => by simpa [Addr.add_lit] using h4 j u hj) h2 h63 hbytes hbase (fun v' w' q1 q2 _ => ?_)
    obtain ⟨a', c', rfl⟩ := owned_form q1
    exact h a' c' w' q1 q2
theorem wpList_append_reads {ops : Array Oper} {rest : List Oper} {o : Oper} {a : Act} {w : World} {Q : Exit → Act → World → Prop} (hgd : o.guard = none) (s x : Operand) (t : TypeId)
    (ho : o.op = .call { callee := .builtin .append, args := #[s, x], argTypes := #[t, t] })
    (base : Nat) (e : TypeId) (i : TypeInfo) (z : Value) (size bytes : Nat) (ht : P.underlying t = some (.slice e)) (hi : P.info? e = some i) (hz : i.zero = some z)
    (hsize : i.size = size) (hby : i.bytes = bytes) (hzs : z.cells.size = size) (hsz : 0 < size)
    (v : Value) (n : Nat) (xs : List Value) (hs : a.eval s = v) (hown : w.ownsRow base e size v n xs)
    (y : Value) (m : Nat) (news : List Value) (hx : a.eval x = y) (hr : Reads w size y m news)
    (h63 : n + m ≤ maxLen) (hbytes : (n + m) * bytes ≤ 140737488355328) (hbase : base ≤ w.heap.size)
    (h : ∀ a' c w', w'.ownsRow base e size (.slice a' (n + m) c) (n + m) (xs ++ news) → w.grownBy w' v.ownBlock → wpList P ops Q rest (a.put o.dst (.slice a' (n + m) c)) w') : wpList P ops Q (o :: rest) a w :=
  wpList_plain hgd fun _ hK => wp_append_reads s x t ho base e i z size bytes ht hi hz hsize hby hzs hsz v n xs hs hown y m news hx hr h63 hbytes hbase fun a' c w' h2 h3 => hK _ _ (h a' c w' h2 h3)
/-- The same as one step of a region that draws its order. -/
theorem step_append_reads {ops : Array Oper} {o : Oper} {a : Act} {w : World} {K : Act → World → Prop} {Q : Exit → Act → World → Prop} {E : Prop} (hgd : o.guard = none) (s x : Operand) (t : TypeId)
    (ho : o.op = .call { callee := .builtin .append, args := #[s, x], argTypes := #[t, t] })
    (base : Nat) (e : TypeId) (i : TypeInfo) (z : Value) (size bytes : Nat) (ht : P.underlying t = some (.slice e)) (hi : P.info? e = some i) (hz : i.zero = some z)
    (hsize : i.size = size) (hby : i.bytes = bytes) (hzs : z.cells.size = size) (hsz : 0 < size)
    (v : Value) (n : Nat) (xs : List Value) (hs : a.eval s = v) (hown : w.ownsRow base e size v n xs)
    (y : Value) (m : Nat) (news : List Value) (hx : a.eval x = y) (hr : Reads w size y m news)
    (h63 : n + m ≤ maxLen) (hbytes : (n + m) * bytes ≤ 140737488355328) (hbase : base ≤ w.heap.size)
    (h : ∀ a' c w', w'.ownsRow base e size (.slice a' (n + m) c) (n + m) (xs ++ news) → w.grownBy w' v.ownBlock → K (a.put o.dst (.slice a' (n + m) c)) w') :
    if Region.wanted o (yielded ops a.tmps) = true then Oper.wp P o a w K Q else E := by
  rw [if_pos (by simp [Region.wanted, hgd])]
  exact wp_append_reads s x t ho base e i z size bytes ht hi hz hsize hby hzs hsz v n xs hs hown y m news hx hr h63 hbytes hbase h
end
end Go.Proofs.Ytjmbnfcjambdkaa
