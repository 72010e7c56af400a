/- SpaceBack: lemmas for its walk. -/
import Derived.Test.YtkkfnpbbigcpbaaSpBackPure
import Derived.Test.YtkkfnpbbigcpbaaSpCopy
import Derived.Test.YtkkfnpbbigcpbaaTail
import Derived.Deep.MidRow
namespace Go.Proofs.Ytkkfnpbbigcpbaa
open Go.RowKit Go.Shelf
theorem info_run : (Try.prog.info? 36).map (fun i => (i.zero, i.size, i.bytes)) = some (some (.agg #[.int .i64 0, .int .i64 0]), 2, 16) := by kernel_rfl
/-- A space lies on where another block was turned. -/
theorem IsSp.other {w w' : World} {b B : Nat} {f g : Int} {fs gs : List Bool} (h : IsSp w B f fs) (hb : IsSp w b g gs) (hg : w.grownBy w' (some b)) (hne : B ≠ b) : IsSp w' B f fs := by
  have hlt := h.lt
  obtain ⟨v, h1, ⟨h2, h3, h4, h5⟩, h6⟩ := h
  refine ⟨v, (hg.block B hlt (by simpa using hne)).trans h1, ⟨h2, h3, h4, ?_⟩, h6.1, fun h0 k hk => (h6.2 h0 k hk).imp fun _ h => (hg.block k (lt_of_heap h) (fun e => ?_)).trans h⟩
  rotate_left
  · cases e
    obtain ⟨u, k1, _⟩ := hb
    rw [k1] at h
    cases h
  rcases h5 with h5 | ⟨b', o, c, e, hc, hm, h5⟩
  · exact .inl h5
  · refine .inr ⟨b', o, c, e, hc, hm, fun j x hj => ?_⟩
    have h7 := h5 j x hj
    have hx : ∃ q, x = .bool q := by
      simp only [bools, List.getElem?_map] at hj
      cases hq : fs[j]? with
      | none => simp [hq] at hj
      | some q => exact ⟨q, by simpa [hq, eq_comm] using hj⟩
    obtain ⟨q, rfl⟩ := hx
    by_cases hbb : b' = b
    · subst hbb
      exfalso
      obtain ⟨u, k1, k2, _⟩ := hb
      obtain ⟨i, hi⟩ : ∃ i, (o + j : Nat) = i := ⟨_, rfl⟩
      rw [hi, cell_of_row w b' i _ _ _ k1] at h7
      obtain ⟨a0, c0, rfl⟩ := k2.shape
      match i, h7 with
      | 0, h7 => simp at h7
      | 1, h7 => simp at h7
      | i + 2, h7 => simp at h7
    · rw [World.cell?_of_block (a := ⟨b', o + j, none⟩) (hg.block b' (block_lt_of_cell h7) (by simpa using hbb))]
      exact h7
/-- A space lies on where a row of runs was turned. -/
theorem IsSp.row {w w' : World} {b base n : Nat} {f : Int} {fs : List Bool} {v : Value} {cs : List Value} (h : IsSp w b f fs) (ho : w.ownsRow base 36 2 v n cs) (hg : w.grownBy w' v.ownBlock) : IsSp w' b f fs := by
  have hlt := h.lt
  obtain ⟨u, h1, ⟨h2, h3, h4, h5⟩, h6, h7⟩ := h
  have key : ∀ k cur t, w.heap[k]? = some (.cells cur t (0, 0)) → t ≠ 36 → some k ≠ v.ownBlock := by
    intro k cur t hk ht e
    obtain ⟨_, ⟨rfl, _⟩ | ⟨g, cap, cur', rfl, _, hgb, _⟩⟩ := ho
    · cases e
    · cases e
      rw [hk] at hgb
      cases hgb
      exact ht rfl
  refine ⟨u, (hg.block b hlt (key _ _ _ h1 (by decide))).trans h1, ⟨h2, h3, h4, ?_⟩, h6, fun h0 k hk => (h7 h0 k hk).imp fun _ h => (hg.block k (lt_of_heap h) (key _ _ _ h (by decide))).trans h⟩
  rcases h5 with h5 | ⟨b', o, c, e, hc, hm, h5⟩
  · exact .inl h5
  · refine .inr ⟨b', o, c, e, hc, hm, fun j x hj => ?_⟩
    have hk := h5 j x hj
    have hj2 := (List.getElem?_eq_some_iff.1 hj).1
    rw [bools_length] at hj2
    obtain ⟨cur, hcur⟩ := h7 (by omega) b' (by rw [e]; rfl)
    rw [World.cell?_of_block (a := ⟨b', o + j, none⟩) (hg.block b' (block_lt_of_cell hk) (key _ _ _ hcur (by decide)))]
    exact hk
/-- A row of runs is no space's block. -/
theorem runs_apart {w : World} {b : Nat} {f : Int} {fs : List Bool} {base n : Nat} {v : Value} {cs : List Value} (h : IsSp w b f fs) (ho : w.ownsRow base 36 2 v n cs) : v.ownBlock = none ∨ v.ownBlock ≠ some b := by
  obtain ⟨u, k1, _⟩ := h
  obtain ⟨_, ⟨rfl, _⟩ | ⟨g, cap, cur, rfl, _, hgb, _⟩⟩ := ho
  · exact .inl rfl
  · right
    intro e
    cases e
    rw [k1] at hgb
    cases hgb
theorem rcells_one (l : List (Int × Int)) : ∀ u ∈ rcells l, u.oneCell' = true := by
  intro u hu
  simp only [rcells, List.mem_flatMap] at hu
  obtain ⟨r, _, hr⟩ := hu
  simp at hr
  rcases hr with rfl | rfl <;> rfl
theorem rcells_snoc (l : List (Int × Int)) (r : Int × Int) : rcells (l ++ [r]) = rcells l ++ [.int .i64 r.1, .int .i64 r.2] := by simp [rcells]
theorem told_snoc (f : Int) (l : List (Nat × Nat)) (r : Nat × Nat) : told f (l ++ [r]) = told f l ++ [(f + (r.1 : Int), (r.2 : Int))] := by simp [told]
theorem told_get (f : Int) (l : List (Nat × Nat)) (k : Nat) (h : k < l.length) : (told f l)[k]'(by rw [told_length]; exact h) = (f + (l[k].1 : Int), (l[k].2 : Int)) := by simp [told]
theorem owned_some2 {w : World} {base n : Nat} {e : TypeId} {a : Option Addr} {c : Nat} {cs : List Value} (h : w.ownsRow base e 2 (.slice a n c) n cs) (hn : 0 < n) : ∃ g, a = some ⟨g, 0, none⟩ := by
  obtain ⟨h1, ⟨h2, h3⟩ | ⟨g', cap, cur, e1, _⟩⟩ := h
  · cases h2; simp at h1; omega
  · cases e1; exact ⟨g', rfl⟩
/-- A run is stored in a row of the call's own. -/
theorem store_run {w : World} {base n g c : Nat} {l : List (Int × Int)} (h : w.ownsRow base 36 2 (.slice (some ⟨g, 0, none⟩) n c) n (rcells l)) (hl : l.length = n) (i : Nat) (hi : i < n) (r : Int × Int) :
    ∃ W, (Instr.storeAt 36 (.pointer (some ⟨g, i * 2, none⟩)) (.agg #[.int .i64 r.1, .int .i64 r.2])).run Try.prog w = .ok () W ∧
      W.ownsRow base 36 2 (.slice (some ⟨g, 0, none⟩) n c) n (rcells (l.set i r)) ∧ w.grownBy W (some g) ∧ W.drawn = w.drawn := by
  refine ⟨_, run_storeAt_mid w g (i * 2) 36 #[.int .i64 r.1, .int .i64 r.2] (fun j hj => ?_) (by kernel_rfl) (by simp [Value.oneCell']), ?_⟩
  · simp at hj
    refine ⟨?_, h.frozenAt _⟩
    rw [h.cellAt (i * 2 + j) (by omega)]
    have := rcells_length l
    rw [List.getElem?_eq_getElem (by omega)]; exact Option.isSome_some
  · rw [rcells_set l i r (by omega)]
    have s1 := h.stored (i * 2) (.int .i64 r.1)
    have s2 := s1.1.stored (i * 2 + 1) (.int .i64 r.2)
    exact ⟨s2.1, s1.2.andThen s2.2 (fun j hj => .inr hj), rfl⟩
/-- No sector at all is asked for. -/
theorem take_zero (b : Nat) (w : World) :
    Calls Try.prog 29 #[.pointer (some ⟨b, 0, none⟩), .int .i64 0] w fun e w' => e = .returned (.tuple #[.int .i64 0, .int .i64 2]) ∧ Below w.heap.size w w' := by
  go_enter Try.func29, Try.ntmps29
  go_wp2_with fail
  refine bodyPost_ret (v := .tuple #[.int .i64 0, .int .i64 2]) (by simp [results, Try.results29, go_sem]) rfl ⟨rfl, ?_⟩
  exact ((((Below.refl _ w).alloc (Nat.le_refl _) _).alloc (by simp) _).alloc (by simp; omega) _).alloc (by simp; omega) _
/-- What a taking of K sectors answers and leaves, in one form: none, or a run that is apart. -/
def TakeOf (b : Nat) (N : Nat) (fs : List Bool) (rs : List (Nat × Nat)) (K : Nat) (w : World) (e : Ending) (w' : World) : Prop :=
  (∃ x : Int, x ≠ 0 ∧ e = .returned (.tuple #[.int .i64 0, .int .i64 x]) ∧ IsSp w' b 10 fs ∧ w.grownBy w' (some b)) ∨
  (∃ p : Nat, 1 ≤ K ∧ p + K ≤ N ∧ e = .returned (.tuple #[.int .i64 (10 + (p : Int)), .int .i64 0]) ∧ IsSp w' b 10 (setRun fs p K false) ∧ w.grownBy w' (some b) ∧ Taken N (setRun fs p K false) (rs ++ [(p, K)]) ∧ ∀ q ∈ rs, ¬ (p < q.1 + q.2 ∧ q.1 < p + K))
theorem take_of (b N : Nat) (fs : List Bool) (rs : List (Nat × Nat)) (K : Nat) (w : World) (h : IsSp w b 10 fs) (ht : Taken N fs rs) (hK : K ≤ 1000) :
    Calls Try.prog 29 #[.pointer (some ⟨b, 0, none⟩), .int .i64 (K : Int)] w (TakeOf b N fs rs K w) := by
  by_cases h0 : K = 0
  · subst h0
    refine (take_zero b w).mono ?_
    rintro e w' ⟨rfl, hb⟩
    exact .inl ⟨2, by omega, rfl, h.below hb, grown_of_below b hb⟩
  · refine (take_any b 10 fs K w h (by omega) (by omega) (by omega) (by omega)).mono ?_
    intro e w' hp
    unfold TakePost at hp
    cases hf : (runsAt fs 0).find? (fun r => decide (K ≤ r.2)) with
    | none =>
      rw [hf] at hp
      exact .inl ⟨14, by omega, hp.1, h.below hp.2, grown_of_below b hp.2⟩
    | some r =>
      rw [hf] at hp
      obtain ⟨t1, t2⟩ := ht.take (by omega) hf
      have := t1.2.1 (r.1, K) (by simp)
      exact .inr ⟨r.1, by omega, this.2, hp.1, hp.2.1, hp.2.2, t1, t2⟩
theorem give_ok (b N : Nat) (fs : List Bool) (qs : List (Nat × Nat)) (v : Value) (w : World) (h : IsSp w b 10 fs) (ht : Taken N fs qs) (hN : N ≤ 1000) (hr : Reads w 2 v qs.length (rcells (told 10 qs))) (hl : qs.length ≤ 100) :
    Calls Try.prog 33 #[.pointer (some ⟨b, 0, none⟩), v] w fun e w' => e = .returned (.int .i64 0) ∧ IsSp w' b 10 (List.replicate N true) ∧ w.grownBy w' (some b) := by
  rw [← told_length 10 qs] at hr
  refine (give_any b 10 fs v (told 10 qs) w h hr (by rw [told_length]; omega) (by omega) (by omega) (fun r hr => ?_)).mono ?_
  · simp only [told, List.mem_map] at hr
    obtain ⟨q, hq, rfl⟩ := hr
    have := ht.2.1 q hq
    exact ⟨by show -1000000 ≤ 10 + (q.1 : Int); omega, by show 10 + (q.1 : Int) ≤ 1000000; omega, by show (q.2 : Int) ≤ 1000000; omega⟩
  · intro e w' hp
    unfold TurnPost at hp
    rw [ht.back 10] at hp
    exact hp
theorem give_bad (b g N : Nat) (q : Nat × Nat) (w : World) (h : IsSp w b 10 (List.replicate N true)) (hN : N ≤ 1000) (h1 : 1 ≤ q.2) (h2 : q.1 + q.2 ≤ N) (hc0 : w.cell? ⟨g, 0, none⟩ = some (.int .i64 (10 + (q.1 : Int)))) (hc1 : w.cell? ⟨g, 1, none⟩ = some (.int .i64 (q.2 : Int))) :
    Calls Try.prog 33 #[.pointer (some ⟨b, 0, none⟩), .slice (some ⟨g, 0, none⟩) 1 1] w fun e w' => e = .returned (.int .i64 17) ∧ Below w.heap.size w w' := by
  have hr : Reads w 2 (.slice (some ⟨g, 0, none⟩) 1 1) 1 (rcells [(10 + (q.1 : Int), (q.2 : Int))]) := by
    refine ⟨rfl, fun u hu => ?_, by unfold maxLen; omega, .inr ⟨g, 0, 1, rfl, Nat.le_refl _, by unfold maxLen; omega, fun j u hj => ?_⟩⟩
    · simp [rcells] at hu
      rcases hu with rfl | rfl <;> rfl
    · match j, hj with
      | 0, hj => simp [rcells] at hj; subst hj; exact hc0
      | 1, hj => simp [rcells] at hj; subst hj; exact hc1
      | j + 2, hj => simp [rcells] at hj
  refine (give_any b 10 _ _ [(10 + (q.1 : Int), (q.2 : Int))] w h hr (by simp) (by omega) (by omega) (fun r hr => by simp at hr; subst hr; exact ⟨by show -1000000 ≤ 10 + (q.1 : Int); omega, by show 10 + (q.1 : Int) ≤ 1000000; omega, by show (q.2 : Int) ≤ 1000000; omega⟩)).mono ?_
  intro e w' hp
  unfold TurnPost at hp
  rw [List.length_singleton, give_there N 10 q h1 h2] at hp
  exact ⟨hp.1, hp.2.2⟩
theorem swap_perm (rs : List (Nat × Nat)) (I : Nat) (h0 : 0 < rs.length) (hI : I < rs.length) : ((rs.set 0 rs[I]).set I rs[0]).Perm rs := List.set_set_perm h0 hI
end Go.Proofs.Ytkkfnpbbigcpbaa
