/- space.Take: the first run that is long enough. -/
import Derived.Test.YtkkfnpbbigcpbaaSpFree
import Derived.Test.YtkkfnpbbigcpbaaHoist
namespace Go.Proofs.Ytkkfnpbbigcpbaa
open Go.RowKit Go.Shelf
attribute [local go_sem] Oper.semAt_some

/-- So many places from one on are turned. -/
def setRun (fs : List Bool) (p n : Nat) (c : Bool) : List Bool := fs.take p ++ List.replicate n c ++ fs.drop (p + n)
theorem setRun_length (fs : List Bool) (p n : Nat) (c : Bool) (h : p + n ≤ fs.length) : (setRun fs p n c).length = fs.length := by simp [setRun]; omega
theorem setRun_zero (fs : List Bool) (p : Nat) (c : Bool) : setRun fs p 0 c = fs := by simp [setRun]
theorem setRun_get (fs : List Bool) (p n : Nat) (c : Bool) (h : p + n ≤ fs.length) (i : Nat) : (setRun fs p n c)[i]? = if p ≤ i ∧ i < p + n then some c else fs[i]? := by
  unfold setRun
  by_cases h1 : i < p
  · rw [if_neg (by omega), List.append_assoc, List.getElem?_append_left (by simp; omega), List.getElem?_take, if_pos h1]
  · by_cases h2 : i < p + n
    · rw [if_pos (by omega), List.getElem?_append_left (by simp; omega), List.getElem?_append_right (by simp; omega), List.getElem?_replicate, if_pos (by simp; omega)]
    · rw [if_neg (by omega), List.getElem?_append_right (by simp; omega), List.getElem?_drop]
      congr 1
      simp; omega
theorem setRun_set (fs : List Bool) (p n : Nat) (c : Bool) (h : p + n < fs.length) : (setRun fs p n c).set (p + n) c = setRun fs p (n + 1) c := by
  apply List.ext_getElem?
  intro i
  rw [List.getElem?_set, setRun_length fs p n c (by omega), setRun_get fs p n c (by omega), setRun_get fs p (n + 1) c (by omega)]
  by_cases h1 : p + n = i
  · rw [if_pos h1, if_pos (by omega), if_pos (by omega)]
  · rw [if_neg h1]
    by_cases h2 : p ≤ i ∧ i < p + n
    · rw [if_pos h2, if_pos (by omega)]
    · rw [if_neg h2, if_neg (by omega)]
/-- Sectors that all are otherwise are turned. -/
theorem runTo_ok (f : Int) (c : Bool) (fs : List Bool) (p n : Nat) (h : p + n ≤ fs.length) (hall : ∀ j, j < n → fs[p + j]? = some (!c)) : ∀ k, k ≤ n → runTo f c fs (f + p) k = .ok (setRun fs p k c)
  | 0, _ => by rw [runTo, setRun_zero]
  | k + 1, hk => by
    rw [runTo, runTo_ok f c fs p n h hall k (by omega)]
    simp only [stepOne]
    have e : (f + (p : Int) + (k : Int) - f).toNat = p + k := by omega
    rw [e, if_neg (by rw [setRun_length fs p k c (by omega)]; omega)]
    have hg : (setRun fs p k c).getD (p + k) false = !c := by
      rw [List.getD_eq_getElem?_getD, setRun_get fs p k c (by omega), if_neg (by omega), hall k (by omega)]; rfl
    rw [hg, if_neg (by cases c <;> simp), setRun_set fs p k c (by omega)]
theorem turnOne_ok (f : Int) (c : Bool) (fs : List Bool) (p n : Nat) (h : p + n ≤ fs.length) (hn : 1 ≤ n) (hall : ∀ j, j < n → fs[p + j]? = some (!c)) : turnTo f c fs [(f + p, (n : Int))] 1 = .ok (setRun fs p n c) := by
  rw [turnTo, turnTo]
  simp only [List.getD_cons_zero]
  rw [if_neg (by omega)]
  exact runTo_ok f c fs p n h hall n (Nat.le_refl _)
theorem claim_ok (b g : Nat) (f : Int) (fs : List Bool) (p n : Nat) (w : World) (h : IsSp w b f fs) (hc0 : w.cell? ⟨g, 0, none⟩ = some (.int .i64 (f + (p : Int)))) (hc1 : w.cell? ⟨g, 1, none⟩ = some (.int .i64 (n : Int))) (hn : 1 ≤ n) (hn2 : n ≤ 1000000) (hf : -100000 ≤ f) (hf2 : f ≤ 100000)
    (hp : p + n ≤ fs.length) (hall : ∀ j, j < n → fs[p + j]? = some true) :
    Calls Try.prog 27 #[.pointer (some ⟨b, 0, none⟩), .slice (some ⟨g, 0, none⟩) 1 1] w fun e w' => e = .returned (.int .i64 0) ∧ IsSp w' b f (setRun fs p n false) ∧ w.grownBy w' (some b) := by
  have hl4 : fs.length ≤ 4096 := by obtain ⟨_, _, _, h⟩ := h; exact h.1
  have hr : Reads w 2 (.slice (some ⟨g, 0, none⟩) 1 1) 1 (rcells [(f + (p : Int), (n : Int))]) := by
    refine ⟨rfl, fun u hu => ?_, by unfold maxLen; omega, .inr ⟨g, 0, 1, rfl, Nat.le_refl _, by unfold maxLen; omega, fun j u hj => ?_⟩⟩
    · simp [rcells] at hu
      rcases hu with rfl | rfl <;> rfl
    · match j, hj with
      | 0, hj => simp [rcells] at hj; subst hj; exact hc0
      | 1, hj => simp [rcells] at hj; subst hj; exact hc1
      | j + 2, hj => simp [rcells] at hj
  refine (claim_any b f fs _ [(f + (p : Int), (n : Int))] w h hr (by simp) (by omega) (by omega) (fun r hr => by simp at hr; subst hr; exact ⟨by show -1000000 ≤ f + (p : Int); omega, by show f + (p : Int) ≤ 1000000; omega, by show (n : Int) ≤ 1000000; omega⟩)).mono ?_
  intro e w' hp2
  unfold TurnPost at hp2
  rw [List.length_singleton, turnOne_ok f false fs p n hp hn hall] at hp2
  exact hp2
/-- A box of another kind is written: the space is as it was. -/
theorem IsSp.set {w : World} {b k : Nat} {f : Int} {fs : List Bool} {t : TypeId} {kd : IntKind} {y : Int} (h : IsSp w b f fs) (hk : w.heap[k]? = some (.cells #[.int kd y] t (0, 0))) (hne : k ≠ b) (u : Value) : IsSp (w.setCell ⟨k, 0, none⟩ u) b f fs := by
  obtain ⟨v, h1, ⟨h2, h3, h4, h5⟩, h6⟩ := h
  refine ⟨v, (heap_setCell_other _ _ _ _ (Ne.symm hne)).trans h1, ⟨h2, h3, h4, ?_⟩, h6.1, h6.2.setCell k 0 u⟩
  rcases h5 with h5 | ⟨b', o, c, e, hc, hm, h5⟩
  · exact .inl h5
  · refine .inr ⟨b', o, c, e, hc, hm, fun j x hj => ?_⟩
    have h7 := h5 j x hj
    by_cases hb : b' = k
    · subst hb
      exfalso
      obtain ⟨i, hi⟩ : ∃ i, (o + j : Nat) = i := ⟨_, rfl⟩
      have hx : ∃ q, x = .bool q := by
        simp only [bools, List.getElem?_map] at hj
        cases hq : fs[j]? with
        | none => simp [hq] at hj
        | some q => exact ⟨q, by simpa [hq, eq_comm] using hj⟩
      obtain ⟨q, rfl⟩ := hx
      rw [show (⟨b', o + j, none⟩ : Addr) = ⟨b', i, none⟩ by rw [← hi]] at h7
      simp only [World.cell?, hk] at h7
      match i, h7 with
      | 0, h7 => simp at h7
      | i + 1, h7 => simp at h7
    · rw [← h7]
      simp only [World.cell?]
      rw [heap_setCell_other _ _ _ _ hb]
def TakePost (b : Nat) (f : Int) (fs : List Bool) (n : Nat) (w : World) (e : Ending) (w' : World) : Prop :=
  match (runsAt fs 0).find? (fun r => decide (n ≤ r.2)) with
  | none => e = .returned (.tuple #[.int .i64 0, .int .i64 14]) ∧ Below w.heap.size w w'
  | some r => e = .returned (.tuple #[.int .i64 (f + (r.1 : Int)), .int .i64 0]) ∧ IsSp w' b f (setRun fs r.1 n false) ∧ w.grownBy w' (some b)
theorem IsSp.own {A C : World} {b B : Nat} {f : Int} {fs : List Bool} {row : Option Nat} (h : IsSp A b f fs) (hg : A.grownBy C row) (hr : ∀ r, row = some r → B ≤ r ∧ ∃ o' : Obj, A.heap[r]? = some o' ∧ o'.isCells = false) : IsSp C b f fs := by
  obtain ⟨v, h1, ⟨h2, h3, h4, h5⟩, h6⟩ := h
  refine ⟨v, row_own B b _ rfl () A C row h1 hg hr, ⟨h2, h3, h4, ?_⟩, h6.1, fun h0 k hk => (h6.2 h0 k hk).imp fun _ h => row_own B k _ rfl () A C row h hg hr⟩
  rcases h5 with h5 | ⟨b', o, c, e, hc, hm, h5⟩
  · exact .inl h5
  · exact .inr ⟨b', o, c, e, hc, hm, fun j u hj => cell_kept (h5 j u hj) hg (fun r e => (hr r e).2)⟩
set_option maxRecDepth 100000 in
set_option maxHeartbeats 8000000 in
theorem take_any (b : Nat) (f : Int) (fs : List Bool) (n : Nat) (w : World) (h : IsSp w b f fs) (hn : 1 ≤ n) (hn2 : n ≤ 1000000) (hf : -100000 ≤ f) (hf2 : f ≤ 100000) :
    Calls Try.prog 29 #[.pointer (some ⟨b, 0, none⟩), .int .i64 (n : Int)] w (TakePost b f fs n w) := by
  refine (callsIn_wide (n := 3)).1 ?_
  have hl4 : fs.length ≤ 4096 := by obtain ⟨_, _, _, h⟩ := h; exact h.1
  have hblt := h.lt
  have H := hide h
  clear h
  refine callsIn_of_wp_marks Try.func29 rfl trivial ?_ rfl
  simp only [Try.ntmps29, List.size_toArray, List.length_cons, List.length_nil, Nat.reduceAdd, Nat.reduceSub, Array.replicate_succ, Array.replicate_zero, List.push_toArray, List.append_toArray, List.nil_append, List.cons_append]
  have hn3 : ¬ (n : Int) < 1 := by omega
  gi_wp2_with (refine ⟨trivial, ?_⟩; gi_at_call 28; refine (runs_in _ _ _).mono ?_; rintro e w' ⟨rfl, rfl⟩)
  obtain ⟨W0, hW0⟩ : ∃ W0, ((((w.alloc (.cells #[.pointer (some ⟨b, 0, none⟩)] 33)).alloc (.cells #[.int .i64 (n : Int)] 3)).alloc (.cells #[.int .i64 0] 3)).alloc (.cells #[.int .i64 0] 37)).alloc (.cells #[.pointer (some ⟨b, 0, none⟩)] 33) = W0 := ⟨_, rfl⟩
  have q1 := (((Boxed.new w 33 (.pointer (some ⟨b, 0, none⟩))).alloc (.cells #[.int .i64 (n : Int)] 3)).alloc (.cells #[.int .i64 0] 3)).alloc (.cells #[.int .i64 0] 37) |>.alloc (.cells #[.pointer (some ⟨b, 0, none⟩)] 33)
  have q2 := (((Boxed.new (w.alloc (.cells #[.pointer (some ⟨b, 0, none⟩)] 33)) 3 (.int .i64 (n : Int))).alloc (.cells #[.int .i64 0] 3)).alloc (.cells #[.int .i64 0] 37)).alloc (.cells #[.pointer (some ⟨b, 0, none⟩)] 33)
  have q3 := ((Boxed.new ((w.alloc (.cells #[.pointer (some ⟨b, 0, none⟩)] 33)).alloc (.cells #[.int .i64 (n : Int)] 3)) 3 (.int .i64 0)).alloc (.cells #[.int .i64 0] 37)).alloc (.cells #[.pointer (some ⟨b, 0, none⟩)] 33)
  have q4 := (Boxed.new (((w.alloc (.cells #[.pointer (some ⟨b, 0, none⟩)] 33)).alloc (.cells #[.int .i64 (n : Int)] 3)).alloc (.cells #[.int .i64 0] 3)) 37 (.int .i64 0)).alloc (.cells #[.pointer (some ⟨b, 0, none⟩)] 33)
  have q5 := Boxed.new ((((w.alloc (.cells #[.pointer (some ⟨b, 0, none⟩)] 33)).alloc (.cells #[.int .i64 (n : Int)] 3)).alloc (.cells #[.int .i64 0] 3)).alloc (.cells #[.int .i64 0] 37)) 33 (.pointer (some ⟨b, 0, none⟩))
  have hB0 : Below w.heap.size w (((((w.alloc (.cells #[.pointer (some ⟨b, 0, none⟩)] 33)).alloc (.cells #[.int .i64 (n : Int)] 3)).alloc (.cells #[.int .i64 0] 3)).alloc (.cells #[.int .i64 0] 37)).alloc (.cells #[.pointer (some ⟨b, 0, none⟩)] 33)) := (((((Below.refl _ w).alloc (Nat.le_refl _) _).alloc (by simp) _).alloc (by simp; omega) _).alloc (by simp; omega) _).alloc (by simp; omega) _
  have hsz : (((((w.alloc (.cells #[.pointer (some ⟨b, 0, none⟩)] 33)).alloc (.cells #[.int .i64 (n : Int)] 3)).alloc (.cells #[.int .i64 0] 3)).alloc (.cells #[.int .i64 0] 37)).alloc (.cells #[.pointer (some ⟨b, 0, none⟩)] 33)).heap.size = w.heap.size + 5 := by simp
  simp only [World.size_alloc] at q2 q3 q4 q5
  rw [hW0] at q1 q2 q3 q4 q5 hB0 hsz ⊢
  clear hW0
  have HF := hide (show ∀ pre : List (RunOf fs), (∀ y ∈ pre, y.1.2 < n) → pre = allRuns fs → (runsAt fs 0).find? (fun r => decide (n ≤ r.2)) = none from fun pre h1 h2 => by
    rw [List.find?_eq_none]
    intro r hr
    have : r ∈ (allRuns fs).map Subtype.val := by rw [allRuns_map]; exact hr
    obtain ⟨y, hy, rfl⟩ := List.mem_map.1 this
    have := h1 y (h2 ▸ hy)
    simp; omega)
  have HG := hide (show ∀ (pre : List (RunOf fs)) (x : RunOf fs), (∀ y ∈ pre, y.1.2 < n) → n ≤ x.1.2 → (pre ++ [x]) <+: allRuns fs → (runsAt fs 0).find? (fun r => decide (n ≤ r.2)) = some x.1 from fun pre x h1 h2 h3 => by
    obtain ⟨k, hk⟩ := h3
    have e : runsAt fs 0 = pre.map Subtype.val ++ (x.1 :: k.map Subtype.val) := (allRuns_map fs).symm.trans (by rw [← hk]; simp)
    refine (congrArg (List.find? (fun r => decide (n ≤ r.2))) e).trans ?_
    rw [List.find?_append]
    have : (pre.map Subtype.val).find? (fun r => decide (n ≤ r.2)) = none := by
      rw [List.find?_eq_none]
      intro r hr
      obtain ⟨y, hy, rfl⟩ := List.mem_map.1 hr
      have := h1 y hy
      simp; omega
    rw [this]
    simp [h2])
  refine wpIn_rangeFunc_ownH rfl (by omega) (gf := 84) (lb := #[.pointer (some ⟨w.heap.size + 1 + 1 + 1 + 1, 0, none⟩)]) rfl trivial (enters_of Try.func84 (by kernel_rfl) rfl)
    (runs_stops (3 - 1) (by omega) (w.heap.size + 1 + 1 + 1 + 1) (w.heap.size + 5) (fun _ => False) b f fs (by omega) (by omega) w H.out (fun k hk => hk.elim) (by omega) (by omega) (fun hk => hk) W0 (by omega) (fun k hk => hB0.block k hk) q5)
    (fun h1 h2 => h1.trans h2) (Keep.put (by omega)) (Below.refl _ _) (fun _ => rfl)
    (fun pre W => ((∀ y ∈ pre, y.1.2 < n) ∧ Boxed W w.heap.size 33 (.pointer (some ⟨b, 0, none⟩)) ∧ Boxed W (w.heap.size + 1) 3 (.int .i64 (n : Int)) ∧ Boxed W (w.heap.size + 1 + 1) 3 (.int .i64 0) ∧ Boxed W (w.heap.size + 1 + 1 + 1) 37 (.int .i64 0)) ∧ Below w.heap.size w W ∧ w.heap.size + 5 ≤ W.heap.size)
    (fun c pre W => (c = .ret ∧ ∃ (pr : List (RunOf fs)) (x : RunOf fs), pre = pr ++ [x] ∧ (∀ y ∈ pr, y.1.2 < n) ∧ n ≤ x.1.2 ∧ Boxed W (w.heap.size + 1 + 1) 3 (.int .i64 (f + (x.1.1 : Int))) ∧ Boxed W (w.heap.size + 1 + 1 + 1) 37 (.int .i64 0) ∧ IsSp W b f (setRun fs x.1.1 n false)) ∧ w.grownBy W (some b))
    (fun s A C row hs hg hr => by
      obtain ⟨⟨h1, b1, b2, b3, b4⟩, hB, hz⟩ := hs
      have hk : ∀ (Bx : Nat) (t : TypeId) (u : Value), Boxed A Bx t u → Boxed C Bx t u := fun Bx t u hb => row_own _ Bx _ rfl () A C row hb hg hr
      exact ⟨⟨h1, hk _ _ _ b1, hk _ _ _ b2, hk _ _ _ b3, hk _ _ _ b4⟩, hB.grown hg hB.size (fun k hk' => by have := (hr k hk').1; omega), Nat.le_trans hz hg.size⟩)
    (fun c s A C row hs hg hr => by
      obtain ⟨⟨h0, pr, x, h1, h2, h3, b3, b4, hsp⟩, hG⟩ := hs
      have hk : ∀ (Bx : Nat) (t : TypeId) (u : Value), Boxed A Bx t u → Boxed C Bx t u := fun Bx t u hb => row_own _ Bx _ rfl () A C row hb hg hr
      refine ⟨⟨h0, pr, x, h1, h2, h3, hk _ _ _ b3, hk _ _ _ b4, ?_⟩, hG.andThen hg (fun j hj => .inl (by have := (hr j hj).1; omega))⟩
      exact hsp.own hg hr)
    ⟨⟨by simp, q1, q2, q3, q4⟩, hB0, by omega⟩
    (fun x a' W => ∃ Bx, w.heap.size + 4 < Bx ∧ W.heap[Bx]? = some (.cells #[.int .i64 (f + (x.1.1 : Int)), .int .i64 (x.1.2 : Int)] 36 (0, 0)) ∧ a' = { tmps := #[.pointer (some ⟨b, 0, none⟩), .int .i64 (n : Int), .pointer (some ⟨w.heap.size, 0, none⟩), .pointer (some ⟨w.heap.size + 1, 0, none⟩), .pointer (some ⟨w.heap.size + 1 + 1, 0, none⟩), .pointer (some ⟨w.heap.size + 1 + 1 + 1, 0, none⟩), .pointer (some ⟨Bx, 0, none⟩), .bool false, .pointer (some ⟨b, 0, none⟩), .bool false, .bool false, .int .i64 (n : Int), .bool false, .pointer (some ⟨b, 0, none⟩), .func (.func 84) #[] #[.pointer (some ⟨w.heap.size + 1 + 1 + 1 + 1, 0, none⟩)], .agg #[.int .i64 (f + (x.1.1 : Int)), .int .i64 (x.1.2 : Int)], undef, undef, undef, undef, undef, undef, undef, undef, undef, undef, undef, undef, undef], defers := [] })
    (fun x a' _ X Y row hs hg hr => by obtain ⟨Bx, h1, h2, h3⟩ := hs; exact ⟨Bx, h1, row_own _ Bx _ rfl () X Y row h2 hg hr, h3⟩)
    ?assign ?body ?done ?stop
  case assign =>
    rintro l pre x W K ⟨⟨h1, b1, b2, b3, b4⟩, hB1, hz1⟩ hK
    unfold encRun
    gi_wp2
    refine hK _ _ ((KeepsOthers.alloc _ _).from _) (fun k hk _ => Below.heap_alloc _ _ _ (by omega)) ⟨⟨h1, b1.alloc _, b2.alloc _, b3.alloc _, b4.alloc _⟩, hB1.alloc hB1.size _, by simp; omega⟩ ⟨W.heap.size, by omega, heap_alloc_new _ _, rfl⟩
  case body =>
    rintro l pre x a' W hl ⟨r, hr⟩ ⟨⟨h1, b1, b2, b3, b4⟩, hB1, hz1⟩ ⟨Bx, hBx, bX, rfl⟩ hlt
    have cN := b2.cell
    have cX1 : W.cell? ⟨Bx, 1, none⟩ = some (.int .i64 (x.1.2 : Int)) := by rw [cell_of_row W Bx 1 _ _ _ bX]; rfl
    by_cases hlong : n ≤ x.1.2
    · have cS := b1.cell
      have cX0 : W.cell? ⟨Bx, 0, none⟩ = some (.int .i64 (f + (x.1.1 : Int))) := by rw [cell_of_row W Bx 0 _ _ _ bX]; rfl
      have hxr := runs_isRun fs x.1 x.2
      have HB1 := hide hB1
      have B1 := hide b1
      have B3 := hide b3
      have B4 := hide b4
      have BX := hide bX
      have HALL := hide (show ∀ j, j < n → fs[x.1.1 + j]? = some true from fun j hj => hxr.2.2.1 j (by omega))
      have hpn : x.1.1 + n ≤ fs.length := by have := hxr.2.1; omega
      clear b3 b4 bX hxr
      have z1 : w.heap.size < W.heap.size := by omega
      have z2 : w.heap.size + 1 < W.heap.size := by omega
      have z3 : Bx < W.heap.size := lt_of_heap BX.out
      have hmix : Try.prog.follows .mixedOrders = true := by kernel_rfl
      gi_wp2
      have hC0 : W.drew.cell? ⟨Bx, 0, none⟩ = some (.int .i64 (f + (x.1.1 : Int))) ∧ W.drew.cell? ⟨w.heap.size, 0, none⟩ = some (.pointer (some ⟨b, 0, none⟩)) ∧ W.drew.cell? ⟨w.heap.size + 1, 0, none⟩ = some (.int .i64 (n : Int)) := ⟨cX0, cS, cN⟩
      refine wpIn_region_C (fun w' => w'.cell? ⟨Bx, 0, none⟩ = some (.int .i64 (f + (x.1.1 : Int))) ∧ w'.cell? ⟨w.heap.size, 0, none⟩ = some (.pointer (some ⟨b, 0, none⟩)) ∧ w'.cell? ⟨w.heap.size + 1, 0, none⟩ = some (.int .i64 (n : Int))) hmix ?_
      change wpAnyC _ _ _ _ _ _ _ _ _ _ (World.drew _)
      refine wpAnyC_take (i := 0) (.pointer (some ⟨Bx, 0, none⟩)) rfl (by kernel_rfl) (by kernel_rfl) (by kernel_rfl) (by kernel_rfl) (fun _ _ _ h => h) hC0 ⟨.inl ⟨by rfl, fun w' hw' => by (obtain ⟨k1, k2, k3⟩ := hw'; first | (go_simp; done) | (go_simp; with_reducible rfl))⟩, fun _ => rfl⟩ ?_
      refine wpAnyC_take (i := 1) (.int .i64 (f + (x.1.1 : Int))) rfl (by kernel_rfl) (by kernel_rfl) (by kernel_rfl) (by kernel_rfl) (fun _ _ _ h => h) hC0 ⟨.inl ⟨by rfl, fun w' hw' => by (obtain ⟨k1, k2, k3⟩ := hw'; first | (go_simp; done) | (go_simp; with_reducible rfl))⟩, fun _ => rfl⟩ ?_
      refine wpAnyC_take (i := 2) (.pointer (some ⟨b, 0, none⟩)) rfl (by kernel_rfl) (by kernel_rfl) (by kernel_rfl) (by kernel_rfl) (fun _ _ _ h => h) hC0 ⟨.inl ⟨by rfl, fun w' hw' => by (obtain ⟨k1, k2, k3⟩ := hw'; first | (go_simp; done) | (go_simp; with_reducible rfl))⟩, fun _ => rfl⟩ ?_
      refine wpAnyC_take (i := 3) (.pointer (some ⟨Bx, 0, none⟩)) rfl (by kernel_rfl) (by kernel_rfl) (by kernel_rfl) (by kernel_rfl) (fun _ _ _ h => h) hC0 ⟨.inl ⟨by rfl, fun w' hw' => by (obtain ⟨k1, k2, k3⟩ := hw'; first | (go_simp; done) | (go_simp; with_reducible rfl))⟩, fun _ => rfl⟩ ?_
      refine wpAnyC_take (i := 4) (.int .i64 (f + (x.1.1 : Int))) rfl (by kernel_rfl) (by kernel_rfl) (by kernel_rfl) (by kernel_rfl) (fun _ _ _ h => h) hC0 ⟨.inl ⟨by rfl, fun w' hw' => by (obtain ⟨k1, k2, k3⟩ := hw'; first | (go_simp; done) | (go_simp; with_reducible rfl))⟩, fun _ => rfl⟩ ?_
      refine wpAnyC_take (i := 5) (.int .i64 (n : Int)) rfl (by kernel_rfl) (by kernel_rfl) (by kernel_rfl) (by kernel_rfl) (fun _ _ _ h => h) hC0 ⟨.inl ⟨by rfl, fun w' hw' => by (obtain ⟨k1, k2, k3⟩ := hw'; first | (go_simp; done) | (go_simp; with_reducible rfl))⟩, fun _ => rfl⟩ ?_
      refine wpAnyC_take (i := 6) (.agg #[.int .i64 (f + (x.1.1 : Int)), .int .i64 (n : Int)]) rfl (by kernel_rfl) (by kernel_rfl) (by kernel_rfl) (by kernel_rfl) (fun _ _ _ h => h) hC0 ⟨.inl ⟨by rfl, fun w' hw' => by (obtain ⟨k1, k2, k3⟩ := hw'; first | (go_simp; done) | (go_simp; with_reducible rfl))⟩, fun _ => rfl⟩ ?_
      refine wpAnyC_one (i := 7) (by kernel_rfl) rfl (fun K hK => ?_)
      go_simp
      refine hK _ _ (by refine ⟨?_, ?_, ?_⟩ <;> go_simp) ?_; clear hK K
      refine wpAnyC_one (i := 8) (by kernel_rfl) rfl (fun K hK => ?_)
      go_simp
      refine ⟨trivial, ?_⟩
      refine (CallsIn.inRound l (callsIn_wide.2 (claim_ok b _ f fs x.1.1 n _ (H.out.below (by repeat (first | exact HB1.out | refine Below.drew ?_ | refine Below.alloc ?_ (by first | omega | (simp; done) | (simp; omega)) _))) (by simp) (by simp) hn hn2 hf hf2 hpn HALL.out))).mono ?_
      rintro e w' ⟨rfl, hsp, hg⟩
      have hne1 : Bx ≠ b := by omega
      have HSP := hide hsp
      have HGG := hide hg
      have r1 := grown_at hg (show _ = some (Obj.cells #[.int .i64 (f + (x.1.1 : Int)), .int .i64 (x.1.2 : Int)] 36 (0, 0)) from (Below.heap_alloc _ _ _ (lt_of_heap BX.out)).trans BX.out) hne1
      have r2 := grown_at hg (show _ = some (Obj.cells #[.int .i64 0] 3 (0, 0)) from (Below.heap_alloc _ _ _ B3.out.lt).trans B3.out) (by omega)
      have r3 := grown_at hg (show _ = some (Obj.cells #[.int .i64 0] 37 (0, 0)) from (Below.heap_alloc _ _ _ B4.out.lt).trans B4.out) (by omega)
      have r4 := grown_at hg (show _ = some (Obj.cells #[.pointer (some ⟨b, 0, none⟩)] 33 (0, 0)) from (Below.heap_alloc _ _ _ B1.out.lt).trans B1.out) (by omega)
      have r5 := grown_at hg (show _ = some (Obj.cells #[.int .i64 (n : Int)] 3 (0, 0)) from (Below.heap_alloc _ _ _ b2.lt).trans b2) (by omega)
      have d1 : w'.cell? ⟨Bx, 0, none⟩ = some (.int .i64 (f + (x.1.1 : Int))) := by rw [cell_of_row w' Bx 0 _ _ _ r1]; rfl
      have d4 := one_cell r4
      have d5 := one_cell r5
      have c32 := one_cell r2
      have c42 := one_cell r3
      have f32 := frozen_of_row w' _ 0 _ _ r2
      have f42 := frozen_of_row w' _ 0 _ _ r3
      have R1 := hide r1
      have R2 := hide r2
      have R3 := hide r3
      have R4 := hide r4
      have R5 := hide r5
      clear hsp hg r1 r2 r3 r4 r5
      refine hK _ _ ⟨d1, d4, d5⟩ ?_; clear hK K
      refine wpAnyC_one (i := 9) (by kernel_rfl) rfl (fun K hK => ?_)
      go_simp
      refine hK _ _ (by refine ⟨?_, ?_, ?_⟩ <;> (go_simp; try omega)) ?_; clear hK K
      refine wpAnyC_one (i := 10) (by kernel_rfl) rfl (fun K hK => ?_)
      go_simp
      refine hK _ _ (by refine ⟨?_, ?_, ?_⟩ <;> (go_simp; try omega)) ?_; clear hK K
      refine wpAnyC_done (by kernel_rfl) ?_ _
      gi_wp2
      have hb1 : w.grownBy W (some b) := ⟨HB1.out.os, HB1.out.tape, HB1.out.output, HB1.out.size, fun k hk _ => HB1.out.block k hk⟩
      have g1 := hb1.andThen (World.grownBy_alloc W (.cells #[.int .i64 (f + (x.1.1 : Int)), .int .i64 (n : Int)] 36) none) (fun j hj => by cases hj)
      have g2 : w.grownBy (W.alloc (.cells #[.int .i64 (f + (x.1.1 : Int)), .int .i64 (n : Int)] 36)).drew (some b) := ⟨g1.os, g1.tape, g1.output, g1.size, g1.block⟩
      have g3 := g2.andThen HGG.out (fun j hj => .inr hj)
      have g5 := (g3.andThen (grownBy_setCell' w' (w.heap.size + 1 + 1) (.int .i64 (f + (x.1.1 : Int)))) (fun j hj => .inl (by cases hj; omega))).andThen (grownBy_setCell' _ (w.heap.size + 1 + 1 + 1) (.int .i64 0)) (fun j hj => .inl (by cases hj; omega))
      have k3 := (((KeepsOthers.alloc W (.cells #[.int .i64 (f + (x.1.1 : Int)), .int .i64 (n : Int)] 36)).from W0.heap.size).trans ((KeepsOthers.drew _).from W0.heap.size)).trans (KeepsFrom.of_grownBy HGG.out (fun j hj => by cases hj; omega))
      have k5 := (k3.trans ((KeepsOthers.setCell _ ⟨w.heap.size + 1 + 1, 0, none⟩ (.int .i64 (f + (x.1.1 : Int)))).from W0.heap.size)).trans ((KeepsOthers.setCell _ ⟨w.heap.size + 1 + 1 + 1, 0, none⟩ (.int .i64 0)).from W0.heap.size)
      have x3 : Boxed w' (w.heap.size + 1 + 1) 3 (.int .i64 0) := R2.out
      have x4 : Boxed w' (w.heap.size + 1 + 1 + 1) 37 (.int .i64 0) := R3.out
      exact ⟨k5, ⟨rfl, pre, x, rfl, h1, hlong, (x3.set _).other (by omega) _, (x4.other (by omega) _).set _, (HSP.out.set R2.out (by omega) _).set (x4.other (by omega) _) (by omega) _⟩, g5⟩
    · have hlt2 : x.1.2 < n := by omega
      gi_wp2
      refine ⟨KeepsFrom.refl _ _, Keep.refl _ _ _, ⟨fun y hy => ?_, b1, b2, b3, b4⟩, hB1, hz1⟩
      rcases List.mem_append.1 hy with hy | hy
      · exact h1 y hy
      · rw [List.mem_singleton.1 hy]; exact hlt2
  case done =>
    rintro D ys W hD rfl ⟨⟨h1, b1, b2, b3, b4⟩, hB1, hz1⟩ hK
    have c3 := b3.cell
    have f3 := b3.frozen
    have c4 := b4.cell
    have f4 := b4.frozen
    have HFN := hide (HF.out _ h1 rfl)
    have HB := hide hB1
    have X3 := hide b3
    have X4 := hide b4
    clear b1 b2
    gi_wp2
    have hKD : ((W.setCell ⟨w.heap.size + 1 + 1, 0, none⟩ (.int .i64 0)).setCell ⟨w.heap.size + 1 + 1 + 1, 0, none⟩ (.int .i64 14)).heap[D]? = some (.deferred (some [])) := (heap_setCell_other _ _ _ _ (by show D ≠ w.heap.size + 1 + 1 + 1; omega)).trans ((heap_setCell_other _ _ _ _ (by show D ≠ w.heap.size + 1 + 1; omega)).trans hK)
    refine ⟨by simp, .inl ⟨_, _, rfl, run_takeDeferred hKD, ?_⟩⟩
    have g := grownBy_putObj' ((W.setCell ⟨w.heap.size + 1 + 1, 0, none⟩ (.int .i64 0)).setCell ⟨w.heap.size + 1 + 1 + 1, 0, none⟩ (.int .i64 14)) D (.deferred none)
    have q3 := (((X3.out.set (.int .i64 0)).other (B' := w.heap.size + 1 + 1 + 1) (by omega) (.int .i64 14)).kept g (by simp; omega)).cell
    have q4 := (((X4.out.other (B' := w.heap.size + 1 + 1) (by omega) (.int .i64 0)).set (.int .i64 14)).kept g (by simp; omega)).cell
    refine ⟨.tuple #[.int .i64 0, .int .i64 14], by simp [results, Try.results29, q3, q4, go_sem], ?_⟩
    unfold TakePost
    rw [HFN.out]
    exact ⟨rfl, ((HB.out.setCell (p := ⟨w.heap.size + 1 + 1, 0, none⟩) (by show w.heap.size ≤ w.heap.size + 1 + 1; omega) _).setCell (p := ⟨w.heap.size + 1 + 1 + 1, 0, none⟩) (by show w.heap.size ≤ w.heap.size + 1 + 1 + 1; omega) _).trans (belowK_b (w := w) (Nat.le_refl _) _ D _ _ (by omega) hKD rfl rfl)⟩
  case stop =>
    rintro D c pre W hD hpre ⟨⟨rfl, pr, x, rfl, h1, h2, b3, b4, hsp⟩, hG⟩ hK
    have HGN := hide (HG.out pr x h1 h2 hpre)
    gi_wp2
    refine ⟨by simp, .inl ⟨_, _, rfl, run_takeDeferred hK, ?_⟩⟩
    have g := grownBy_putObj' W D (.deferred none)
    have q3 := (b3.kept g (by simp; omega)).cell
    have q4 := (b4.kept g (by simp; omega)).cell
    refine ⟨.tuple #[.int .i64 (f + (x.1.1 : Int)), .int .i64 0], by simp [results, Try.results29, q3, q4, go_sem], ?_⟩
    unfold TakePost
    rw [HGN.out]
    exact ⟨rfl, hsp.own (B := 0) g (fun r e => by cases e; exact ⟨Nat.zero_le _, _, hK, rfl⟩), hG.andThen g (fun j hj => .inl (by cases hj; omega))⟩
end Go.Proofs.Ytkkfnpbbigcpbaa
