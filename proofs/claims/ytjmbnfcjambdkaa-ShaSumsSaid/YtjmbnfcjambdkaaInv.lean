/- A region that draws its order: each operation yields a value of its kind (V), whatever has run, and keeps all that was there. -/
import Derived.Test.YtjmbnfcjambdkaaAfter
import Derived.Orders
import Derived.RegionTactic
namespace Go
open Go.RowKit
section
variable {P : Program} {ops : Array Oper} {Q : Exit → Act → World → Prop} {md : Region.Mode} {V : Nat → Value → World → Prop} {a0 : Act} {w0 : World}
/-- What holds while such a region runs. -/
structure Kept (ops : Array Oper) (V : Nat → Value → World → Prop) (a0 : Act) (w0 : World) (listed : Array Bool) (a : Act) (w : World) : Prop where
  below : Below w0.heap.size w0 w
  size : a.tmps.size = a0.tmps.size
  defers : a.defers = a0.defers
  old : ∀ t, (∀ (i : Nat) (o : Oper), ops[i]? = some o → o.dst ≠ some t) → a.tmps.getD t undef = a0.tmps.getD t undef
  done : ∀ (i : Nat) (o : Oper) (t : Nat), ops[i]? = some o → listed.getD i false = true → o.dst = some t → V i (a.tmps.getD t undef) w
theorem Kept.step {listed : Array Bool} {a : Act} {w w' : World} (h : Kept ops V a0 w0 listed a w) {i : Nat} {o : Oper} (ho : ops[i]? = some o) {t : Nat} (ht : o.dst = some t) (hs : t < a0.tmps.size)
    (hd : ∀ (j : Nat) (u : Oper), ops[j]? = some u → j ≠ i → u.dst ≠ some t) (hV : ∀ i v (w w' : World), V i v w → Below w.heap.size w w' → V i v w') {v : Value} (hb : Below w.heap.size w w') (hv : V i v w') :
    Kept ops V a0 w0 (listed.setIfInBounds i true) (a.put o.dst v) w' := by
  have hget : ∀ r, r ≠ t → (a.put o.dst v).tmps.getD r undef = a.tmps.getD r undef := fun r hr => by
    simp only [Act.put, ht, Array.getD_eq_getD_getElem?]
    rw [Array.getElem?_setIfInBounds_ne (Ne.symm hr)]
  refine ⟨h.below.trans (hb.mono h.below.size), by simp [Act.put, ht, h.size], by simp [Act.put, ht, h.defers], fun r hr => ?_, fun j u r hu hl hr => ?_⟩
  · have : r ≠ t := fun e => hr i o ho (by rw [ht, e])
    rw [hget r this]
    exact h.old r hr
  · by_cases hji : j = i
    · subst hji
      rw [ho] at hu
      cases hu
      rw [ht] at hr
      cases hr
      have : (a.put o.dst v).tmps.getD t undef = v := by
        simp only [Act.put, ht, Array.getD_eq_getD_getElem?]
        rw [Array.getElem?_setIfInBounds_self_of_lt (by rw [h.size]; exact hs)]
        rfl
      rw [this]
      exact hv
    · have hrt : r ≠ t := fun e => hd j u hu hji (by rw [hr, e])
      rw [hget r hrt]
      have hl2 : listed.getD j false = true := by rw [getD_set_ne false (Ne.symm hji)] at hl; exact hl
      exact hV _ _ _ _ (h.done j u r hu hl2 hr) hb
/-- The steps of such a region. -/
def KeptSteps (P : Program) (md : Region.Mode) (ops : Array Oper) (Q : Exit → Act → World → Prop) (V : Nat → Value → World → Prop) (a0 : Act) (w0 : World) : Prop :=
  ∀ (i : Nat) (o : Oper) (listed : Array Bool) (a : Act) (w : World), ops[i]? = some o → Kept ops V a0 w0 listed a w → (∀ e ∈ o.after, Region.binds md e = true → listed.getD e.on false = true) →
    wpOp P ops Q i (fun a' w' => ∃ v, a' = a.put o.dst v ∧ V i v w' ∧ Below w.heap.size w w') a w
theorem all_listed {listed : Array Bool} (hl : listed.size = ops.size) (hb : ∀ (i : Nat) (o : Oper), ops[i]? = some o → ∀ e ∈ o.after, e.on < i) (hr : Region.ready md ops listed = []) : ∀ i, i < ops.size → listed.getD i false = true := by
  intro i
  induction i using Nat.strongRecOn with
  | _ i ih =>
    intro hi
    by_cases h : listed.getD i false = true
    · exact h
    · exfalso
      have hlt : i < listed.size := by omega
      have : i ∈ Region.ready md ops listed := by
        refine mem_ready.2 ⟨?_, ops[i], Array.getElem?_eq_getElem hi, fun e he _ => ih _ (hb i ops[i] (Array.getElem?_eq_getElem hi) e he) (by have := hb i ops[i] (Array.getElem?_eq_getElem hi) e he; omega)⟩
        simpa [hlt] using h
      rw [hr] at this
      cases this
theorem wpAny_kept (hV : ∀ i v (w w' : World), V i v w → Below w.heap.size w w' → V i v w') (hd : ∀ (i : Nat) (o : Oper), ops[i]? = some o → ∃ t, o.dst = some t ∧ t < a0.tmps.size ∧ ∀ (j : Nat) (u : Oper), ops[j]? = some u → j ≠ i → u.dst ≠ some t)
    (hb : ∀ (i : Nat) (o : Oper), ops[i]? = some o → ∀ e ∈ o.after, e.on < i) (hS : KeptSteps P md ops Q V a0 w0)
    (hE : ∀ (listed : Array Bool) (a : Act) (w : World), Kept ops V a0 w0 listed a w → (∀ i, i < ops.size → listed.getD i false = true) → Q .normal a w) :
    ∀ (fuel : Nat) (listed : Array Bool) (a : Act) (w : World), listed.size = ops.size → listed.toList.count false ≤ fuel → Kept ops V a0 w0 listed a w → wpAny P md ops Q fuel listed a w := by
  intro fuel
  induction fuel with
  | zero =>
    intro listed a w hl hc hk
    have hnil : Region.ready md ops listed = [] := by
      cases hr : Region.ready md ops listed with
      | nil => rfl
      | cons i rs =>
        exfalso
        obtain ⟨h1, o, ho, _⟩ := mem_ready.1 (show i ∈ Region.ready md ops listed by rw [hr]; exact List.mem_cons_self)
        have hi : i < listed.size := by rw [hl]; exact (Array.getElem?_eq_some_iff.1 ho).1
        have : false ∈ listed.toList := by
          have h2 : listed[i] = false := by simpa [hi] using h1
          rw [← h2]
          simp
        have := List.count_pos_iff.2 this
        omega
    exact ⟨hnil, hE listed a w hk (all_listed hl hb hnil)⟩
  | succ fuel ih =>
    intro listed a w hl hc hk
    refine ⟨fun hr => hE listed a w hk (all_listed hl hb hr), fun i hi => ?_⟩
    obtain ⟨h1, o, ho, h2⟩ := mem_ready.1 hi
    have hlt : i < listed.size := by rw [hl]; exact (Array.getElem?_eq_some_iff.1 ho).1
    have h3 : listed[i] = false := by simpa [hlt] using h1
    refine wpOp_mono ?_ (hS i o listed a w ho hk h2)
    rintro a' w' ⟨v, rfl, hv, hbl⟩
    obtain ⟨t, ht, hts, hdt⟩ := hd i o ho
    refine ih _ _ _ (by simpa using hl) ?_ (hk.step ho ht hts hdt hV hbl hv)
    have hp : 0 < listed.toList.count false := List.count_pos_iff.2 (by rw [← h3]; simp)
    have hcs := List.count_set (a := true) (b := false) (l := listed.toList) (i := i) (by simpa using hlt)
    rw [Array.toList_setIfInBounds, hcs, show listed.toList[i]'(by simpa using hlt) = false by simpa using h3]
    rw [if_pos (by decide), if_neg (by decide)]
    omega
/-- Each operation has a slot of its own. -/
def Region.ownDst (ops : Array Oper) (n : Nat) : Bool := (List.range ops.size).all fun i => match (ops[i]?).bind (·.dst) with
  | some t => decide (t < n) && (List.range ops.size).all fun j => j == i || (ops[j]?).bind (·.dst) != some t
  | none => false
/-- Its edges point back. -/
def Region.edgesBack (ops : Array Oper) : Bool := (List.range ops.size).all fun i => ((ops[i]?).map (·.after.all fun e => decide (e.on < i))).getD true
theorem ownDst_spec {n : Nat} (h : Region.ownDst ops n = true) (i : Nat) (o : Oper) (ho : ops[i]? = some o) : ∃ t, o.dst = some t ∧ t < n ∧ ∀ (j : Nat) (u : Oper), ops[j]? = some u → j ≠ i → u.dst ≠ some t := by
  have h1 := List.all_eq_true.1 h i (List.mem_range.2 (Array.getElem?_eq_some_iff.1 ho).1)
  rw [ho] at h1
  simp only [Option.bind_some] at h1
  cases ht : o.dst with
  | none => rw [ht] at h1; cases h1
  | some t =>
    rw [ht] at h1
    simp only [Bool.and_eq_true, decide_eq_true_eq] at h1
    refine ⟨t, rfl, h1.1, fun j u hu hj he => ?_⟩
    have h2 := List.all_eq_true.1 h1.2 j (List.mem_range.2 (Array.getElem?_eq_some_iff.1 hu).1)
    rw [hu] at h2
    simp [hj, he] at h2
theorem edgesBack_spec (h : Region.edgesBack ops = true) (i : Nat) (o : Oper) (ho : ops[i]? = some o) (e : Edge) (he : e ∈ o.after) : e.on < i := by
  have h1 := List.all_eq_true.1 h i (List.mem_range.2 (Array.getElem?_eq_some_iff.1 ho).1)
  rw [ho] at h1
  simp only [Option.map_some, Option.getD_some, Array.all_eq_true_iff_forall_mem, decide_eq_true_eq] at h1
  exact h1 e he
theorem wp_region_kept {id : Nat} {a : Act} {w : World} (V : Nat → Value → World → Prop) (hm : P.follows .mixedOrders = true) (hD : Region.ownDst ops a.tmps.size = true) (hB : Region.edgesBack ops = true)
    (hV : ∀ i v (w w' : World), V i v w → Below w.heap.size w w' → V i v w') (hS : KeptSteps P .any ops Q V a { w with drawn := w.drawn + 1 })
    (hE : ∀ (listed : Array Bool) (a' : Act) (w' : World), Kept ops V a { w with drawn := w.drawn + 1 } listed a' w' → (∀ i, i < ops.size → listed.getD i false = true) → Q .normal a' w') : (Code.region id ops true).wp P Q a w :=
  wp_region_any hm (wpAny_kept (V := V) (a0 := a) (w0 := { w with drawn := w.drawn + 1 }) hV (ownDst_spec hD) (fun i o ho e he => edgesBack_spec hB i o ho e he) hS hE _ _ _ _ (by simp) (by simp)
    ⟨Below.refl _ _, rfl, rfl, fun _ _ => rfl, fun i o t ho hl _ => by
      have hi := (Array.getElem?_eq_some_iff.1 ho).1
      simp [hi] at hl⟩)
/-- For each operation, in the text's order. -/
def EachOp (R : Nat → Oper → Prop) : Nat → List Oper → Prop
  | _, [] => True
  | k, o :: l => R k o ∧ EachOp R (k + 1) l
theorem EachOp.get {R : Nat → Oper → Prop} : ∀ (l : List Oper) (k : Nat), EachOp R k l → ∀ (i : Nat) (o : Oper), l[i]? = some o → R (k + i) o
  | [], _, _, i, o, h => by simp at h
  | o :: l, k, h, 0, u, hu => by simp at hu; subst hu; exact h.1
  | o :: l, k, h, i + 1, u, hu => by
    have := EachOp.get l (k + 1) h.2 i u (by simpa using hu)
    rwa [show k + 1 + i = k + (i + 1) by omega] at this
def Region.foreign (ops : Array Oper) (t : Nat) : Bool := ops.all fun o => o.dst != some t
theorem foreign_spec {t : Nat} (h : Region.foreign ops t = true) (i : Nat) (o : Oper) (ho : ops[i]? = some o) : o.dst ≠ some t := by
  have := Array.all_eq_true_iff_forall_mem.1 h o (Array.mem_of_getElem? ho)
  simpa using this
/-- Operation o stands behind operation j, whose slot is t. -/
def Region.behind (md : Region.Mode) (ops : Array Oper) (o : Oper) (j t : Nat) : Bool := (o.after.toList.any fun e => e.on == j && Region.binds md e) && (ops[j]?).bind (·.dst) == some t
/-- What an operation of such a region may lean on: the values of those it stands behind, and those that were there. -/
def OpFits (P : Program) (md : Region.Mode) (ops : Array Oper) (Q : Exit → Act → World → Prop) (V : Nat → Value → World → Prop) (a0 : Act) (w0 : World) (i : Nat) (o : Oper) : Prop :=
  ∀ (a : Act) (w : World), Below w0.heap.size w0 w → (∀ t, Region.foreign ops t = true → a.tmps.getD t undef = a0.tmps.getD t undef) →
    (∀ j t, Region.behind md ops o j t = true → V j (a.tmps.getD t undef) w) →
    ∀ K : Act → World → Prop, (∀ v w', V i v w' → Below w.heap.size w w' → K (a.put o.dst v) w') →
      if Region.wanted o (yielded ops a.tmps) = true then Oper.wp P o a w K Q else K (a.put o.dst undef) w
theorem kept_steps (h : EachOp (OpFits P md ops Q V a0 w0) 0 ops.toList) : KeptSteps P md ops Q V a0 w0 := fun i o listed a w ho hk hA => by
  have h1 := EachOp.get ops.toList 0 h i o (by simpa using ho)
  rw [Nat.zero_add] at h1
  refine wpOp_step ho fun K' hK => h1 a w hk.below (fun t ht => hk.old t (foreign_spec ht)) (fun j t hj => ?_) K' fun v w' hv hb => hK _ _ ⟨v, rfl, hv, hb⟩
  simp only [Region.behind, Bool.and_eq_true, List.any_eq_true, beq_iff_eq] at hj
  obtain ⟨⟨e, he, rfl, hb⟩, hd⟩ := hj
  cases hu : ops[e.on]? with
  | none => rw [hu] at hd; simp at hd
  | some u => rw [hu] at hd; exact hk.done e.on u t hu (hA e (by simpa using he) hb) (by simpa using hd)
end
end Go
