/- A region that draws its order: operations that only read, and calls that leave all that was there, ahead of a chain of operations that come last whatever is drawn. The head is walked once, at the class of the worlds behind the one at hand; the tail in the text's order. -/
import Derived.Test.YtjmbnfcjambdkaaAfter
import Derived.StillTail
namespace Go
open Go.RowKit
section
variable {P : Program} {ops : Array Oper} {md : Region.Mode} {C : World → Prop}
/-- The head, in whatever order: each operation stands ahead of n and is quiet in the class; behind f of them L holds. -/
def headQ (P : Program) (md : Region.Mode) (ops : Array Oper) (C : World → Prop) (n : Nat) (L : Array Bool → Act → Prop) : Nat → Array Bool → Act → Prop
  | 0, listed, a => L listed a
  | f + 1, listed, a => Region.ready md ops listed ≠ [] ∧ ∀ i, i ∈ Region.ready md ops listed → i < n ∧ qOp P ops C i (headQ P md ops C n L f (listed.setIfInBounds i true)) a
theorem headQ_any {n g : Nat} {L : Array Bool → Act → Prop} {Q : Exit → Act → World → Prop} (hL : ∀ listed a w, C w → L listed a → wpAny P md ops Q g listed a w) (f : Nat) :
    ∀ (listed : Array Bool) (a : Act) (w : World), C w → headQ P md ops C n L f listed a → wpAny P md ops Q (f + g) listed a w := by
  induction f with
  | zero => intro listed a w hw h; rw [Nat.zero_add]; exact hL _ _ _ hw h
  | succ f ih =>
    intro listed a w hw h
    obtain ⟨h1, h2⟩ := h
    rw [show f + 1 + g = (f + g) + 1 by omega]
    refine ⟨fun e => absurd e h1, fun i hi => ?_⟩
    exact wpOp_of_qOp hw (fun a' w' hw' k => ih _ a' w' hw' k) (h2 i hi).2
/-- An operation that may come first may as well have come first. -/
theorem headQ_first {n i : Nat} {o : Oper} {v : Value} {L : Array Bool → Act → Prop} (ho : ops[i]? = some o) (hsel : ∀ (j : Nat) (u : Oper) cs b, ops[j]? = some u → u.op ≠ .select cs b)
    (hs : Region.sinkB md ops n = true) (hc : Region.chainB md ops n = true) (hn : n < ops.size) (hin : i < n) (hdone : ∀ listed a, L listed a → ∀ j, j ∈ Region.ready md ops listed → n ≤ j) (f : Nat) :
    ∀ (listed : Array Bool) (a : Act), HeadInv md ops n listed →
      (∀ j u, ops[j]? = some u → j ≠ i → listed.getD j true = false → (∀ e ∈ u.after, Region.binds md e = true → e.on ≠ i) → o.apart ops u = true) →
      i ∈ Region.ready md ops listed → YieldsIn P ops C o v a → headQ P md ops C n L f (listed.setIfInBounds i true) (a.put o.dst v) → headQ P md ops C n L (f + 1) listed a := by
  have early : ∀ (listed : Array Bool), HeadInv md ops n listed → i ∈ Region.ready md ops listed → ∀ j, j ∈ Region.ready md ops listed → j < n := by
    intro listed inv hr j hj
    by_cases hlt : j < n
    · exact hlt
    · exact absurd hj (tail_waits hs hc hn inv _ i rfl hin (mem_ready.1 hr).1 j (by omega))
  induction f with
  | zero =>
    intro listed a inv _ hr hy hh
    refine ⟨fun e => (by rw [e] at hr; cases hr), fun j hj => ⟨early listed inv hr j hj, ?_⟩⟩
    by_cases hji : j = i
    · subst hji; exact hy.qOp ho hh
    · have h1 := hdone _ _ hh j (ready_mono hj hji)
      have h2 := early listed inv hr j hj
      omega
  | succ f ih =>
    intro listed a inv hfree hr hy hh
    refine ⟨fun e => (by rw [e] at hr; cases hr), fun j hj => ⟨early listed inv hr j hj, ?_⟩⟩
    by_cases hji : j = i
    · subst hji; exact hy.qOp ho hh
    obtain ⟨hun, u, hu, hall⟩ := mem_ready.1 hj
    have apart : o.apart ops u = true := by
      refine hfree j u hu hji hun fun e he hb hon => ?_
      have h1 := hall e he hb
      rw [hon, getD_both (mem_ready.1 hr).1] at h1
      cases h1
    have h2 := qOp_put hu apart (fun cs b => hsel i o cs b ho) (fun cs b => hsel j u cs b hu) hy (hh.2 j (ready_mono hj hji)).2
    refine qOp_mono (fun a' h3 => ?_) h2
    refine ih (listed.setIfInBounds j true) a' (inv.set hj (early listed inv hr j hj)) ?_ (ready_mono hr (Ne.symm hji)) h3.1 ?_
    · intro k uk hk hki hku hno
      refine hfree k uk hk hki ?_ hno
      by_cases hjk : j = k
      · subst hjk; exact hun
      · rwa [getD_set_ne true hjk] at hku
    · rw [Array.setIfInBounds_comm _ _ hji]; exact h3.2
theorem headQ_lex {n g : Nat} {Lq : Act → Prop} (hsel : Region.noSelect ops = true) (hs : Region.sinkB md ops n = true) (hc : Region.chainB md ops n = true) (hn : n < ops.size) (l : List Oper) :
    ∀ (k : Nat) (listed : Array Bool) (a : Act), (∀ j, j < l.length → l[j]? = ops[k + j]?) → k + l.length = n → HeadInv md ops n listed → Region.lexHead md ops g l.length k listed = true → wpQuiet P ops C Lq l a →
      headQ P md ops C n (fun listed' a' => Region.seqB md ops g n listed' = true ∧ Lq a') l.length listed a := by
  induction l with
  | nil =>
    intro k listed a _ hk _ hB h
    obtain rfl : k = n := by simpa using hk
    exact ⟨by simpa [Region.lexHead] using hB, h⟩
  | cons o l ih =>
    intro k listed a hl hk inv hB h
    have h0 : ops[k]? = some o := by simpa using (hl 0 (by simp)).symm
    simp only [List.length_cons, Region.lexHead, Bool.and_eq_true] at hB
    obtain ⟨⟨hr, hf⟩, hB'⟩ := hB
    have hkn : k < n := by simp only [List.length_cons] at hk; omega
    have hr' : k ∈ Region.ready md ops listed := by simpa using hr
    have hst : qOp P ops C k (wpQuiet P ops C Lq l) a := by unfold qOp; simp only [h0]; exact h
    obtain ⟨v, hy, hK⟩ := yieldsIn_of_qOp h0 hst
    refine headQ_first h0 (Region.noSelect_spec hsel) hs hc hn hkn (fun listed' a' hL => seqB_ready hL.1) l.length listed a inv (Region.free_spec h0 hf) hr' hy ?_
    refine ih (k + 1) _ _ (fun j hj => ?_) (by simp only [List.length_cons] at hk; omega) (inv.set hr' hkn) hB' hK
    have := hl (j + 1) (by simp; omega)
    simpa [Nat.add_assoc, Nat.add_comm 1 j] using this
theorem wp_region_quiet_tail {id : Nat} {Q : Exit → Act → World → Prop} {a : Act} {w : World} {l : List Oper} (n : Nat) (hm : P.follows .mixedOrders = true) (hB : Region.lexTailB .any l.toArray n = true) (hC : C { w with drawn := w.drawn + 1 })
    (h : wpQuiet P l.toArray C (fun a' => ∀ w', C w' → wpList P l.toArray Q (l.drop n) a' w') (l.take n) a) : (Code.region id l.toArray true).wp P Q a w := by
  simp only [Region.lexTailB, Bool.and_eq_true, decide_eq_true_eq] at hB
  obtain ⟨⟨⟨⟨hsel, hn⟩, hs⟩, hc⟩, hlex⟩ := hB
  have hnl : n < l.length := by simpa using hn
  have hl1 : (l.take n).length = n := by simp; omega
  have hl2 : (l.drop n).length = l.toArray.size - n := by simp
  have inv : HeadInv .any l.toArray n (Array.replicate l.toArray.size false) :=
    ⟨by simp, fun j u _ hl => (by rw [getD_replicate_false] at hl; cases hl), fun t _ ht => getD_in (by simpa using ht) (getD_replicate_false _ _)⟩
  refine wp_region_any hm ?_
  have hsz : l.toArray.size = n + (l.drop n).length := by simp; omega
  have key := headQ_lex (C := C) (P := P) (md := .any) (g := l.toArray.size - n) (Lq := fun a' => ∀ w', C w' → wpList P l.toArray Q (l.drop n) a' w') hsel hs hc hn (l.take n) 0 (Array.replicate l.toArray.size false) a
    (fun j hj => by rw [hl1] at hj; simp [List.getElem?_take, hj]) (by rw [Nat.zero_add, hl1]) inv (by rw [hl1]; exact hlex) h
  rw [hl1] at key
  have := headQ_any (Q := Q) (g := (l.drop n).length) (fun listed a' w' hw' hL => wpAny_of_seq (l.drop n) n listed a' w' (fun j => by simp [List.getElem?_drop]) (by rw [hl2]; exact hL.1) (hL.2 w' hw')) n _ _ _ hC key
  rw [← hsz] at this
  exact this
/-- The same at the class of the worlds behind the one at hand. -/
theorem wp_region_after_tail {id : Nat} {Q : Exit → Act → World → Prop} {a : Act} {w : World} {l : List Oper} (n : Nat) (hm : P.follows .mixedOrders = true) (hB : Region.lexTailB .any l.toArray n = true)
    (h : wpQuiet P l.toArray (fun w' => ∃ x : After w, w' = x.world) (fun a' => ∀ x : After w, wpList P l.toArray Q (l.drop n) a' x.world) (l.take n) a) : (Code.region id l.toArray true).wp P Q a w := by
  refine wp_region_quiet_tail (C := fun w' => ∃ x : After w, w' = x.world) n hm hB ⟨⟨_, (Below.refl _ w).drew⟩, rfl⟩ ?_
  have : (fun a' => ∀ w', (∃ x : After w, w' = x.world) → wpList P l.toArray Q (l.drop n) a' w') = (fun a' => ∀ x : After w, wpList P l.toArray Q (l.drop n) a' x.world) := by
    funext a'
    exact propext ⟨fun h x => h _ ⟨x, rfl⟩, fun h w' ⟨x, e⟩ => e ▸ h x⟩
  rw [this]
  exact h
end
end Go
