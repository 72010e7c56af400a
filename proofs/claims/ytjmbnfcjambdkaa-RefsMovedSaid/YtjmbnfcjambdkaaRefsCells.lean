/- Refs in memory: a name and a digest, thirty-three cells. -/
import Derived.Test.YtjmbnfcjambdkaaRefsPure
import Derived.Test.YtjmbnfcjambdkaaDigSl
import Derived.Test.YtjmbnfcjambdkaaSl
namespace Go.Proofs.Ytjmbnfcjambdkaa
open Go.RowKit
def refL (r : RefT) : List Value := .string ⟨r.1.toArray⟩ :: Lib.byteCells r.2.bytes
def refA (r : RefT) : Array Value := (refL r).toArray
theorem refL_length (r : RefT) : (refL r).length = 33 := by simp [refL, Lib.byteCells, r.2.len]
@[simp, go_sem] theorem refA_size (r : RefT) : (refA r).size = 33 := by simp [refA, refL_length]
theorem refL_one (r : RefT) : ∀ u ∈ refL r, u.oneCell' = true := by
  intro u hu
  simp only [refL, List.mem_cons] at hu
  rcases hu with rfl | hu
  · rfl
  · simp only [Lib.byteCells, List.mem_map] at hu
    obtain ⟨x, _, rfl⟩ := hu
    rfl
@[simp, go_sem] theorem refA_ones (r : RefT) : rowOnes (refA r) = true := by
  unfold rowOnes
  rw [Array.all_eq_true_iff_forall_mem]
  intro v hv
  exact refL_one r v (by simpa [refA] using hv)
theorem refA_zero (r : RefT) : (refA r)[0]? = some (.string ⟨r.1.toArray⟩) := by simp [refA, refL]
@[simp, go_sem] theorem refA_getz (r : RefT) (h : 0 < (refA r).size) : (refA r)[0]'h = .string ⟨r.1.toArray⟩ := by simp [refA, refL]
theorem refA_dig (r : RefT) (k : Nat) (hk : k < 32) : (refA r)[1 + k]? = (dgst r.2)[k]? := by
  simp [refA, refL, dgst, Nat.add_comm 1 k]
def refCells (L : List RefT) : List Value := L.flatMap refL
theorem refCells_length (L : List RefT) : (refCells L).length = L.length * 33 := by
  induction L with
  | nil => rfl
  | cons r L ih => rw [refCells, List.flatMap_cons, List.length_append, refL_length]; simp only [refCells] at ih; rw [ih]; simp; omega
theorem refCells_one (L : List RefT) : ∀ u ∈ refCells L, u.oneCell' = true := by
  intro u hu
  simp only [refCells, List.mem_flatMap] at hu
  obtain ⟨r, _, hr⟩ := hu
  exact refL_one r u hr
theorem refCells_append (L M : List RefT) : refCells (L ++ M) = refCells L ++ refCells M := by simp [refCells]
theorem refCells_single (r : RefT) : refCells [r] = refL r := by simp [refCells]
theorem refCells_take (L : List RefT) (k : Nat) : (refCells L).take (k * 33) = refCells (L.take k) := by
  induction L generalizing k with
  | nil => simp [refCells]
  | cons r L ih =>
    cases k with
    | zero => simp [refCells]
    | succ k =>
      have e : refCells (r :: L) = refL r ++ refCells L := by simp [refCells]
      rw [e, List.take_append, refL_length, show (k + 1) * 33 - 33 = k * 33 by omega, ih, List.take_of_length_le (by rw [refL_length]; omega)]
      simp [refCells]
theorem refCells_drop (L : List RefT) (k : Nat) : (refCells L).drop (k * 33) = refCells (L.drop k) := by
  induction L generalizing k with
  | nil => simp [refCells]
  | cons r L ih =>
    cases k with
    | zero => simp [refCells]
    | succ k =>
      have e : refCells (r :: L) = refL r ++ refCells L := by simp [refCells]
      rw [e, List.drop_append, refL_length, show (k + 1) * 33 - 33 = k * 33 by omega, ih, List.drop_of_length_le (by rw [refL_length]; omega)]
      simp
theorem refCells_get (L : List RefT) (j k : Nat) (hj : j < L.length) (hk : k < 33) : (refCells L)[j * 33 + k]? = (refA L[j])[k]? := by
  have h1 : (refCells L)[j * 33 + k]? = ((refCells L).drop (j * 33))[k]? := by rw [List.getElem?_drop]
  rw [h1, refCells_drop, List.drop_eq_getElem_cons hj]
  have e : refCells (L[j] :: L.drop (j + 1)) = refL L[j] ++ refCells (L.drop (j + 1)) := by rw [refCells, List.flatMap_cons]; rfl
  rw [e, List.getElem?_append_left (by rw [refL_length]; omega)]
  simp [refA]
theorem reads_ref {w : World} {b o n c : Nat} {L : List RefT} (h : Reads w 33 (.slice (some ⟨b, o, none⟩) n c) n (refCells L)) (j : Nat) (hj : j < L.length) (k : Nat) (u : Value) (hu : (refA L[j])[k]? = some u) : w.cell? ⟨b, o + j * 33 + k, none⟩ = some u := by
  have hk : k < 33 := by have := (Array.getElem?_eq_some_iff.1 hu).1; simpa using this
  obtain ⟨_, _, _, ⟨h, _⟩ | ⟨b', o', c', h, _, _, h4⟩⟩ := h
  · cases h
  · cases h
    rw [Nat.add_assoc]
    exact h4 _ _ (by rw [refCells_get L j k hj hk]; exact hu)
theorem reads_refSpan {w : World} {b o n c : Nat} {L : List RefT} (h : Reads w 33 (.slice (some ⟨b, o, none⟩) n c) n (refCells L)) (j : Nat) (hj : j < L.length) : w.spanAt b (o + j * 33) 33 = some (refA L[j]) := by
  have := spanAt_cells (cs := refA L[j]) (by simp) (fun r u hr => reads_ref h j hj r u hr)
  rwa [refA_size] at this
theorem reads_refDig {w : World} {b o n c : Nat} {L : List RefT} (h : Reads w 33 (.slice (some ⟨b, o, none⟩) n c) n (refCells L)) (j : Nat) (hj : j < L.length) : w.spanAt b (o + j * 33 + 1) 32 = some (dgst L[j].2) := by
  have := spanAt_cells (w := w) (b := b) (o := o + j * 33 + 1) (cs := dgst L[j].2) (by simp) (fun r u hr => by
    have hr32 : r < 32 := by have := (Array.getElem?_eq_some_iff.1 hr).1; simpa using this
    have := reads_ref h j hj (1 + r) u (by rw [refA_dig _ _ hr32]; exact hr)
    rwa [← Nat.add_assoc] at this)
  rwa [dgst_size] at this
theorem info_ref : (Try.prog.info? 75).map (·.size) = some 33 := by kernel_rfl
theorem info_ref_parts : (Try.prog.info? 75).map (fun i => (i.zero, i.size)) = some (some (.agg (refA ([], dig0))), 33) := by kernel_rfl
theorem run_zero_ref (w : World) : (zeroValue 75).run Try.prog w = .ok (.agg (refA ([], dig0))) w := by kernel_rfl
section
variable (dst : Option Tmp) (x y : Operand) (ty : TypeId) (pos : String) (after : Array Edge) (guard : Option (Nat × Bool)) (a : Act) (w : World) (K : Act → World → Prop) (Q : Exit → Act → World → Prop)
@[go_sem ↓] theorem wp_load_ref : Oper.wp Try.prog ⟨dst, .load 75 x, ty, pos, after, guard⟩ a w K Q = loadRow w 33 (fun cs => K (a.put dst (.agg cs)) w) (wpSame Try.prog ⟨dst, .load 75 x, ty, pos, after, guard⟩ a w K Q) (a.eval x) :=
  wp_load_row_eq 75 _ 33 (by decide) Try.underlying75 rfl info_ref dst x ty pos after guard a w K Q
@[go_sem ↓] theorem wp_buildSlice_ref : Oper.wp Try.prog ⟨dst, .buildSlice 26 1 #[(0, x)], ty, pos, after, guard⟩ a w K Q = buildOne w 33 (fun cs => K (a.put dst (.slice (some ⟨w.heap.size, 0, none⟩) 1 1)) (w.alloc (.cells cs 75))) (wpSame Try.prog ⟨dst, .buildSlice 26 1 #[(0, x)], ty, pos, after, guard⟩ a w K Q) (a.eval x) :=
  wp_buildSlice_one_eq 26 75 33 (by omega) (by omega) Try.underlying26 Try.sizeOf75 _ run_zero_ref dst x ty pos after guard a w K Q
end
set_option maxRecDepth 20000 in
set_option maxHeartbeats 1000000 in
/-- The comparison of a ref's name. -/
theorem cmpRef_any (r : RefT) (n : List UInt8) (w : World) :
    Calls Try.prog 122 #[.agg (refA r), .string ⟨n.toArray⟩] w fun e w' => e = .returned (.int .i64 (Lib.compareBytes r.1 n)) ∧ Below w.heap.size w w' := by
  have hz := refA_zero r
  go_enter Try.func122, Try.ntmps122
  go_wp2_with fail
  refine (Try.strings_Compare _ _ _).mono ?_
  rintro e w' ⟨rfl, rfl⟩
  go_wp2_with fail
  go_ret
  exact ⟨rfl, (Below.refl _ _).alloc (Nat.le_refl _) _⟩
/-- The binary search by names. -/
theorem step_h (i j : Nat) (h : i < j) : i ≤ (i + j) / 2 ∧ (i + j) / 2 < j := by omega
set_option maxRecDepth 20000 in
set_option maxHeartbeats 4000000 in
theorem search_any (v : Value) (L : List RefT) (n : List UInt8) (w : World) (hr : Reads w 33 v L.length (refCells L)) (hL : Rising L) (hl : L.length ≤ 100000) :
    Calls Try.prog 121 #[v, .string ⟨n.toArray⟩, .func (.func 122) #[] #[]] w fun e w' => e = .returned (.tuple #[.int .i64 (lowI L n : Int), .bool (foundI L n)]) ∧ Below w.heap.size w w' := by
  obtain ⟨a0, c0, rfl⟩ := hr.shape
  have HR := hide hr
  have HL := hide hL
  have hlo := lowI_le L n
  clear hr hL
  go_enter Try.func121, Try.ntmps121
  go_wp2_with fail
  go_loopw [9, 10] (fun a b wr => ∃ i j : Nat, i ≤ j ∧ j ≤ L.length ∧ a = .int .i64 i ∧ b = .int .i64 j ∧ Hid (∀ k (h : k < L.length), k < i → lessL L[k].1 n = true) ∧ Hid (∀ k (h : k < L.length), j ≤ k → lessL L[k].1 n = false) ∧ Below w.heap.size w wr) (fun a b _ => (intOf b - intOf a).toNat)
  case atStart => exact ⟨0, L.length, by omega, by omega, rfl, rfl, hide (fun _ _ h => absurd h (by omega)), hide (fun k h h2 => absurd h (by omega)), Below.refl _ _⟩
  case round =>
    obtain ⟨i, j, hij, hj, rfl, rfl, h1, h2, hb⟩ := hrel
    have HB := hide hb
    clear hb
    by_cases hlt : i < j
    · obtain ⟨hm1, hm2⟩ := step_h i j hlt
      obtain ⟨m, hm⟩ : ∃ m, (i + j) / 2 = m := ⟨_, rfl⟩
      rw [hm] at hm1 hm2
      have hmL : m < L.length := by omega
      obtain ⟨b, o, c, hv⟩ := HR.out.isRow (by omega)
      cases hv
      have hsp := reads_refSpan (HR.out.below HB.out) m hmL
      obtain ⟨r, hrm⟩ : ∃ r, Hid (L[m] = r) := ⟨_, hide rfl⟩
      rw [hrm.out] at hsp
      have hlti : (i : Int) < (j : Int) := by omega
      have hmi : ((i : Int) + (j : Int)) / 2 = (m : Int) := by omega
      have hml : (m : Int) < (L.length : Int) := by omega
      have hml2 : (m : Int) ≤ 100000 := by omega
      have hil : (i : Int) + (j : Int) ≤ 200000 := by omega
      have hcr := compare_range r.1 n
      have HC := hide (compare_less r.1 n)
      obtain ⟨q, hq⟩ : ∃ q, Hid (Lib.compareBytes r.1 n = q) := ⟨_, hide rfl⟩
      have HCM := hide (fun W => (hq.out ▸ cmpRef_any r n W : Calls Try.prog 122 #[.agg (refA r), .string ⟨n.toArray⟩] W fun e w' => e = .returned (.int .i64 q) ∧ Below W.heap.size W w'))
      rw [hq.out] at HC hcr
      clear hm
      go_wp2_with fail
      refine (HCM.out _).mono ?_
      rintro e2 w2 ⟨rfl, hb2⟩
      have HB2 := hide (HB.out.trans (hb2.mono HB.out.size))
      clear hb2 hcr
      by_cases hq0 : q < 0
      · have hless : lessL r.1 n = true := by rw [decide_eq_true hq0] at HC; exact HC.out.symm
        have HLE := hide hless
        clear hless
        go_wp2_with fail
        go_roundw
        case rel =>
          refine ⟨m + 1, j, by omega, by omega, by go_num, rfl, hide (fun k hk hk2 => ?_), h2, HB2.out⟩
          by_cases e : k = m
          · subst e; rw [hrm.out]; exact HLE.out
          · exact less_trans _ _ _ (HL.out k m hk hmL (by omega)) (by rw [hrm.out]; exact HLE.out)
        case measure => simp [intOf]; omega
      · have hless : lessL r.1 n = false := by rw [decide_eq_false hq0] at HC; exact HC.out.symm
        have HLE := hide hless
        clear hless
        go_wp2_with fail
        go_roundw
        case rel =>
          refine ⟨i, m, by omega, by omega, rfl, rfl, h1, hide (fun k hk hk2 => ?_), HB2.out⟩
          by_cases e : k = m
          · subst e; rw [hrm.out]; exact HLE.out
          · cases h3 : lessL L[k].1 n with
            | false => rfl
            | true =>
              have := less_trans _ _ _ (HL.out m k hmL hk (by omega)) h3
              rw [hrm.out, HLE.out] at this; cases this
        case measure => simp [intOf]; omega
    · have hij2 : i = j := by omega
      subst hij2
      have hi := lowI_eq L n i hj h1.out (fun k hk h => h2.out k hk h)
      subst hi
      obtain ⟨i, hi⟩ : ∃ i, Hid (lowI L n = i) := ⟨_, hide rfl⟩
      have hf : foundI L n = foundI L n := rfl
      by_cases hlt2 : lowI L n < L.length
      · obtain ⟨b, o, c, hv⟩ := HR.out.isRow (by omega)
        cases hv
        have hsp := reads_refSpan (HR.out.below HB.out) _ hlt2
        have hfe := hide (found_eq hlt2)
        obtain ⟨r, hrm⟩ : ∃ r, Hid (L[lowI L n] = r) := ⟨_, hide rfl⟩
        rw [hrm.out] at hsp hfe
        have HC := hide (compare_zero r.1 n)
        obtain ⟨q, hq⟩ : ∃ q, Hid (Lib.compareBytes r.1 n = q) := ⟨_, hide rfl⟩
        have HCM := hide (fun W => (hq.out ▸ cmpRef_any r n W : Calls Try.prog 122 #[.agg (refA r), .string ⟨n.toArray⟩] W fun e w' => e = .returned (.int .i64 q) ∧ Below W.heap.size W w'))
        rw [hq.out] at HC
        have hres := hide (show foundI L n = (q == 0) by rw [hfe.out, HC.out])
        rw [hi.out] at hsp hlt2 hj ⊢
        have hlti : (i : Int) < (L.length : Int) := by omega
        clear hf h1 h2 hlo hij hlt
        go_wp2_with fail
        refine (HCM.out _).mono ?_
        rintro e2 w2 ⟨rfl, hb2⟩
        have HB2 := hide (HB.out.trans (hb2.mono HB.out.size))
        clear hb2
        go_wp2_with fail
        go_ret2
        refine ⟨?_, HB2.out⟩
        rw [hres.out, hi.out]
        rfl
      · have hres := hide (show foundI L n = false by unfold foundI; rw [List.getElem?_eq_none (by omega)])
        rw [hi.out] at hlt2 hj ⊢
        have hlti : ¬ (i : Int) < (L.length : Int) := by omega
        clear hf h1 h2 hlo hij hlt
        go_wp2_with fail
        go_ret2
        refine ⟨?_, HB.out⟩
        rw [hres.out, hi.out]
        rfl

end Go.Proofs.Ytjmbnfcjambdkaa
