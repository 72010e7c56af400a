/- SpaceNil: what it returns. -/
import Derived.Test.YtkkfnpbbigcpbaaSpAwake
import Derived.Test.YtkkfnpbbigcpbaaSpNil
namespace Go.Proofs.Ytkkfnpbbigcpbaa.spaceNil
open Go.RowKit Go.Shelf
attribute [local go_sem] Oper.semAt_some
/-- A loop over the runs of a space that is none. -/
theorem range_nil {g : Operand} {ps : Array Tmp} {assign body : Code} {Q : Exit → Act → World → Prop} {a : Act} {w : World} (Bn : Nat) (hg : a.eval g = .func (.func 84) #[] #[.pointer (some ⟨Bn, 0, none⟩)])
    (hB : Bn < w.heap.size) (hbox : w.heap[Bn]? = some (.cells #[.pointer none] 33 (0, 0))) (hps : ∀ x : RunOf [], (encRun 0 [] x).size = ps.size)
    (hdone : ∀ D W, w.heap.size ≤ D → Below w.heap.size w W → W.heap[D]? = some (.deferred (some [])) → Q .normal { a with defers := { target := .collected D, args := #[] } :: a.defers } W) :
    (Code.rangeFunc g ps assign body).wpIn Fence.wide 3 Try.prog Q a w := by
  refine wpIn_rangeFunc_ownH rfl (by omega) (gf := 84) (lb := #[.pointer (some ⟨Bn, 0, none⟩)]) hg trivial (enters_of Try.func84 (by kernel_rfl) rfl)
    (runs_stops_nil (3 - 1) Bn (Keep w.heap.size (fun _ => False)) w hB hbox)
    (fun h1 h2 => h1.trans h2) (Keep.put (Nat.le_refl _)) (Below.refl _ _) hps
    (fun _ W => Below w.heap.size w W)
    (fun _ _ _ => False)
    (fun s A C row hs hg hr => hs.grown hg hs.size (fun k hk => (hr k hk).1))
    (fun _ _ _ _ _ hs _ _ => hs)
    (Below.refl _ _)
    (fun _ _ _ => False) (fun _ _ _ _ _ _ hs _ _ => hs)
    ?assign ?body ?done ?stop
  case assign =>
    rintro l pre x W K _ _
    exact absurd x.2 (by simp [runsAt, runsFrom])
  case body =>
    rintro l pre x a' W _ _ _ h _
    exact h.elim
  case done =>
    rintro D ys W hD _ hB1 hK
    exact hdone D W hD hB1 hK
  case stop =>
    rintro D c pre W _ _ h _
    exact h.elim
set_option maxRecDepth 100000 in
set_option maxHeartbeats 8000000 in
theorem walk (f t : Int) (w : World) (hf : (Lit.int .i64 f).wf = true) (ht : (Lit.int .i64 t).wf = true) :
    Calls Try.prog 8 #[.int .i64 f, .int .i64 t] w fun e w' => e = .returned (.bool true) ∧ Below w.heap.size w w' := by
  refine (callsIn_wide (n := 3)).1 ?_
  have hmix : Try.prog.follows .mixedOrders = true := by kernel_rfl
  refine callsIn_of_wp_marks Try.func8 rfl trivial ?_ rfl
  simp only [Try.ntmps8, List.size_toArray, List.length_cons, List.length_nil, Nat.reduceAdd, Nat.reduceSub, Array.replicate_succ, Array.replicate_zero, List.push_toArray, List.append_toArray, List.nil_append, List.cons_append]
  gi_wp2_with (refine ⟨trivial, ?_⟩; first
    | (gi_at_call 25; refine (callsIn_wide.2 (awake05_any _)).mono ?_; rintro e1 w1 ⟨rfl, hb1⟩; have HB1 := hide hb1; clear hb1)
    | (gi_at_call 29; refine (callsIn_wide.2 (take_nil _ _)).mono ?_; rintro e2 w2 ⟨rfl, hb2⟩; have HB2 := hide hb2; clear hb2)
    | (gi_at_call 26; refine (callsIn_wide.2 (new_any f t _ hf ht)).mono ?_; rintro e3 w3 ⟨b, rfl, hz, hs3, hb3⟩; have HS3 := hide hs3; have HB3 := hide hb3; have HZ3 := hide hz; clear hz hs3 hb3))
  have hfw : -9223372036854775808 ≤ f ∧ f ≤ 9223372036854775807 := by simpa [Lit.wf, IntKind.min, IntKind.max, IntKind.signed, IntKind.bits] using hf
  have htw : -9223372036854775808 ≤ t ∧ t ≤ 9223372036854775807 := by simpa [Lit.wf, IntKind.min, IntKind.max, IntKind.signed, IntKind.bits] using ht
  refine ⟨trivial, ?_⟩
  refine (callsIn_wide.2 (free_any b f (List.replicate (sectors f t) true) w3 HS3.out ?lo ?hi)).mono ?_
  rotate_left 2
  rw [List.count_replicate_self]
  rintro e4 w4 ⟨rfl, hb4⟩
  have HB4 := hide (((HB1.out.trans (HB2.out.mono HB1.out.size)).trans (HB3.out.mono (Nat.le_trans HB1.out.size HB2.out.size))).trans (hb4.mono (Nat.le_trans (Nat.le_trans HB1.out.size HB2.out.size) HB3.out.size)))
  clear hb4
  by_cases h1 : f < t
  · have hw : IntKind.u64.wrap (IntKind.u64.wrap t - IntKind.u64.wrap f) = t - f := by
      rw [IntKind.wrap_u64, IntKind.wrap_u64, IntKind.wrap_u64]; omega
    by_cases h2 : t - f < 4096
    · obtain ⟨N, hN⟩ : ∃ N, Hid (sectors f t = N) := ⟨_, hide rfl⟩
      have hN1 : ((N : Nat) : Int) = t - f := by rw [← hN.out]; unfold sectors; rw [if_pos h1, if_pos h2]; omega
      have hN2 : IntKind.u64.wrap (N : Int) = t - f := by rw [IntKind.wrap_u64]; omega
      have hN3 : ¬ ((N : Nat) : Int) = 4096 := by omega
      have HN1 := hide hN1
      clear hN1
      rw [hN.out]
      gi_wp2
      refine ⟨trivial, ?_⟩
      gi_at_call 28
      refine (runs_in _ _ _).mono ?_
      rintro e5 w5 ⟨rfl, rfl⟩
      gi_wp2
      have hbn := heap_alloc_new w4 (.cells #[.pointer none] 33)
      refine range_nil w4.heap.size rfl (by simp) hbn (fun _ => rfl) ?_
      intro D W hD hBW hK
      have HBW := hide (((HB4.out.mono (Nat.le_refl _)).alloc HB4.out.size (.cells #[.pointer none] 33)).trans (hBW.mono (by have := HB4.out.size; simp at this ⊢; omega)))
      have HK := hide hK
      clear hBW hK hbn
      have RW := hide (show W.heap[w.heap.size]? = some (.cells #[.bool false] 4 (0, 0)) from (HBW.out.block _ (by simp)).trans (heap_alloc_new w _))
      gi_wp2_with (refine ⟨trivial, ?_⟩; first
        | (gi_at_call 27; refine (callsIn_wide.2 (claim_nil _ _)).mono ?_; rintro e6 w6 ⟨rfl, rfl⟩)
        | (gi_at_call 33; refine (callsIn_wide.2 (give_nil _ _)).mono ?_; rintro e6 w6 ⟨rfl, rfl⟩)
        | (gi_at_call 32; refine (callsIn_wide.2 (free_nil _)).mono ?_; rintro e7 w7 ⟨rfl, hb7⟩; have HB7 := hide hb7; have r7 := (hb7.block _ (lt_of_heap RW.out)).trans RW.out; have c7 := one_cell r7; have f7 := frozen_of_row _ _ 0 _ _ r7; have HK7 := hide ((hb7.block _ (lt_of_heap HK.out)).trans HK.out); have R7 := hide r7; clear hb7 r7)
        | (gi_at_call 30; refine (callsIn_wide.2 (is_nil _ _)).mono ?_; rintro e8 w8 ⟨rfl, q8, rfl⟩)
        | (gi_at_call 31; refine (callsIn_wide.2 (copy_nil _)).mono ?_; rintro e9 w9 ⟨rfl, rfl⟩))
      have hDW : w.heap.size < D := by have := HB4.out.size; simp at this hD; omega
      have hKD : ((w7.drewN q8).setCell ⟨w.heap.size, 0, none⟩ (.bool true)).heap[D]? = some (.deferred (some [])) := (heap_setCell_other _ _ _ _ (by show D ≠ w.heap.size; omega)).trans HK7.out
      refine ⟨by simp, .inl ⟨_, _, rfl, run_takeDeferred hKD, ?_⟩⟩
      have x7 : Boxed (w7.drewN q8) w.heap.size 4 (.bool false) := R7.out
      have q3 := ((x7.set (.bool true)).kept (grownBy_putObj' _ D (.deferred none)) (by simp; omega)).cell
      refine ⟨.bool true, by simp [results, Try.results8, q3, go_sem], rfl, ?_⟩
      have b1 : Below w.heap.size w W := ((Below.refl _ w).alloc (Nat.le_refl _) _).trans (HBW.out.mono (by simp))
      have b2 : Below w.heap.size w (w7.drewN q8) := b1.trans (show Below w.heap.size W (w7.drewN q8) from ⟨HB7.out.os, HB7.out.tape, HB7.out.output, HB7.out.size, fun k hk => HB7.out.block k (Nat.lt_of_lt_of_le hk b1.size)⟩)
      exact (b2.setCell (p := ⟨w.heap.size, 0, none⟩) (Nat.le_refl _) _).trans (belowK_b (w := w) (Nat.le_refl _) _ D _ _ (by omega) hKD rfl rfl)
    · rw [show sectors f t = 4096 by unfold sectors; rw [if_pos h1, if_neg h2]]
      have h3 : 4096 ≤ t - f := by omega
      have hw2 : ¬ t - f < 4096 := by omega
      gi_wp2
      refine ⟨trivial, ?_⟩
      gi_at_call 28
      refine (runs_in _ _ _).mono ?_
      rintro e5 w5 ⟨rfl, rfl⟩
      gi_wp2
      have hbn := heap_alloc_new w4 (.cells #[.pointer none] 33)
      refine range_nil w4.heap.size rfl (by simp) hbn (fun _ => rfl) ?_
      intro D W hD hBW hK
      have HBW := hide (((HB4.out.mono (Nat.le_refl _)).alloc HB4.out.size (.cells #[.pointer none] 33)).trans (hBW.mono (by have := HB4.out.size; simp at this ⊢; omega)))
      have HK := hide hK
      clear hBW hK hbn
      have RW := hide (show W.heap[w.heap.size]? = some (.cells #[.bool false] 4 (0, 0)) from (HBW.out.block _ (by simp)).trans (heap_alloc_new w _))
      gi_wp2_with (refine ⟨trivial, ?_⟩; first
        | (gi_at_call 27; refine (callsIn_wide.2 (claim_nil _ _)).mono ?_; rintro e6 w6 ⟨rfl, rfl⟩)
        | (gi_at_call 33; refine (callsIn_wide.2 (give_nil _ _)).mono ?_; rintro e6 w6 ⟨rfl, rfl⟩)
        | (gi_at_call 32; refine (callsIn_wide.2 (free_nil _)).mono ?_; rintro e7 w7 ⟨rfl, hb7⟩; have HB7 := hide hb7; have r7 := (hb7.block _ (lt_of_heap RW.out)).trans RW.out; have c7 := one_cell r7; have f7 := frozen_of_row _ _ 0 _ _ r7; have HK7 := hide ((hb7.block _ (lt_of_heap HK.out)).trans HK.out); have R7 := hide r7; clear hb7 r7)
        | (gi_at_call 30; refine (callsIn_wide.2 (is_nil _ _)).mono ?_; rintro e8 w8 ⟨rfl, q8, rfl⟩)
        | (gi_at_call 31; refine (callsIn_wide.2 (copy_nil _)).mono ?_; rintro e9 w9 ⟨rfl, rfl⟩))
      have hDW : w.heap.size < D := by have := HB4.out.size; simp at this hD; omega
      have hKD : ((w7.drewN q8).setCell ⟨w.heap.size, 0, none⟩ (.bool true)).heap[D]? = some (.deferred (some [])) := (heap_setCell_other _ _ _ _ (by show D ≠ w.heap.size; omega)).trans HK7.out
      refine ⟨by simp, .inl ⟨_, _, rfl, run_takeDeferred hKD, ?_⟩⟩
      have x7 : Boxed (w7.drewN q8) w.heap.size 4 (.bool false) := R7.out
      have q3 := ((x7.set (.bool true)).kept (grownBy_putObj' _ D (.deferred none)) (by simp; omega)).cell
      refine ⟨.bool true, by simp [results, Try.results8, q3, go_sem], rfl, ?_⟩
      have b1 : Below w.heap.size w W := ((Below.refl _ w).alloc (Nat.le_refl _) _).trans (HBW.out.mono (by simp))
      have b2 : Below w.heap.size w (w7.drewN q8) := b1.trans (show Below w.heap.size W (w7.drewN q8) from ⟨HB7.out.os, HB7.out.tape, HB7.out.output, HB7.out.size, fun k hk => HB7.out.block k (Nat.lt_of_lt_of_le hk b1.size)⟩)
      exact (b2.setCell (p := ⟨w.heap.size, 0, none⟩) (Nat.le_refl _) _).trans (belowK_b (w := w) (Nat.le_refl _) _ D _ _ (by omega) hKD rfl rfl)
  · rw [show sectors f t = 0 by unfold sectors; rw [if_neg h1]]
    gi_wp2
    refine ⟨trivial, ?_⟩
    gi_at_call 28
    refine (runs_in _ _ _).mono ?_
    rintro e5 w5 ⟨rfl, rfl⟩
    gi_wp2
    have hbn := heap_alloc_new w4 (.cells #[.pointer none] 33)
    refine range_nil w4.heap.size rfl (by simp) hbn (fun _ => rfl) ?_
    intro D W hD hBW hK
    have HBW := hide (((HB4.out.mono (Nat.le_refl _)).alloc HB4.out.size (.cells #[.pointer none] 33)).trans (hBW.mono (by have := HB4.out.size; simp at this ⊢; omega)))
    have HK := hide hK
    clear hBW hK hbn
    have RW := hide (show W.heap[w.heap.size]? = some (.cells #[.bool false] 4 (0, 0)) from (HBW.out.block _ (by simp)).trans (heap_alloc_new w _))
    gi_wp2_with (refine ⟨trivial, ?_⟩; first
      | (gi_at_call 27; refine (callsIn_wide.2 (claim_nil _ _)).mono ?_; rintro e6 w6 ⟨rfl, rfl⟩)
      | (gi_at_call 33; refine (callsIn_wide.2 (give_nil _ _)).mono ?_; rintro e6 w6 ⟨rfl, rfl⟩)
      | (gi_at_call 32; refine (callsIn_wide.2 (free_nil _)).mono ?_; rintro e7 w7 ⟨rfl, hb7⟩; have HB7 := hide hb7; have r7 := (hb7.block _ (lt_of_heap RW.out)).trans RW.out; have c7 := one_cell r7; have f7 := frozen_of_row _ _ 0 _ _ r7; have HK7 := hide ((hb7.block _ (lt_of_heap HK.out)).trans HK.out); have R7 := hide r7; clear hb7 r7)
      | (gi_at_call 30; refine (callsIn_wide.2 (is_nil _ _)).mono ?_; rintro e8 w8 ⟨rfl, q8, rfl⟩)
      | (gi_at_call 31; refine (callsIn_wide.2 (copy_nil _)).mono ?_; rintro e9 w9 ⟨rfl, rfl⟩))
    have hDW : w.heap.size < D := by have := HB4.out.size; simp at this hD; omega
    have hKD : ((w7.drewN q8).setCell ⟨w.heap.size, 0, none⟩ (.bool true)).heap[D]? = some (.deferred (some [])) := (heap_setCell_other _ _ _ _ (by show D ≠ w.heap.size; omega)).trans HK7.out
    refine ⟨by simp, .inl ⟨_, _, rfl, run_takeDeferred hKD, ?_⟩⟩
    have x7 : Boxed (w7.drewN q8) w.heap.size 4 (.bool false) := R7.out
    have q3 := ((x7.set (.bool true)).kept (grownBy_putObj' _ D (.deferred none)) (by simp; omega)).cell
    refine ⟨.bool true, by simp [results, Try.results8, q3, go_sem], rfl, ?_⟩
    have b1 : Below w.heap.size w W := ((Below.refl _ w).alloc (Nat.le_refl _) _).trans (HBW.out.mono (by simp))
    have b2 : Below w.heap.size w (w7.drewN q8) := b1.trans (show Below w.heap.size W (w7.drewN q8) from ⟨HB7.out.os, HB7.out.tape, HB7.out.output, HB7.out.size, fun k hk => HB7.out.block k (Nat.lt_of_lt_of_le hk b1.size)⟩)
    exact (b2.setCell (p := ⟨w.heap.size, 0, none⟩) (Nat.le_refl _) _).trans (belowK_b (w := w) (Nat.le_refl _) _ D _ _ (by omega) hKD rfl rfl)
  case lo => omega
  case hi =>
    rw [List.length_replicate]
    unfold sectors
    split <;> (try split) <;> omega
end Go.Proofs.Ytkkfnpbbigcpbaa.spaceNil
