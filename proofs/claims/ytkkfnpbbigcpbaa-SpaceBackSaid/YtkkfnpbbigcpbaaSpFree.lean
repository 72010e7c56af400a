/- space.Free: how many are free. -/
import Derived.Test.YtkkfnpbbigcpbaaSpRuns
namespace Go.Proofs.Ytkkfnpbbigcpbaa
open Go.RowKit Go.Shelf
attribute [local go_sem] Oper.semAt_some

theorem runs_in (n : Nat) (p : Option Addr) (w : World) :
    CallsIn Fence.wide n Try.prog 28 #[.pointer p] w fun e w' => e = .returned (.func (.func 84) #[] #[.pointer (some ⟨w.heap.size, 0, none⟩)]) ∧ w' = w.alloc (.cells #[.pointer p] 33) := by
  refine callsIn_of_wp Try.func28 rfl trivial ?_ rfl
  simp only [Try.ntmps28, List.size_toArray, List.length_cons, List.length_nil, Nat.reduceAdd, Nat.reduceSub, Array.replicate_succ, Array.replicate_zero, List.push_toArray, List.append_toArray, List.nil_append, List.cons_append]
  gi_wp2
  go_ret
  exact ⟨rfl, rfl⟩
theorem runs_stops (n : Nat) (hn : 1 ≤ n) (Bn n₀ : Nat) (X : Nat → Prop) (b : Nat) (f : Int) (fs : List Bool) (hf : -9223372036854775808 ≤ f) (hf2 : f + fs.length ≤ 9223372036854775807)
    (w0 : World) (hS : IsSp w0 b f fs) (hX : ∀ k, X k → w0.heap.size ≤ k) (h0n : w0.heap.size ≤ n₀) (hBn : Bn < n₀) (hXB : ¬ X Bn)
    (w : World) (hn0 : n₀ ≤ w.heap.size) (hw0 : ∀ k, k < w0.heap.size → w.heap[k]? = w0.heap[k]?) (hbox : w.heap[Bn]? = some (.cells #[.pointer (some ⟨b, 0, none⟩)] 33 (0, 0))) :
    SeqStopsK Fence.wide n Try.prog 84 #[.pointer (some ⟨Bn, 0, none⟩)] (encRun f fs) (Keep n₀ X) (fun ys => ys = allRuns fs) (fun pre => pre <+: allRuns fs) (fs.length + 1) w :=
  fun l J Jx W hW _ _ hY h0 => runs1_in n hn l Bn n₀ X b f fs J Jx hf hf2 hY w0 hS hX h0n hBn hXB W (fun k hk => (hW.block k (by omega)).trans (hw0 k hk)) ((hW.block Bn (by omega)).trans hbox) h0
/-- A row of cells stands whatever else turns. -/
theorem row_own (B Bx : Nat) (o : Obj) (ho : o.isCells = true) : ∀ (s : Unit) (A C : World) (row : Option Nat), A.heap[Bx]? = some o → A.grownBy C row → (∀ r, row = some r → B ≤ r ∧ ∃ o' : Obj, A.heap[r]? = some o' ∧ o'.isCells = false) → C.heap[Bx]? = some o := by
  intro _ A C row h hg hr
  refine (hg.block Bx (lt_of_heap h) ?_).trans h
  intro e
  obtain ⟨_, o', h1, h2⟩ := hr Bx e.symm
  rw [h] at h1
  cases h1
  rw [ho] at h2
  cases h2
def lenSum (fs : List Bool) (pre : List (RunOf fs)) : Nat := (pre.map fun x => x.1.2).sum
theorem lenSum_snoc {fs : List Bool} (pre : List (RunOf fs)) (x : RunOf fs) : lenSum fs (pre ++ [x]) = lenSum fs pre + x.1.2 := by simp [lenSum]
theorem lenSum_le {fs : List Bool} (pre : List (RunOf fs)) : lenSum fs pre ≤ fs.length * pre.length := by
  induction pre with
  | nil => simp [lenSum]
  | cons x l ih =>
    have h1 := runs_isRun fs x.1 x.2
    have h2 : x.1.2 ≤ fs.length := by have := h1.2.1; omega
    have h3 : lenSum fs (x :: l) = x.1.2 + lenSum fs l := by simp [lenSum]
    rw [h3, List.length_cons, Nat.mul_succ]; omega
theorem lenSum_all (fs : List Bool) : lenSum fs (allRuns fs) = fs.count true := by
  have : lenSum fs (allRuns fs) = (((allRuns fs).map Subtype.val).map (·.2)).sum := by rw [List.map_map]; rfl
  rw [this, allRuns_map, runs_sum]
set_option maxRecDepth 100000 in
set_option maxHeartbeats 4000000 in
theorem free_any (b : Nat) (f : Int) (fs : List Bool) (w : World) (h : IsSp w b f fs) (hf : -9223372036854775808 ≤ f) (hf2 : f + fs.length ≤ 9223372036854775807) :
    Calls Try.prog 32 #[.pointer (some ⟨b, 0, none⟩)] w fun e w' => e = .returned (.int .i64 ((fs.count true : Nat) : Int)) ∧ Below w.heap.size w w' := by
  refine (callsIn_wide (n := 3)).1 ?_
  have hl4 : fs.length ≤ 4096 := by obtain ⟨_, _, _, h⟩ := h; exact h.1
  refine callsIn_of_wp_marks Try.func32 rfl trivial ?_ rfl
  simp only [Try.ntmps32, List.size_toArray, List.length_cons, List.length_nil, Nat.reduceAdd, Nat.reduceSub, Array.replicate_succ, Array.replicate_zero, List.push_toArray, List.append_toArray, List.nil_append, List.cons_append]
  gi_wp2_with (refine ⟨trivial, ?_⟩; gi_at_call 28; refine (runs_in _ _ _).mono ?_; rintro e w' ⟨rfl, rfl⟩)
  have bS := (Boxed.new w 3 (.int .i64 0)).alloc (.cells #[.pointer (some ⟨b, 0, none⟩)] 33)
  have bA := Boxed.new (w.alloc (.cells #[.int .i64 0] 3)) 33 (.pointer (some ⟨b, 0, none⟩))
  simp only [World.size_alloc] at bA
  have hB0 : Below w.heap.size w ((w.alloc (.cells #[.int .i64 0] 3)).alloc (.cells #[.pointer (some ⟨b, 0, none⟩)] 33)) := ((Below.refl _ w).alloc (Nat.le_refl _) _).alloc (by simp) _
  have hsz : ((w.alloc (.cells #[.int .i64 0] 3)).alloc (.cells #[.pointer (some ⟨b, 0, none⟩)] 33)).heap.size = w.heap.size + 2 := by simp
  obtain ⟨W0, hW0⟩ : ∃ W0, (w.alloc (.cells #[.int .i64 0] 3)).alloc (.cells #[.pointer (some ⟨b, 0, none⟩)] 33) = W0 := ⟨_, rfl⟩
  rw [hW0] at bS bA hB0 hsz ⊢
  clear hW0
  refine wpIn_rangeFunc_ownH rfl (by omega) (gf := 84) (lb := #[.pointer (some ⟨w.heap.size + 1, 0, none⟩)]) rfl trivial (enters_of Try.func84 (by kernel_rfl) rfl)
    (runs_stops (3 - 1) (by omega) (w.heap.size + 1) (w.heap.size + 2) (fun k => k = w.heap.size) b f fs hf hf2 w h (fun k hk => by omega) (by omega) (by omega) (by omega) W0 (by omega) (fun k hk => hB0.block k hk) bA)
    (fun h1 h2 => h1.trans h2) (Keep.put (by omega)) (Below.refl _ _) (fun _ => rfl)
    (fun pre W => Boxed W w.heap.size 3 (.int .i64 (lenSum fs pre : Int)) ∧ Below w.heap.size w W ∧ w.heap.size + 2 ≤ W.heap.size)
    (fun _ _ _ => False)
    (OwnFrom.and (Own.from (boxed_own _ _ _) _) (OwnFrom.and (ownFrom_below (Nat.le_refl _) (by omega)) (fun _ _ _ _ hs hg _ => Nat.le_trans hs hg.size)))
    (fun _ _ _ _ _ hs _ _ => hs)
    ⟨bS, hB0, by omega⟩
    (fun x a' W => ∃ Bx, w.heap.size + 1 < Bx ∧ W.heap[Bx]? = some (.cells #[.int .i64 (f + (x.1.1 : Int)), .int .i64 (x.1.2 : Int)] 36 (0, 0)) ∧ a' = { tmps := #[.pointer (some ⟨b, 0, none⟩), undef, .int .i64 0, .pointer (some ⟨w.heap.size, 0, none⟩), .pointer (some ⟨Bx, 0, none⟩), .pointer (some ⟨b, 0, none⟩), .func (.func 84) #[] #[.pointer (some ⟨w.heap.size + 1, 0, none⟩)], .agg #[.int .i64 (f + (x.1.1 : Int)), .int .i64 (x.1.2 : Int)], undef, undef, undef, undef, undef], defers := [] })
    (fun x a' _ X Y row hs hg hr => by obtain ⟨Bx, h1, h2, h3⟩ := hs; exact ⟨Bx, h1, row_own _ Bx _ rfl () X Y row h2 hg hr, h3⟩)
    ?assign ?body ?done ?stop
  case assign =>
    rintro l pre x W K ⟨bS1, hB1, hz1⟩ hK
    unfold encRun
    gi_wp2
    refine hK _ _ ((KeepsOthers.alloc _ _).from _) (fun k hk _ => Below.heap_alloc _ _ _ (by omega)) ⟨bS1.alloc _, hB1.alloc hB1.size _, by simp; omega⟩ ⟨W.heap.size, by omega, heap_alloc_new _ _, rfl⟩
  case body =>
    rintro l pre x a' W hl ⟨r, hr⟩ ⟨bS1, hB1, hz1⟩ ⟨Bx, hBx, bX, rfl⟩ hlt
    have cS := bS1.cell
    have fS := bS1.frozen
    have cX : W.cell? ⟨Bx, 1, none⟩ = some (.int .i64 (x.1.2 : Int)) := by rw [cell_of_row W Bx 1 _ _ _ bX]; rfl
    have hx1 : x.1.2 ≤ 4096 := by have := (runs_isRun fs x.1 x.2).2.1; omega
    have hs1 : lenSum fs pre ≤ 20000000 := by
      have h1 := lenSum_le pre
      have h2 : fs.length * pre.length ≤ 4096 * 4096 := Nat.mul_le_mul hl4 (by omega)
      omega
    have HSN := hide (lenSum_snoc pre x)
    gi_wp2
    refine ⟨(KeepsOthers.setCell _ _ _).from _, fun k hk hne => heap_setCell_other _ _ _ _ (by simpa using hne), ?_, hB1.setCell (p := ⟨w.heap.size, 0, none⟩) (Nat.le_refl _) _, by simpa using hz1⟩
    have h9 := bS1.set (.int .i64 ((lenSum fs pre : Int) + (x.1.2 : Int)))
    rw [HSN.out]
    simpa using h9
  case done =>
    rintro D ys W hD rfl ⟨bS1, hB1, hz1⟩ hK
    have cS := bS1.cell
    rw [lenSum_all] at cS
    gi_wp2
    refine ⟨by simp, .inl ⟨_, _, rfl, run_takeDeferred hK, ?_⟩⟩
    exact ⟨_, results_tmp rfl _ _ _, rfl, hB1.trans (belowK_b (w := w) (Nat.le_refl _) W D _ _ (by omega) hK rfl rfl)⟩
  case stop =>
    rintro D c pre W _ _ h _
    exact h.elim
end Go.Proofs.Ytkkfnpbbigcpbaa
