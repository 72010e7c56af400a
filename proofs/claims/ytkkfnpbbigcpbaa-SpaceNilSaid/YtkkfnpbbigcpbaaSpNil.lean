/- A space that is none: Runs, Free, Take. -/
import Derived.Test.YtkkfnpbbigcpbaaSpFree
namespace Go.Proofs.Ytkkfnpbbigcpbaa
open Go.RowKit Go.Shelf
attribute [local go_sem] Oper.semAt_some

set_option maxRecDepth 100000 in
set_option maxHeartbeats 1000000 in
theorem runs1_nil (n : Nat) (l Bn : Nat) (W : World) (hbox : W.heap[Bn]? = some (.cells #[.pointer none] 33 (0, 0))) :
    CallsIn Fence.wide n Try.prog 84 #[.func (.yield l) #[] #[], .pointer (some ⟨Bn, 0, none⟩)] W fun e W' => (∃ v, e = .returned v) ∧ W = W' := by
  have hcB := one_cell hbox
  refine callsIn_of_wp Try.func84 rfl trivial ?_ rfl
  simp only [Try.ntmps84, List.size_toArray, List.length_cons, List.length_nil, Nat.reduceAdd, Nat.reduceSub, Array.replicate_succ, Array.replicate_zero, List.push_toArray, List.append_toArray, List.nil_append, List.cons_append]
  gi_wp2
  refine bodyPost_ret (results_none rfl _ _ _) rfl ?_
  exact ⟨⟨_, rfl⟩, rfl⟩
theorem runs_stops_nil (n : Nat) (Bn : Nat) (Kp : World → World → Prop) (w : World) (hB : Bn < w.heap.size) (hbox : w.heap[Bn]? = some (.cells #[.pointer none] 33 (0, 0))) :
    SeqStopsK Fence.wide n Try.prog 84 #[.pointer (some ⟨Bn, 0, none⟩)] (encRun 0 []) Kp (fun ys => ys = []) (fun pre => pre = []) 0 w :=
  fun l J Jx W hW _ _ _ h0 => (runs1_nil n l Bn W ((hW.block Bn hB).trans hbox)).mono fun e W' ⟨h1, h2⟩ => ⟨h1, .inl ⟨[], rfl, h2 ▸ h0⟩⟩
set_option maxRecDepth 100000 in
set_option maxHeartbeats 4000000 in
theorem free_nil (w : World) :
    Calls Try.prog 32 #[.pointer none] w fun e w' => e = .returned (.int .i64 0) ∧ Below w.heap.size w w' := by
  refine (callsIn_wide (n := 3)).1 ?_
  refine callsIn_of_wp_marks Try.func32 rfl trivial ?_ rfl
  simp only [Try.ntmps32, List.size_toArray, List.length_cons, List.length_nil, Nat.reduceAdd, Nat.reduceSub, Array.replicate_succ, Array.replicate_zero, List.push_toArray, List.append_toArray, List.nil_append, List.cons_append]
  gi_wp2_with (refine ⟨trivial, ?_⟩; gi_at_call 28; refine (runs_in _ _ _).mono ?_; rintro e w' ⟨rfl, rfl⟩)
  have bS := (Boxed.new w 3 (.int .i64 0)).alloc (.cells #[.pointer none] 33)
  have bA := Boxed.new (w.alloc (.cells #[.int .i64 0] 3)) 33 (.pointer none)
  simp only [World.size_alloc] at bA
  have hB0 : Below w.heap.size w ((w.alloc (.cells #[.int .i64 0] 3)).alloc (.cells #[.pointer none] 33)) := ((Below.refl _ w).alloc (Nat.le_refl _) _).alloc (by simp) _
  have hsz : ((w.alloc (.cells #[.int .i64 0] 3)).alloc (.cells #[.pointer none] 33)).heap.size = w.heap.size + 2 := by simp
  obtain ⟨W0, hW0⟩ : ∃ W0, (w.alloc (.cells #[.int .i64 0] 3)).alloc (.cells #[.pointer none] 33) = W0 := ⟨_, rfl⟩
  rw [hW0] at bS bA hB0 hsz ⊢
  clear hW0
  refine wpIn_rangeFunc_ownH rfl (by omega) (gf := 84) (lb := #[.pointer (some ⟨w.heap.size + 1, 0, none⟩)]) rfl trivial (enters_of Try.func84 (by kernel_rfl) rfl)
    (runs_stops_nil (3 - 1) (w.heap.size + 1) (Keep (w.heap.size + 2) (fun _ => False)) W0 (by omega) bA)
    (fun h1 h2 => h1.trans h2) (Keep.put (by omega)) (Below.refl _ _) (fun _ => rfl)
    (fun pre W => (pre = [] → Boxed W w.heap.size 3 (.int .i64 0)) ∧ Below w.heap.size w W)
    (fun _ _ _ => False)
    (fun s A C row hs hg hr => ⟨fun h => row_own _ _ _ rfl () A C row (hs.1 h) hg hr, hs.2.grown hg hs.2.size (fun k hk => by have := (hr k hk).1; omega)⟩)
    (fun _ _ _ _ _ hs _ _ => hs)
    ⟨fun _ => bS, hB0⟩
    (fun _ _ _ => False) (fun _ _ _ _ _ _ hs _ _ => hs)
    ?assign ?body ?done ?stop
  case assign =>
    rintro l pre x W K _ _
    exact absurd x.2 (by simp [runsAt, runsFrom])
  case body =>
    rintro l pre x a' W _ _ _ h _
    exact h.elim
  case done =>
    rintro D ys W hD rfl ⟨bS1, hB1⟩ hK
    have cS := (bS1 rfl).cell
    gi_wp2
    refine ⟨by simp, .inl ⟨_, _, rfl, run_takeDeferred hK, ?_⟩⟩
    exact ⟨_, results_tmp rfl _ _ _, rfl, hB1.trans (belowK_b (w := w) (Nat.le_refl _) W D _ _ (by omega) hK rfl rfl)⟩
  case stop =>
    rintro D c pre W _ _ h _
    exact h.elim
theorem take_nil (k : Int) (w : World) :
    Calls Try.prog 29 #[.pointer none, .int .i64 k] w fun e w' => e = .returned (.tuple #[.int .i64 0, .int .i64 1]) ∧ Below w.heap.size w w' := by
  go_enter Try.func29, Try.ntmps29
  go_wp2_with fail
  refine bodyPost_ret (v := .tuple #[.int .i64 0, .int .i64 1]) (by simp [results, Try.results29, go_sem]) rfl ⟨rfl, ?_⟩
  exact ((((Below.refl _ w).alloc (Nat.le_refl _) _).alloc (by simp) _).alloc (by simp; omega) _).alloc (by simp; omega) _
end Go.Proofs.Ytkkfnpbbigcpbaa
