/- Tables of refs of one's own: Clone. -/
import Derived.Test.YtjmbnfcjambdkaaRefsPlace
namespace Go.Proofs.Ytjmbnfcjambdkaa
open Go.RowKit
theorem info_refApp : (Try.prog.info? 75).map (fun i => (i.zero, i.size, i.bytes)) = some (some (.agg (refA ([], dig0))), 33, 48) := by kernel_rfl
theorem zero_cells : (Value.agg (refA ([], dig0))).cells.size = 33 := by kernel_rfl
theorem own_empty (w : World) (T : TypeId) : (w.alloc (.cells #[] T)).ownsRow w.heap.size T 33 (.slice (some ⟨w.heap.size, 0, none⟩) 0 0) 0 [] :=
  ⟨rfl, .inr ⟨w.heap.size, 0, #[], rfl, Nat.le_refl _, heap_alloc_new w _, Nat.le_refl _, by unfold maxLen; omega, rfl, by simp⟩⟩
@[go_sem] theorem run_table_nil (w : World) : (binOp .eql 70 (.slice none 0 0) (.slice none 0 0)).run Try.prog w = .ok (.bool true) w := by kernel_rfl
@[go_sem] theorem run_table_some (b o n c : Nat) (w : World) : (binOp .eql 70 (.slice (some ⟨b, o, none⟩) n c) (.slice none 0 0)).run Try.prog w = .ok (.bool false) w := by kernel_rfl
set_option maxRecDepth 20000 in
set_option maxHeartbeats 1000000 in
theorem clone_any (v : Value) (L : List RefT) (w : World) (hr : Reads w 33 v L.length (refCells L)) (hl : L.length ≤ 1000) :
    Calls Try.prog 88 #[v] w fun e w' => (∃ a c, e = .returned (.slice a L.length c) ∧ w'.ownsRow w.heap.size 75 33 (.slice a L.length c) L.length (refCells L)) ∧ Below w.heap.size w w' := by
  obtain ⟨i0, hi, hz0, hz1, hz2⟩ := info_parts info_refApp
  have HI := hide hi
  have Hz0 := hide hz0
  have Hz1 := hide hz1
  have Hz2 := hide hz2
  clear hi hz0 hz1 hz2
  have HR := hide hr
  rcases hr.form with ⟨rfl, hn⟩ | ⟨b, o, c, rfl⟩
  · obtain rfl : L = [] := List.eq_nil_of_length_eq_zero hn
    clear hr
    go_enter Try.func88, Try.ntmps88
    go_wp2_with fail
    go_ret
    exact ⟨⟨none, 0, rfl, World.ownsRow_nil _ _ _ _⟩, Below.refl _ _⟩
  · clear hr
    have C1 := hide (show 0 + L.length ≤ maxLen by unfold maxLen; omega)
    go_enter Try.func88, Try.ntmps88
    go_wp2_with (at_builtin; refine wpList_append_reads rfl _ _ 70 rfl w.heap.size 75 i0 (.agg (refA ([], dig0))) 33 48 Try.underlying70 HI.out Hz0.out Hz1.out Hz2.out zero_cells (by decide) _ 0 [] rfl (own_empty w _) _ L.length (refCells L) rfl (HR.out.alloc _) C1.out (by omega) (by simp) ?_; intro a' c' w3 hown3 hg3)
    go_ret
    refine ⟨⟨a', c', ?_, ?_⟩, ?_⟩
    · rfl
    · simpa using hown3
    · exact ((Below.refl _ w).alloc (Nat.le_refl _) _).grown hg3 (by simp) (fun k hk => by cases hk; exact Nat.le_refl _)
end Go.Proofs.Ytjmbnfcjambdkaa
