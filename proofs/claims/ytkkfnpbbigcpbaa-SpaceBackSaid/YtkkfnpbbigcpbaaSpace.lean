/- Package space: New, Clone of bools, place, Is. -/
import Derived.Test.YtkkfnpbbigcpbaaSpPure
import Derived.Test.YtkkfnpbbigcpbaaWireRows
namespace Go.Proofs.Ytkkfnpbbigcpbaa
open Go.RowKit

/-- A row of bools as cells. -/
def bools (l : List Bool) : List Value := l.map Value.bool
theorem bools_length (l : List Bool) : (bools l).length = l.length := by simp [bools]
theorem bools_get (l : List Bool) (k : Nat) (h : k < l.length) : (bools l)[k]? = some (.bool l[k]) := by simp [bools, List.getElem?_eq_getElem h]
theorem bools_at (l : List Bool) (k : Nat) (c : Bool) (h : l[k]? = some c) : (bools l)[k]? = some (.bool c) := by simp [bools, h]
theorem bools_one (l : List Bool) : ∀ u ∈ bools l, u.oneCell' = true := by
  intro u hu
  obtain ⟨x, _, rfl⟩ := List.mem_map.1 hu
  rfl
/-- A row's block, if it has elements, is one of bools. -/
def Typed (w : World) (v : Value) (n : Nat) : Prop := 0 < n → ∀ k, v.ownBlock = some k → ∃ cur, w.heap[k]? = some (.cells cur 4 (0, 0))
theorem Typed.below {w w' : World} {v : Value} {n : Nat} (h : Typed w v n) (hb : Below w.heap.size w w') : Typed w' v n :=
  fun h0 k hk => (h h0 k hk).imp fun _ h => (hb.block k (lt_of_heap h)).trans h
theorem Typed.owned {w : World} {v : Value} {n base : Nat} {cs : List Value} (h : w.ownsRow base 4 1 v n cs) (m : Nat) : Typed w v m := by
  intro _ k hk
  obtain ⟨_, ⟨rfl, _⟩ | ⟨g, cap, cur, rfl, _, hgb, _⟩⟩ := h
  · cases hk
  · cases hk; exact ⟨cur, hgb⟩
theorem Typed.setCell {w : World} {v : Value} {n : Nat} (h : Typed w v n) (g i : Nat) (u : Value) : Typed (w.setCell ⟨g, i, none⟩ u) v n := by
  intro h0 k hk
  obtain ⟨cur, hc⟩ := h h0 k hk
  by_cases hkg : k = g
  · subst hkg; exact ⟨_, heap_set_row hc u⟩
  · exact ⟨cur, (heap_setCell_other _ _ _ _ (by simpa using hkg)).trans hc⟩
/-- Block b is a space that begins at 'from', these of its sectors being free. -/
def IsSp (w : World) (b : Nat) (from' : Int) (fs : List Bool) : Prop :=
  ∃ v, w.heap[b]? = some (.cells #[.int .i64 from', v] 104 (0, 0)) ∧ Reads w 1 v fs.length (bools fs) ∧ fs.length ≤ 4096 ∧ Typed w v fs.length
theorem IsSp.lt {w : World} {b : Nat} {f : Int} {fs : List Bool} (h : IsSp w b f fs) : b < w.heap.size := by
  obtain ⟨v, h, _⟩ := h; exact lt_of_heap h
theorem IsSp.below {w w' : World} {b : Nat} {f : Int} {fs : List Bool} (h : IsSp w b f fs) (hb : Below w.heap.size w w') : IsSp w' b f fs := by
  have hl := h.lt
  obtain ⟨v, h1, h2, h3⟩ := h
  exact ⟨v, (hb.block _ hl).trans h1, h2.below hb, h3.1, h3.2.below hb⟩
theorem info_bool : (Try.prog.info? 4).map (fun i => (i.zero, i.size, i.bytes)) = some (some (.bool false), 1, 1) := by kernel_rfl
set_option maxHeartbeats 400000 in
set_option maxRecDepth 20000 in
theorem clone_bool (v : Value) (xs : List Bool) (w : World) (hr : Reads w 1 v xs.length (bools xs)) (hx : xs.length ≤ 100000) :
    Calls Try.prog 86 #[v] w fun e w' => (∃ a c, e = .returned (.slice a xs.length c) ∧ w'.ownsRow w.heap.size 4 1 (.slice a xs.length c) xs.length (bools xs)) ∧ Below w.heap.size w w' := by
  obtain ⟨i0, hi, hz0, hz1, hz2⟩ := info_parts info_bool
  have hR := hide hr
  have HI := hide hi
  have Hz0 := hide hz0
  have Hz1 := hide hz1
  have Hz2 := hide hz2
  clear hi hz0 hz1 hz2
  rcases hr.form with ⟨rfl, hn⟩ | ⟨b, o, c, rfl⟩
  · have hn0 : xs = [] := List.eq_nil_of_length_eq_zero hn
    subst hn0
    clear hn hR hr
    have hnil := fun w' => Lib.run_eql_slice_nil (P := Try.prog) w' 94 4 none 0 0 0 0 Try.underlying94
    go_enter Try.func86, Try.ntmps86
    go_wp2_with fail
    go_ret
    exact ⟨⟨none, 0, rfl, World.ownsRow_nil _ _ _ _⟩, Below.refl _ _⟩
  · have hnil := fun w' => Lib.run_eql_slice_nil (P := Try.prog) w' 94 4 (some ⟨b, o, none⟩) xs.length c 0 0 Try.underlying94
    clear hr
    have C1 := hide (show 0 + xs.length ≤ maxLen by rw [Nat.zero_add]; exact hR.out.2.2.1)
    have C2 := hide (show (0 + xs.length) * 1 ≤ 140737488355328 by omega)
    go_enter Try.func86, Try.ntmps86
    go_wp2_with (at_builtin; refine wpList_append_reads rfl _ _ 94 rfl w.heap.size 4 i0 (.bool false) 1 1 Try.underlying94 HI.out Hz0.out Hz1.out Hz2.out rfl (by decide) _ 0 [] rfl (ownsRow_made w 4 1) _ xs.length (bools xs) rfl (hR.out.alloc _) C1.out C2.out (by simp) ?_; intro a' c' w' hown hg)
    go_ret
    have hown' : w'.ownsRow w.heap.size 4 1 (.slice a' xs.length c') xs.length (bools xs) := by simpa using hown
    exact ⟨⟨a', c', rfl, hown'⟩, ((Below.refl _ w).alloc (Nat.le_refl _) _).grown hg (by simp) (fun k hk => by cases hk; exact Nat.le_refl _)⟩
/-- The place of a sector. -/
def placeAt (f : Int) (n : Nat) (at' : Int) : Bool := decide (f ≤ at' ∧ at' - f < n)
set_option maxHeartbeats 1000000 in
set_option maxRecDepth 20000 in
theorem place_yes (b : Nat) (f : Int) (fs : List Bool) (at' : Int) (w : World) (h : IsSp w b f fs) (hf : -10000000 ≤ f) (hf2 : f ≤ 10000000) (h1 : f ≤ at') (h2 : at' - f < fs.length) :
    Calls Try.prog 85 #[.pointer (some ⟨b, 0, none⟩), .int .i64 at'] w fun e w' => e = .returned (.tuple #[.int .i64 (at' - f), .bool true]) ∧ ∃ q, w' = w.drewN q := by
  obtain ⟨v, hh, hr, hl⟩ := h
  obtain ⟨a0, c0, rfl⟩ := hr.shape
  have hc0 : w.cell? ⟨b, 0, none⟩ = some (.int .i64 f) := by rw [cell_of_row w b 0 _ _ _ hh]; rfl
  have hc1 : w.cell? ⟨b, 1, none⟩ = some (.slice a0 fs.length c0) := by rw [cell_of_row w b 1 _ _ _ hh]; rfl
  clear hh hr
  have d1 : ¬ at' < f := by omega
  have e1 : decide (at' < f) = false := by simpa using d1
  have hw : IntKind.u64.wrap (IntKind.u64.wrap at' - IntKind.u64.wrap f) = at' - f := by
    rw [IntKind.wrap_u64, IntKind.wrap_u64, IntKind.wrap_u64]; omega
  have e2 : decide ((fs.length : Int) ≤ at' - f) = false := by simp; omega
  go_enter Try.func85, Try.ntmps85
  go_wp2_with fail
  go_quiet (fail)
  clear hw e2
  go_wp2_with fail
  go_ret2
  exact ⟨rfl, _, rfl⟩
set_option maxHeartbeats 1000000 in
set_option maxRecDepth 20000 in
theorem place_no (b : Nat) (f : Int) (fs : List Bool) (at' : Int) (w : World) (h : IsSp w b f fs) (hf : -10000000 ≤ f) (hf2 : f ≤ 10000000) (ha : -9223372036854775808 ≤ at') (ha2 : at' ≤ 9223372036854775807) (hn : at' < f ∨ fs.length ≤ at' - f) :
    Calls Try.prog 85 #[.pointer (some ⟨b, 0, none⟩), .int .i64 at'] w fun e w' => e = .returned (.tuple #[.int .i64 0, .bool false]) ∧ ∃ q, w' = w.drewN q := by
  obtain ⟨v, hh, hr, hl⟩ := h
  obtain ⟨a0, c0, rfl⟩ := hr.shape
  have hc0 : w.cell? ⟨b, 0, none⟩ = some (.int .i64 f) := by rw [cell_of_row w b 0 _ _ _ hh]; rfl
  have hc1 : w.cell? ⟨b, 1, none⟩ = some (.slice a0 fs.length c0) := by rw [cell_of_row w b 1 _ _ _ hh]; rfl
  clear hh hr
  by_cases d1 : at' < f
  · have e1 : decide (at' < f) = true := by simpa using d1
    go_enter Try.func85, Try.ntmps85
    go_wp2_with fail
    go_quiet (fail)
    go_wp2_with fail
    go_ret2
    exact ⟨rfl, _, rfl⟩
  · have e1 : decide (at' < f) = false := by simpa using d1
    have hw : IntKind.u64.wrap (IntKind.u64.wrap at' - IntKind.u64.wrap f) = at' - f := by
      rw [IntKind.wrap_u64, IntKind.wrap_u64, IntKind.wrap_u64]; omega
    have e2 : decide ((fs.length : Int) ≤ at' - f) = true := by simp; omega
    clear hn
    go_enter Try.func85, Try.ntmps85
    go_wp2_with fail
    go_quiet (fail)
    clear hw e2
    go_wp2_with fail
    go_ret2
    exact ⟨rfl, _, rfl⟩
theorem place_nil (at' : Int) (w : World) : Calls Try.prog 85 #[.pointer none, .int .i64 at'] w fun e w' => e = .returned (.tuple #[.int .i64 0, .bool false]) ∧ ∃ q, w' = w.drewN q := by
  go_enter Try.func85, Try.ntmps85
  go_wp2_with fail
  go_quiet (fail)
  go_wp2_with fail
  go_ret2
  exact ⟨rfl, _, rfl⟩
end Go.Proofs.Ytkkfnpbbigcpbaa
