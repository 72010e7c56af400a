/- slices.Index, Min, Clone at rows of uint32: what each computes. -/
import Derived.Test.YtkkfnpbbigcpbaaSl
import Derived.BigQuiet
import Derived.Deep.DeepCutAuto
import Derived.Deep.CutBlock
import Derived.Deep.QuietTactic
namespace Go.Proofs.Ytkkfnpbbigcpbaa
open Go.RowKit

/-- A row of uint32 as cells. -/
def nums (xs : List Int) : List Value := xs.map (Value.int .u32)
theorem nums_length (xs : List Int) : (nums xs).length = xs.length := by simp [nums]
theorem nums_get (xs : List Int) (k : Nat) (h : k < xs.length) : (nums xs)[k]? = some (.int .u32 xs[k]) := by simp [nums, List.getElem?_eq_getElem h]
theorem nums_one (xs : List Int) : ∀ u ∈ nums xs, u.oneCell' = true := by
  intro u hu
  obtain ⟨x, _, rfl⟩ := List.mem_map.1 hu
  rfl
theorem nums_append (a b : List Int) : nums (a ++ b) = nums a ++ nums b := by simp [nums]
/-- The first place of a number; -1. -/
def idx (xs : List Int) (d : Int) : Int := match xs.findIdx? (fun x => d == x) with | some i => (i : Int) | none => -1
theorem idx_at {xs : List Int} {d : Int} {k : Nat} (hk : k < xs.length) (he : (d == xs[k]) = true) (hb : ∀ j (h : j < k), (d == xs[j]) = false) : idx xs d = k := by
  have : xs.findIdx? (fun x => d == x) = some k := List.findIdx?_eq_some_iff_getElem.2 ⟨hk, he, fun j hj => by rw [hb j hj]; simp⟩
  simp [idx, this]
theorem idx_none {xs : List Int} {d : Int} (hb : ∀ j (h : j < xs.length), (d == xs[j]) = false) : idx xs d = -1 := by
  have : xs.findIdx? (fun x => d == x) = none := List.findIdx?_eq_none_iff.2 fun x hx => by
    obtain ⟨j, hj, rfl⟩ := List.mem_iff_getElem.1 hx
    exact hb j hj
  simp [idx, this]

set_option maxHeartbeats 400000 in
theorem index_u32 (v : Value) (xs : List Int) (d : Int) (w : World) (hr : Reads w 1 v xs.length (nums xs)) :
    Calls Try.prog 88 #[v, .int .u32 d] w fun e w' => e = .returned (.int .i64 (idx xs d)) ∧ w = w' := by
  obtain ⟨_, _, hm, h4⟩ := hr
  unfold maxLen at hm
  rcases h4 with ⟨rfl, hn⟩ | ⟨b, o, c, rfl, _, _, hc⟩
  · rw [idx_none (xs := xs) (d := d) (fun j h => by omega)]
    clear hn hm
    go_enter Try.func88, Try.ntmps88
    go_wp2_with fail
    go_loop [8] (fun i => i = .int .i64 0) (fun i => 0 - (intOf i).toNat)
    case atStart => rfl
    case round =>
      subst hrel
      go_wp2_with fail
      go_ret
      exact ⟨rfl, rfl⟩
  · have HC := hide hc
    clear hc
    go_enter Try.func88, Try.ntmps88
    go_wp2_with fail
    go_loop [8, 5] (fun i _ => ∃ k : Nat, k ≤ xs.length ∧ i = .int .i64 k ∧ ∀ j (_ : j < xs.length), j < k → (d == xs[j]) = false) (fun i _ => xs.length - (intOf i).toNat)
    case atStart => exact ⟨0, by omega, rfl, fun j _ h => by omega⟩
    case round =>
      obtain ⟨k, hk, rfl, hb⟩ := hrel
      have HB := hide hb
      clear hb
      by_cases hlt : k < xs.length
      · have hcell := HC.out k _ (nums_get xs k hlt)
        cases he : (d == xs[k])
        · go_wp2_with fail
          go_round
          case rel => exact ⟨k + 1, by omega, by go_num, fun j hj hjk => by
            by_cases hjk' : j < k
            · exact HB.out j hj hjk'
            · obtain rfl : j = k := by omega
              exact he⟩
          case measure => simp [intOf]; omega
        · go_wp2_with fail
          go_ret
          exact ⟨ret_int (idx_at hlt he (fun j h => HB.out j (by omega) h)).symm, rfl⟩
      · go_wp2_with fail
        go_ret
        exact ⟨ret_int (idx_none (fun j h => HB.out j h (by omega))).symm, rfl⟩

/-- The least number of a row that has one. -/
def minOf (xs : List Int) : Int := match xs with | [] => 0 | x :: l => l.foldl min x
theorem minOf_one (xs : List Int) (h : 0 < xs.length) : minOf (xs.take 1) = xs[0] := by
  match xs, h with
  | x :: l, _ => rfl
theorem minOf_snoc (xs : List Int) (k : Nat) (h0 : 1 ≤ k) (h : k < xs.length) : minOf (xs.take (k + 1)) = min (minOf (xs.take k)) xs[k] := by
  match xs, h with
  | x :: l, h =>
    obtain ⟨m, rfl⟩ : ∃ m, k = m + 1 := ⟨k - 1, by omega⟩
    have hm : m < l.length := by simpa using h
    simp only [List.take_succ_cons, minOf, List.getElem_cons_succ]
    rw [List.take_succ_eq_append_getElem hm, List.foldl_append]
    rfl

set_option maxHeartbeats 400000 in
theorem min_u32 (v : Value) (xs : List Int) (w : World) (hr : Reads w 1 v xs.length (nums xs)) (hp : 0 < xs.length) :
    Calls Try.prog 89 #[v] w fun e w' => e = .returned (.int .u32 (minOf xs)) ∧ w = w' := by
  obtain ⟨_, _, hm, h4⟩ := hr
  unfold maxLen at hm
  rcases h4 with ⟨rfl, hn⟩ | ⟨b, o, c, rfl, _, _, hc⟩
  · omega
  · have HC := hide hc
    clear hc
    have h0 : w.cell? ⟨b, o, none⟩ = some (.int .u32 xs[0]) := by simpa using HC.out 0 _ (nums_get xs 0 hp)
    have H1 := hide (minOf_one xs hp)
    go_enter Try.func89, Try.ntmps89
    go_wp2_with fail
    go_loop [4, 3] (fun i m => ∃ k : Nat, 1 ≤ k ∧ k ≤ xs.length ∧ i = .int .i64 k ∧ m = .int .u32 (minOf (xs.take k))) (fun i _ => xs.length - (intOf i).toNat)
    case atStart => exact ⟨1, by omega, by omega, rfl, by rw [H1.out]⟩
    case round =>
      obtain ⟨k, hk1, hk, rfl, rfl⟩ := hrel
      by_cases hlt : k < xs.length
      · have hcell := HC.out k _ (nums_get xs k hlt)
        have HS := hide (minOf_snoc xs k hk1 hlt)
        go_wp2_with fail
        go_round
        case rel => exact ⟨k + 1, by omega, by omega, by go_num, by rw [HS.out, Int.min_def]; congr 1; split <;> split <;> omega⟩
        case measure => simp [intOf]; omega
      · go_wp2_with fail
        go_ret
        exact ⟨ret_int (by rw [List.take_of_length_le (by omega)]), rfl⟩

theorem info28 : (Try.prog.info? 28).map (fun i => (i.zero, i.size, i.bytes)) = some (some (.int .u32 0), 1, 4) := by kernel_rfl
theorem ownsRow_made (w : World) (e : TypeId) (size : Nat) : (w.alloc (.cells #[] e)).ownsRow w.heap.size e size (.slice (some ⟨w.heap.size, 0, none⟩) 0 0) 0 [] :=
  ⟨by simp, .inr ⟨_, 0, #[], rfl, Nat.le_refl _, heap_alloc_new w _, Nat.le_refl _, by simp, by simp, by simp⟩⟩
/-- What lies below is as it was behind an append onto a row of the call's own. -/
theorem below_append {B : Nat} {w0 w w' : World} {v : Value} (h : Below B w0 w) (hg : w.grownBy w' v.ownBlock) (hB : B ≤ w.heap.size) (hv : ∀ k, v.ownBlock = some k → B ≤ k) : Below B w0 w' := h.grown hg hB hv

set_option maxHeartbeats 400000 in
set_option maxRecDepth 20000 in
theorem clone_u32 (v : Value) (xs : List Int) (w : World) (hr : Reads w 1 v xs.length (nums xs)) (hx : xs.length * 4 ≤ 140737488355328) :
    Calls Try.prog 94 #[v] w fun e w' => (∃ a c, e = .returned (.slice a xs.length c) ∧ w'.ownsRow w.heap.size 28 1 (.slice a xs.length c) xs.length (nums xs)) ∧ Below w.heap.size w w' := by
  obtain ⟨i0, hi, hz0, hz1, hz2⟩ := info_parts info28
  have hR := hide hr
  obtain ⟨_, _, hm, h4⟩ := hr
  unfold maxLen at hm
  have HI := hide hi
  have Hz0 := hide hz0
  have Hz1 := hide hz1
  have Hz2 := hide hz2
  clear hi hz0 hz1 hz2
  rcases h4 with ⟨rfl, hn⟩ | ⟨b, o, c, rfl, _, _, hc⟩
  · have hn0 : xs = [] := List.eq_nil_of_length_eq_zero hn
    subst hn0
    clear hn hR
    have hnil := fun w' => Lib.run_eql_slice_nil (P := Try.prog) w' 52 28 none 0 0 0 0 Try.underlying52
    go_enter Try.func94, Try.ntmps94
    go_wp2_with fail
    go_ret
    exact ⟨⟨none, 0, rfl, World.ownsRow_nil _ _ _ _⟩, Below.refl _ _⟩
  · have hnil := fun w' => Lib.run_eql_slice_nil (P := Try.prog) w' 52 28 (some ⟨b, o, none⟩) xs.length c 0 0 Try.underlying52
    clear hc
    have c1 : 0 + xs.length ≤ maxLen := by rw [Nat.zero_add]; exact hR.out.2.2.1
    have c2 : (0 + xs.length) * 4 ≤ 140737488355328 := by omega
    have C1 := hide c1
    have C2 := hide c2
    clear c1 c2
    go_enter Try.func94, Try.ntmps94
    go_wp2_with (at_builtin; refine wpList_append_reads rfl _ _ 52 rfl w.heap.size 28 i0 (.int .u32 0) 1 4 Try.underlying52 HI.out Hz0.out Hz1.out Hz2.out rfl (by decide) _ 0 [] rfl (ownsRow_made w 28 1) _ xs.length (nums xs) rfl (hR.out.alloc _) C1.out C2.out (by simp) ?_; intro a' c' w' hown hg)
    go_ret
    have hown' : w'.ownsRow w.heap.size 28 1 (.slice a' xs.length c') xs.length (nums xs) := by simpa using hown
    exact ⟨⟨a', c', rfl, hown'⟩, ((Below.refl _ w).alloc (Nat.le_refl _) _).grown hg (by simp) (fun k hk => by cases hk; exact Nat.le_refl _)⟩
end Go.Proofs.Ytkkfnpbbigcpbaa
