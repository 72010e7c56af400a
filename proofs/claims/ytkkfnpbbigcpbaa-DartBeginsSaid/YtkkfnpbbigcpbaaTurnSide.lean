/- dart.Next, dart.Prev, and the document's Find, Next, Prev. -/
import Derived.Test.YtkkfnpbbigcpbaaDartLaw
namespace Go.Proofs.Ytkkfnpbbigcpbaa
open Go.RowKit

def nth (xs : List Int) (k : Nat) : Int := xs.getD k 0
theorem nth_eq (xs : List Int) (k : Nat) (h : k < xs.length) : nth xs k = xs[k] := by rw [nth, List.getD_eq_getElem?_getD, List.getElem?_eq_getElem h]; rfl
def nextOf (xs : List Int) (d : Int) : Int := if idx xs d < 0 then 0 else nth xs (((idx xs d).toNat + 1) % xs.length)
def prevOf (xs : List Int) (d : Int) : Int := if idx xs d < 0 then 0 else nth xs (((idx xs d).toNat + xs.length - 1) % xs.length)
theorem nextOf_no {xs : List Int} {d : Int} (h : idx xs d = -1) : nextOf xs d = 0 := by rw [nextOf, h]; rfl
theorem prevOf_no {xs : List Int} {d : Int} (h : idx xs d = -1) : prevOf xs d = 0 := by rw [prevOf, h]; rfl
theorem nextOf_at {xs : List Int} {d : Int} {k : Nat} (h : idx xs d = k) : nextOf xs d = nth xs ((k + 1) % xs.length) := by rw [nextOf, h, if_neg (by omega)]; rfl
theorem prevOf_at {xs : List Int} {d : Int} {k : Nat} (h : idx xs d = k) : prevOf xs d = nth xs ((k + xs.length - 1) % xs.length) := by rw [prevOf, h, if_neg (by omega)]; rfl
theorem Reads.cellNum {w : World} {b o c n : Nat} {xs : List Int} (h : Reads w 1 (.slice (some ⟨b, o, none⟩) n c) n (nums xs)) (j : Nat) (hj : j < xs.length) : w.cell? ⟨b, o + j, none⟩ = some (.int .u32 (nth xs j)) := by
  obtain ⟨_, _, _, ⟨h, _⟩ | ⟨b', o', c', h, _, _, h4⟩⟩ := h
  · cases h
  · cases h; rw [nth_eq xs j hj]; exact h4 j _ (nums_get xs j hj)

set_option maxHeartbeats 400000 in
theorem beside_u32 (v : Value) (xs : List Int) (d : Int) (by' : Int) (r : Int) (hby : by' = 1 ∧ r = nextOf xs d ∨ by' = -1 ∧ r = prevOf xs d) (w : World) (hr : Reads w 1 v xs.length (nums xs)) (hx : xs.length ≤ 1000000) :
    Calls Try.prog 90 #[v, .int .u32 d, .int .i64 by'] w fun e w' => e = .returned (.int .u32 r) ∧ w = w' := by
  have HI := hide (index_u32 v xs d w hr)
  rcases idx_or xs d with hi | ⟨k, hk, hi⟩
  · have hr0 : r = 0 := by
      rcases hby with ⟨_, h⟩ | ⟨_, h⟩
      · rw [h, nextOf_no hi]
      · rw [h, prevOf_no hi]
    subst hr0
    rw [hi] at HI
    clear hby hi
    go_enter Try.func90, Try.ntmps90
    go_wp2_with (go_at_call 88; refine HI.out.mono ?_; rintro e w' ⟨rfl, rfl⟩)
    go_ret
    exact ⟨rfl, rfl⟩
  · obtain ⟨b, o, c, rfl⟩ := hr.isRow (by omega)
    obtain ⟨q, hq, hrq, hmod⟩ : ∃ q : Nat, q < xs.length ∧ r = nth xs q ∧ ((k : Int) + by' + xs.length) % xs.length = q := by
      rcases hby with ⟨rfl, h⟩ | ⟨rfl, h⟩
      · refine ⟨(k + 1) % xs.length, Nat.mod_lt _ (by omega), by rw [h, nextOf_at hi], ?_⟩
        rw [Int.add_emod_right]; norm_cast
      · refine ⟨(k + xs.length - 1) % xs.length, Nat.mod_lt _ (by omega), by rw [h, prevOf_at hi], ?_⟩
        rw [show (k : Int) + -1 + xs.length = ((k + xs.length - 1 : Nat) : Int) by omega]; norm_cast
    have hcell := hr.cellNum q hq
    have hb1 : by' = 1 ∨ by' = -1 := by rcases hby with ⟨h, _⟩ | ⟨h, _⟩ <;> simp [h]
    rw [hi] at HI
    rw [hrq]
    clear hby hi
    have w1 : IntKind.i64.wrap ((k : Int) + by') = (k : Int) + by' := by rw [IntKind.wrap_i64]; omega
    have w2 : IntKind.i64.wrap ((k : Int) + by' + xs.length) = (k : Int) + by' + xs.length := by rw [IntKind.wrap_i64]; omega
    have w3 : ((k : Int) + by' + xs.length).tmod xs.length = q := by rw [Int.tmod_eq_emod_of_nonneg (by omega)]; exact hmod
    have w4 : (q : Int) < (xs.length : Int) := by omega
    clear hmod
    go_enter Try.func90, Try.ntmps90
    go_wp2_with (go_at_call 88; refine HI.out.mono ?_; rintro e w' ⟨rfl, rfl⟩)
    go_ret
    exact ⟨rfl, rfl⟩
set_option maxHeartbeats 400000 in
theorem next_u32 (v : Value) (xs : List Int) (d : Int) (w : World) (hr : Reads w 1 v xs.length (nums xs)) (hx : xs.length ≤ 1000000) :
    Calls Try.prog 37 #[v, .int .u32 d] w fun e w' => e = .returned (.int .u32 (nextOf xs d)) ∧ w = w' := by
  go_enter Try.func37, Try.ntmps37
  go_wp2_with (go_at_call 90; refine (beside_u32 v xs d 1 _ (.inl ⟨rfl, rfl⟩) w hr hx).mono ?_; rintro e w' ⟨rfl, rfl⟩)
  go_ret
  exact ⟨rfl, rfl⟩
set_option maxHeartbeats 400000 in
theorem prev_u32 (v : Value) (xs : List Int) (d : Int) (w : World) (hr : Reads w 1 v xs.length (nums xs)) (hx : xs.length ≤ 1000000) :
    Calls Try.prog 39 #[v, .int .u32 d] w fun e w' => e = .returned (.int .u32 (prevOf xs d)) ∧ w = w' := by
  go_enter Try.func39, Try.ntmps39
  go_wp2_with (go_at_call 90; refine (beside_u32 v xs d (-1) _ (.inr ⟨rfl, rfl⟩) w hr hx).mono ?_; rintro e w' ⟨rfl, rfl⟩)
  go_ret
  exact ⟨rfl, rfl⟩

set_option maxHeartbeats 400000 in
theorem find_u32 (v : Value) (xs : List Int) (d : Int) (w : World) (hr : Reads w 1 v xs.length (nums xs)) :
    Calls Try.prog 91 #[v, .int .u32 d] w fun e w' => e = .returned (.int .i64 (idx xs d)) ∧ w = w' := by
  have hm := hr.2.2.1
  unfold maxLen at hm
  obtain ⟨a0, c0, rfl⟩ : ∃ a c, v = .slice a xs.length c := by
    obtain ⟨_, _, _, ⟨rfl, h⟩ | ⟨b, o, c, rfl, _⟩⟩ := hr
    · rw [h]; exact ⟨_, _, rfl⟩
    · exact ⟨_, _, rfl⟩
  have HR := hide hr
  clear hr
  go_enter Try.func91, Try.ntmps91
  go_wp2_with fail
  go_loop [9, 5, 6] (fun i _ _ => ∃ k : Nat, k ≤ xs.length ∧ i = .int .i64 k ∧ ∀ j (_ : j < xs.length), j < k → (d == xs[j]) = false) (fun i _ _ => xs.length - (intOf i).toNat)
  case atStart => exact ⟨0, by omega, rfl, fun j _ h => by omega⟩
  case round =>
    obtain ⟨k, hk, rfl, hb⟩ := hrel
    have HB := hide hb
    clear hb
    by_cases hlt : k < xs.length
    · obtain ⟨b, o, c, hv⟩ := HR.out.isRow (by omega)
      cases hv
      have hcell := HR.out.cellNum k hlt
      rw [nth_eq xs k hlt] at hcell
      cases he : (d == xs[k])
      · have he' : (xs[k] == d) = false := by rw [← he]; exact Bool.beq_comm ..
        go_wp2_with fail
        go_round
        case rel => exact ⟨k + 1, by omega, by go_num, fun j hj hjk => by
          by_cases hjk' : j < k
          · exact HB.out j hj hjk'
          · obtain rfl : j = k := by omega
            exact he⟩
        case measure => simp [intOf]; omega
      · have he' : (xs[k] == d) = true := by rw [← he]; exact Bool.beq_comm ..
        go_wp2_with fail
        go_ret
        exact ⟨ret_int (idx_at hlt he (fun j h => HB.out j (by omega) h)).symm, rfl⟩
    · go_wp2_with fail
      go_ret
      exact ⟨ret_int (idx_none (fun j h => HB.out j h (by omega))).symm, rfl⟩
set_option maxHeartbeats 400000 in
theorem refNext_u32 (v : Value) (xs : List Int) (d : Int) (w : World) (hr : Reads w 1 v xs.length (nums xs)) (hx : xs.length ≤ 1000000) :
    Calls Try.prog 38 #[v, .int .u32 d] w fun e w' => e = .returned (.int .u32 (nextOf xs d)) ∧ w = w' := by
  have HI := hide (find_u32 v xs d w hr)
  rcases idx_or xs d with hi | ⟨k, hk, hi⟩
  · rw [nextOf_no hi]
    rw [hi] at HI
    clear hi
    go_enter Try.func38, Try.ntmps38
    go_wp2_with (go_at_call 91; refine HI.out.mono ?_; rintro e w' ⟨rfl, rfl⟩)
    go_ret
    exact ⟨rfl, rfl⟩
  · obtain ⟨b, o, c, rfl⟩ := hr.isRow (by omega)
    rw [nextOf_at hi]
    rw [hi] at HI
    clear hi
    by_cases hl : k + 1 = xs.length
    · have hcell := hr.cellNum 0 (by omega)
      rw [Nat.add_zero] at hcell
      rw [hl, Nat.mod_self]
      have hE : ((k : Int) + 1 == (xs.length : Int)) = true := by rw [beq_iff_eq]; omega
      have hp : (0 : Int) < (xs.length : Int) := by omega
      go_enter Try.func38, Try.ntmps38
      go_wp2_with (go_at_call 91; refine HI.out.mono ?_; rintro e w' ⟨rfl, rfl⟩)
      go_ret
      exact ⟨rfl, rfl⟩
    · have hcell := hr.cellNum (k + 1) (by omega)
      rw [Nat.mod_eq_of_lt (by omega)]
      have hE : ((k : Int) + 1 == (xs.length : Int)) = false := by rw [beq_eq_false_iff_ne]; omega
      have hp : (k : Int) + 1 < (xs.length : Int) := by omega
      go_enter Try.func38, Try.ntmps38
      go_wp2_with (go_at_call 91; refine HI.out.mono ?_; rintro e w' ⟨rfl, rfl⟩)
      go_ret
      exact ⟨rfl, rfl⟩
set_option maxHeartbeats 400000 in
theorem refPrev_u32 (v : Value) (xs : List Int) (d : Int) (w : World) (hr : Reads w 1 v xs.length (nums xs)) (hx : xs.length ≤ 1000000) :
    Calls Try.prog 40 #[v, .int .u32 d] w fun e w' => e = .returned (.int .u32 (prevOf xs d)) ∧ w = w' := by
  have HI := hide (find_u32 v xs d w hr)
  rcases idx_or xs d with hi | ⟨k, hk, hi⟩
  · rw [prevOf_no hi]
    rw [hi] at HI
    clear hi
    go_enter Try.func40, Try.ntmps40
    go_wp2_with (go_at_call 91; refine HI.out.mono ?_; rintro e w' ⟨rfl, rfl⟩)
    go_ret
    exact ⟨rfl, rfl⟩
  · obtain ⟨b, o, c, rfl⟩ := hr.isRow (by omega)
    rw [prevOf_at hi]
    rw [hi] at HI
    clear hi
    by_cases hl : k = 0
    · subst hl
      have hcell := hr.cellNum (xs.length - 1) (by omega)
      rw [Nat.zero_add, Nat.mod_eq_of_lt (by omega)]
      have hp : (xs.length : Int) - 1 < (xs.length : Int) ∧ (0 : Int) ≤ (xs.length : Int) - 1 := by omega
      have hc : ((xs.length : Int) - 1).toNat = xs.length - 1 := by omega
      go_enter Try.func40, Try.ntmps40
      go_wp2_with (go_at_call 91; refine HI.out.mono ?_; rintro e w' ⟨rfl, rfl⟩)
      go_ret
      exact ⟨rfl, rfl⟩
    · have hcell := hr.cellNum (k - 1) (by omega)
      rw [show k + xs.length - 1 = (k - 1) + xs.length by omega, Nat.add_mod_right, Nat.mod_eq_of_lt (by omega)]
      have hE : ((k : Int) == 0) = false := by rw [beq_eq_false_iff_ne]; omega
      have hp : (k : Int) - 1 < (xs.length : Int) ∧ (0 : Int) ≤ (k : Int) - 1 := by omega
      have hc : ((k : Int) - 1).toNat = k - 1 := by omega
      go_enter Try.func40, Try.ntmps40
      go_wp2_with (go_at_call 91; refine HI.out.mono ?_; rintro e w' ⟨rfl, rfl⟩)
      go_ret
      exact ⟨rfl, rfl⟩
end Go.Proofs.Ytkkfnpbbigcpbaa
