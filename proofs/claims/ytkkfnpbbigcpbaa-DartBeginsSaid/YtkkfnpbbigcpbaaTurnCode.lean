/- dart.Same, Mirror, Without and Insert into a row that is none. -/
import Derived.Test.YtkkfnpbbigcpbaaTurnRef
namespace Go.Proofs.Ytkkfnpbbigcpbaa
open Go.RowKit

set_option maxHeartbeats 400000 in
set_option maxRecDepth 20000 in
theorem equal_u32 (v u : Value) (n m : Nat) (xs ys : List Int) (w : World) (ln : xs.length = n) (lm : ys.length = m) (hr : Reads w 1 v n (nums xs)) (hr' : Reads w 1 u m (nums ys)) :
    Calls Try.prog 97 #[v, u] w fun e w' => e = .returned (.bool (decide (xs = ys))) ∧ Below w.heap.size w w' := by
  subst ln
  subst lm
  have hv : ∃ a c, v = .slice a xs.length c ∧ (a = none → xs.length = 0) := by
    obtain ⟨_, _, _, ⟨rfl, hn⟩ | ⟨b, o, c, rfl, _⟩⟩ := hr
    · exact ⟨none, 0, by rw [hn], fun _ => hn⟩
    · exact ⟨_, _, rfl, by simp⟩
  have hu : ∃ a c, u = .slice a ys.length c ∧ (a = none → ys.length = 0) := by
    obtain ⟨_, _, _, ⟨rfl, hn⟩ | ⟨b, o, c, rfl, _⟩⟩ := hr'
    · exact ⟨none, 0, by rw [hn], fun _ => hn⟩
    · exact ⟨_, _, rfl, by simp⟩
  obtain ⟨a, c, rfl, hna⟩ := hv
  obtain ⟨a', c', rfl, hna'⟩ := hu
  have hm : xs.length ≤ 9223372036854775807 := by have := hr.2.2.1; unfold maxLen at this; omega
  have hm' : ys.length ≤ 9223372036854775807 := by have := hr'.2.2.1; unfold maxLen at this; omega
  by_cases hl : xs.length = ys.length
  · have hlen : ((xs.length : Int) != (ys.length : Int)) = false := by simp [hl]
    have HL := hide hl
    have HR := hide hr
    have HR' := hide hr'
    have HA := hide hna
    have HA' := hide hna'
    clear hl hr hr' hna hna'
    go_enter Try.func97, Try.ntmps97
    go_wp2_with fail
    go_loopw [13, 5] (fun i _ wr => ∃ k : Nat, k ≤ xs.length ∧ i = .int .i64 k ∧ xs.take k = ys.take k ∧ ∃ n, wr = w.drewN n) (fun i _ _ => xs.length - (intOf i).toNat)
    case atStart => exact ⟨0, by omega, rfl, rfl, 0, rfl⟩
    case round =>
      obtain ⟨k, hk, rfl, hp, nn, rfl⟩ := hrel
      have HP := hide hp
      clear hp
      by_cases hlt : k < xs.length
      · have hlt' : k < ys.length := by have := HL.out; omega
        obtain ⟨b, o, rfl, hc⟩ : ∃ b o, a = some ⟨b, o, none⟩ ∧ w.cell? ⟨b, o + k, none⟩ = some (.int .u32 xs[k]) := by
          obtain ⟨_, _, _, ⟨he, hn⟩ | ⟨b, o, c, he, _, _, h⟩⟩ := HR.out
          · omega
          · cases he; exact ⟨b, o, rfl, h k _ (nums_get xs k hlt)⟩
        obtain ⟨b', o', rfl, hc'⟩ : ∃ b o, a' = some ⟨b, o, none⟩ ∧ w.cell? ⟨b, o + k, none⟩ = some (.int .u32 ys[k]) := by
          obtain ⟨_, _, _, ⟨he, hn⟩ | ⟨b, o, c, he, _, _, h⟩⟩ := HR'.out
          · omega
          · cases he; exact ⟨b, o, rfl, h k _ (nums_get ys k hlt')⟩
        have hi1 : (0 : Int) ≤ (k : Int) := by omega
        have hi2 : (k : Int) < (xs.length : Int) := by omega
        have hi3 : (k : Int) < (ys.length : Int) := by omega
        by_cases he : xs[k] = ys[k]
        · have hE : (xs[k] != ys[k]) = false := by simp [he]
          have HE := hide he
          clear he
          go_wp2_with fail
          go_quiet (fail)
          go_wp2_with fail
          go_roundw
          case rel => exact ⟨k + 1, by omega, by go_num, take_more_int HP.out HE.out, _, rfl⟩
          case measure => simp [intOf]; omega
        · have hE : (xs[k] != ys[k]) = true := by simp [he]
          have HE := hide he
          clear he
          go_wp2_with fail
          go_quiet (fail)
          go_wp2_with fail
          go_ret
          exact ⟨ret_bool (same_no HE.out).symm, below_drewN (below_drewN (Below.refl _ w) _) _⟩
      · go_wp2_with fail
        go_ret
        exact ⟨ret_bool (same_yes HL.out (by omega) HP.out).symm, below_drewN (Below.refl _ w) _⟩
  · have hlen : ((xs.length : Int) != (ys.length : Int)) = true := by simp; omega
    have hne : decide (xs = ys) = false := by simp; rintro rfl; exact hl rfl
    rw [hne]
    clear hne hl
    go_enter Try.func97, Try.ntmps97
    go_wp2_with fail
    go_ret
    exact ⟨rfl, Below.refl _ w⟩

set_option maxHeartbeats 400000 in
theorem dartSame_u32 (v u : Value) (xs ys : List Int) (w : World) (hr : Reads w 1 v xs.length (nums xs)) (hm : Reads w 1 u ys.length (nums ys)) (hx : xs.length ≤ 1000000) (hy : ys.length ≤ 1000000) :
    Calls Try.prog 45 #[v, u] w fun e w' => e = .returned (.bool (decide (rot xs = rot ys))) ∧ Below w.heap.size w w' := by
  have HR := hide hr
  have HM := hide hm
  clear hr hm
  go_enter Try.func45, Try.ntmps45
  go_wp2_with fail
  refine (normal_len _ _ xs _ rfl HR.out (by omega)).mono ?_
  rintro e w1 ⟨⟨a1, c1, rfl, hown1⟩, hb1⟩
  have HM1 := hide (HM.out.below hb1)
  have hz1 := hb1.size
  go_wp2_with fail
  refine (normal_len _ _ ys _ rfl HM1.out (by omega)).mono ?_
  rintro e w2 ⟨⟨a2, c2, rfl, hown2⟩, hb2⟩
  have R1 := hide (Reads.owned (owned_below hown1 hb2) (nums_one _) (by unfold maxLen; omega))
  have R2 := hide (Reads.owned hown2 (nums_one _) (by unfold maxLen; omega))
  go_wp2_with fail
  refine (equal_u32 _ _ _ _ (rot xs) (rot ys) w2 (rot_length _) (rot_length _) R1.out R2.out).mono ?_
  rintro e w3 ⟨rfl, hb3⟩
  go_wp2_with fail
  go_ret
  exact ⟨rfl, (hb1.trans (hb2.mono hz1)).trans (hb3.mono (Nat.le_trans hz1 hb2.size))⟩

/-- A row of n whose first i and last i have changed places. -/
def revTo (xs ys : List Int) (i : Nat) : Prop := ys.length = xs.length ∧ ∀ m, m < xs.length → nth ys m = if m < i ∨ xs.length - i ≤ m then nth xs (xs.length - 1 - m) else nth xs m
theorem revTo_end {xs ys : List Int} {i : Nat} (h : revTo xs ys i) (hi : xs.length ≤ 2 * i + 1) : ys = xs.reverse := by
  obtain ⟨hl, h⟩ := h
  apply List.ext_getElem (by simp [hl])
  intro m h1 h2
  have hm : m < xs.length := by omega
  have := h m hm
  rw [nth_eq ys m h1] at this
  rw [this, List.getElem_reverse]
  split
  · rw [nth_eq _ _ (by omega)]
  · rw [nth_eq _ _ hm]
    congr 1
    omega
theorem revTo_step {xs ys : List Int} {i j : Nat} (h : revTo xs ys i) (hij : i + j + 1 = xs.length) (hlt : i < j) : revTo xs ((ys.set i (nth ys j)).set j (nth ys i)) (i + 1) := by
  obtain ⟨hl, h⟩ := h
  refine ⟨by simp [hl], fun m hm => ?_⟩
  have hn : nth ((ys.set i (nth ys j)).set j (nth ys i)) m = if m = j then nth ys i else if m = i then nth ys j else nth ys m := by
    simp only [nth, List.getD_eq_getElem?_getD, List.getElem?_set]
    by_cases h1 : j = m
    · subst h1; simp [show j < ys.length by omega]
    · by_cases h2 : i = m
      · subst h2; simp [h1, show i < ys.length by omega]
        intro hh; exact absurd hh.symm h1
      · simp [h1, h2, Ne.symm h1, Ne.symm h2]
  rw [hn]
  by_cases h1 : m = j
  · subst h1
    rw [if_pos rfl, h i (by omega), if_neg (by omega), if_pos (by omega)]
    congr 1; omega
  · rw [if_neg h1]
    by_cases h2 : m = i
    · subst h2
      rw [if_pos rfl, h j (by omega), if_neg (by omega), if_pos (by omega)]
      congr 1; omega
    · rw [if_neg h2, h m hm]
      by_cases h3 : m < i ∨ xs.length - i ≤ m
      · rw [if_pos h3, if_pos (by omega)]
      · rw [if_neg h3, if_neg (by omega)]
theorem nums_set (xs : List Int) (j : Nat) (x : Int) : (nums xs).set j (.int .u32 x) = nums (xs.set j x) := by simp [nums, List.map_set]
set_option maxHeartbeats 800000 in
theorem reverse_u32 (base : Nat) (a : Option Addr) (c : Nat) (xs : List Int) (w : World) (hown : w.ownsRow base 28 1 (.slice a xs.length c) xs.length (nums xs)) (hx : xs.length ≤ 1000000) (hbase : base ≤ w.heap.size) :
    Calls Try.prog 98 #[.slice a xs.length c] w fun e w' => e = .returned (.tuple #[]) ∧ w'.ownsRow base 28 1 (.slice a xs.length c) xs.length (nums xs.reverse) ∧ Below base w w' := by
  have HO := hide hown
  clear hown
  go_enter Try.func98, Try.ntmps98
  go_wp2_with fail
  go_loopw [2, 3] (fun i j wr => ∃ (k : Nat) (ys : List Int), 2 * k ≤ xs.length + 1 ∧ i = .int .i64 k ∧ j = .int .i64 ((xs.length : Int) - 1 - k) ∧ revTo xs ys k ∧ wr.ownsRow base 28 1 (.slice a xs.length c) xs.length (nums ys) ∧ Below base w wr) (fun i _ _ => xs.length + 1 - (intOf i).toNat)
  case atStart => exact ⟨0, xs, by omega, rfl, by simp, ⟨rfl, fun m hm => by simp; omega⟩, HO.out, Below.refl _ _⟩
  case round =>
    obtain ⟨k, ys, hk, rfl, rfl, hrv, hown, hb⟩ := hrel
    by_cases hlt : 2 * k + 1 < xs.length
    · obtain ⟨j, hj⟩ : ∃ j : Nat, k + j + 1 = xs.length := ⟨xs.length - 1 - k, by omega⟩
      rw [show (xs.length : Int) - 1 - k = (j : Int) by omega]
      obtain ⟨g, cap, hg, hgb, hle⟩ : ∃ g cap, a = some ⟨g, 0, none⟩ ∧ base ≤ g ∧ cap = c := by
        obtain ⟨_, ⟨h, hn⟩ | ⟨g, cap, cur, h, hb, _⟩⟩ := hown
        · omega
        · cases h; exact ⟨g, _, rfl, hb, rfl⟩
      subst hg
      subst hle
      have hyl := hrv.1
      have ci : wr.cell? ⟨g, k, none⟩ = some (.int .u32 (nth ys k)) := by
        rw [World.ownsRow.cellAt hown k (by omega), nums_get ys k (by omega), nth_eq ys k (by omega)]
      have cj : wr.cell? ⟨g, j, none⟩ = some (.int .u32 (nth ys j)) := by
        rw [World.ownsRow.cellAt hown j (by omega), nums_get ys j (by omega), nth_eq ys j (by omega)]
      have fi := World.ownsRow.frozenAt hown k
      have fj := World.ownsRow.frozenAt hown j
      have l1 : (k : Int) < (j : Int) := by omega
      have l2 : (j : Int) < (xs.length : Int) := by omega
      have l3 : (k : Int) < (xs.length : Int) := by omega
      have hne : k ≠ j := by omega
      have HW := hide hown
      have HB := hide hb
      have HV := hide (revTo_step hrv hj (by omega))
      clear hown hb hrv
      go_wp2_with fail
      go_region
      go_wp2
      go_roundw
      case rel =>
        have h1 := (World.ownsRow.stored HW.out k (.int .u32 (nth ys j))).1
        have h2 := (World.ownsRow.stored h1 j (.int .u32 (nth ys k))).1
        rw [nums_set, nums_set] at h2
        exact ⟨k + 1, _, by omega, by go_num, by go_num, HV.out, h2, ((HB.out.setCell hgb _).setCell hgb _).drew⟩
      case measure => simp [intOf]; omega
    · have HW := hide hown
      have HB := hide hb
      have HV := hide (revTo_end hrv (by omega))
      clear hown hb hrv
      go_wp2_with fail
      refine bodyPost_end (results_none rfl _ _ _) rfl ?_
      rw [← HV.out]
      exact ⟨rfl, HW.out, HB.out⟩
set_option maxHeartbeats 400000 in
theorem mirror_u32 (v : Value) (xs : List Int) (w : World) (hr : Reads w 1 v xs.length (nums xs)) (hx : xs.length ≤ 1000000) :
    Calls Try.prog 46 #[v] w fun e w' => (∃ a c, e = .returned (.slice a xs.length c) ∧ w'.ownsRow w.heap.size 28 1 (.slice a xs.length c) xs.length (nums (rot xs.reverse))) ∧ Below w.heap.size w w' := by
  have HR := hide hr
  clear hr
  go_enter Try.func46, Try.ntmps46
  go_wp2_with fail
  refine (clone_u32 _ xs _ HR.out (by omega)).mono ?_
  rintro e w1 ⟨⟨a1, c1, rfl, hown1⟩, hb1⟩
  go_wp2_with fail
  refine (reverse_u32 _ _ _ xs w1 hown1 hx hb1.size).mono ?_
  rintro e w2 ⟨rfl, hown2, hb2⟩
  go_wp2_with fail
  refine (normal_len _ _ xs.reverse w2 (by simp) (Reads.owned hown2 (nums_one _) (by unfold maxLen; omega)) (by omega)).mono ?_
  rintro e w3 ⟨⟨a3, c3, rfl, hown3⟩, hb3⟩
  have hz := Nat.le_trans hb1.size hb2.size
  go_wp2_with fail
  go_ret
  exact ⟨⟨a3, c3, rfl, owned_mono hown3 hz⟩, (hb1.trans hb2).trans (hb3.mono hz)⟩
end Go.Proofs.Ytkkfnpbbigcpbaa
