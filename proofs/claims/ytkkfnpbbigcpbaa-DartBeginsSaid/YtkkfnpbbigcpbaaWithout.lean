/- dart.Without: slices.DeleteFunc with its closure. -/
import Derived.Test.YtkkfnpbbigcpbaaTurnCode
import Derived.Lib.SliceRun
namespace Go.Proofs.Ytkkfnpbbigcpbaa
open Go.RowKit

theorem Reads.stay {w w' : World} {base size n : Nat} {v : Value} {cs : List Value} (h : Reads w size v n cs) (hl : 0 < n → ∀ k, v.ownBlock = some k → k < base) (hb : Below base w w') : Reads w' size v n cs := by
  obtain ⟨h1, h2, h3, h4⟩ := h
  refine ⟨h1, h2, h3, ?_⟩
  rcases h4 with h4 | ⟨b, o, c, rfl, hc, hm, h4⟩
  · exact .inl h4
  · exact .inr ⟨b, o, c, rfl, hc, hm, fun j u hj => by
      have hn : 0 < n := by
        rcases Nat.eq_zero_or_pos n with h | h
        · rw [h, Nat.zero_mul] at h1
          rw [List.eq_nil_of_length_eq_zero h1] at hj; cases hj
        · exact h
      rw [hb.cell (p := ⟨b, o + j, none⟩) (hl hn b rfl)]; exact h4 j u hj⟩
theorem below_setCells {B : Nat} {w0 : World} (b : Nat) (hb : B ≤ b) : ∀ (vs : List Value) (o : Nat) (w : World), Below B w0 w → Below B w0 (w.setCells b o vs)
  | [], _, _, h => h
  | v :: vs, o, w, h => below_setCells b hb vs (o + 1) (w.setCell ⟨b, o, none⟩ v) (h.setCell hb v)
set_option maxHeartbeats 400000 in
theorem contains_u32 (v : Value) (xs : List Int) (d : Int) (w : World) (hr : Reads w 1 v xs.length (nums xs)) :
    Calls Try.prog 96 #[v, .int .u32 d] w fun e w' => e = .returned (.bool (decide (0 ≤ idx xs d))) ∧ w = w' := by
  have HI := hide (index_u32 v xs d w hr)
  clear hr
  go_enter Try.func96, Try.ntmps96
  go_wp2_with (go_at_call 88; refine HI.out.mono ?_; rintro e w' ⟨rfl, rfl⟩)
  go_ret
  exact ⟨rfl, rfl⟩
set_option maxHeartbeats 400000 in
theorem closure_u32 (B : Nat) (am : Option Addr) (cm : Nat) (ms : List Int) (x : Int) (w : World) (hB : w.cell? ⟨B, 0, none⟩ = some (.slice am ms.length cm)) (hm : Reads w 1 (.slice am ms.length cm) ms.length (nums ms)) :
    Calls Try.prog 95 #[.int .u32 x, .pointer (some ⟨B, 0, none⟩)] w fun e w' => e = .returned (.bool (decide (0 ≤ idx ms x))) ∧ w = w' := by
  have HI := hide (contains_u32 _ ms x w hm)
  clear hm
  go_enter Try.func95, Try.ntmps95
  go_wp2_with (go_at_call 96; refine HI.out.mono ?_; rintro e w' ⟨rfl, rfl⟩)
  go_ret
  exact ⟨rfl, rfl⟩
/-- The first place of one that is in the other row; -1. -/
def firstIn (ms xs : List Int) : Int := match xs.findIdx? (fun x => decide (0 ≤ idx ms x)) with | some i => (i : Int) | none => -1
theorem firstIn_at {ms xs : List Int} {k : Nat} (hk : k < xs.length) (he : 0 ≤ idx ms xs[k]) (hb : ∀ j (h : j < k), idx ms xs[j] < 0) : firstIn ms xs = k := by
  have : xs.findIdx? (fun x => decide (0 ≤ idx ms x)) = some k := List.findIdx?_eq_some_iff_getElem.2 ⟨hk, by simpa using he, fun j hj => by have := hb j hj; simp; omega⟩
  simp [firstIn, this]
theorem firstIn_none {ms xs : List Int} (hb : ∀ j (h : j < xs.length), idx ms xs[j] < 0) : firstIn ms xs = -1 := by
  have : xs.findIdx? (fun x => decide (0 ≤ idx ms x)) = none := List.findIdx?_eq_none_iff.2 fun x hx => by
    obtain ⟨j, hj, rfl⟩ := List.mem_iff_getElem.1 hx
    have := hb j hj
    simp; omega
  simp [firstIn, this]
set_option maxHeartbeats 800000 in
theorem indexFunc_u32 (B : Nat) (am : Option Addr) (cm : Nat) (ms : List Int) (v : Value) (xs : List Int) (w : World) (hr : Reads w 1 v xs.length (nums xs)) (hB : w.cell? ⟨B, 0, none⟩ = some (.slice am ms.length cm)) (hm : Reads w 1 (.slice am ms.length cm) ms.length (nums ms)) :
    Calls Try.prog 110 #[v, .func (.func 95) #[] #[.pointer (some ⟨B, 0, none⟩)]] w fun e w' => e = .returned (.int .i64 (firstIn ms xs)) ∧ w = w' := by
  have hl := hr.2.2.1
  unfold maxLen at hl
  obtain ⟨a0, c0, rfl⟩ := hr.shape
  have HR := hide hr
  have HC := hide (fun x => closure_u32 B am cm ms x w hB hm)
  clear hr hB hm
  go_enter Try.func110, Try.ntmps110
  go_wp2_with fail
  go_loop [8, 5] (fun i _ => ∃ k : Nat, k ≤ xs.length ∧ i = .int .i64 k ∧ ∀ j (_ : j < xs.length), j < k → idx ms xs[j] < 0) (fun i _ => xs.length - (intOf i).toNat)
  case atStart => exact ⟨0, by omega, rfl, fun j _ h => by omega⟩
  case round =>
    obtain ⟨k, hk, rfl, hb⟩ := hrel
    have HB := hide hb
    clear hb
    by_cases hlt : k < xs.length
    · obtain ⟨b, o, c, hv⟩ := HR.out.isRow (by omega)
      cases hv
      have hcell := HR.out.cellNum k hlt
      rw [nth_eq xs k hlt] at hcell
      by_cases he : 0 ≤ idx ms xs[k]
      · have hd : decide (0 ≤ idx ms xs[k]) = true := decide_eq_true he
        go_wp2_with (go_at_call 95; refine (HC.out _).mono ?_; rintro e w' ⟨rfl, rfl⟩)
        go_ret
        exact ⟨ret_int (firstIn_at hlt he (fun j h => HB.out j (by omega) h)).symm, rfl⟩
      · have hd : decide (0 ≤ idx ms xs[k]) = false := decide_eq_false he
        go_wp2_with (go_at_call 95; refine (HC.out _).mono ?_; rintro e w' ⟨rfl, rfl⟩)
        go_round
        case rel => exact ⟨k + 1, by omega, by go_num, fun j hj hjk => by
          by_cases hjk' : j < k
          · exact HB.out j hj hjk'
          · obtain rfl : j = k := by omega
            omega⟩
        case measure => simp [intOf]; omega
    · go_wp2_with fail
      go_ret
      exact ⟨ret_int (firstIn_none (fun j h => HB.out j h (by omega))).symm, rfl⟩

/-- A row in the midst of the deletion: j were looked at, those that stay stand in front. -/
def delTo (ms xs ys : List Int) (j : Nat) : Prop := ys.length = xs.length ∧ ys.take (outOf ms (xs.take j)).length = outOf ms (xs.take j) ∧ ∀ m, j ≤ m → m < xs.length → nth ys m = nth xs m
theorem outOf_all {ms xs : List Int} (h : ∀ j (h : j < xs.length), idx ms xs[j] < 0) : outOf ms xs = xs := by
  rw [outOf, List.filter_eq_self]
  intro x hx
  obtain ⟨j, hj, rfl⟩ := List.mem_iff_getElem.1 hx
  simpa using h j hj
theorem firstIn_or (ms xs : List Int) : (firstIn ms xs = -1 ∧ outOf ms xs = xs) ∨ ∃ k : Nat, k < xs.length ∧ firstIn ms xs = k ∧ outOf ms (xs.take (k + 1)) = xs.take k := by
  by_cases h : ∃ k, ∃ hk : k < xs.length, 0 ≤ idx ms xs[k] ∧ ∀ j (hj : j < k), idx ms xs[j] < 0
  · obtain ⟨k, hk, h1, h2⟩ := h
    refine .inr ⟨k, hk, firstIn_at hk h1 h2, ?_⟩
    rw [outOf_snoc ms xs k hk, if_neg (by rw [nth_eq xs k hk]; omega), List.append_nil]
    exact outOf_all fun j hj => by
      have : j < k := by simp at hj; omega
      rw [List.getElem_take]
      exact h2 j this
  · have hall : ∀ k, ∀ hk : k < xs.length, idx ms xs[k] < 0 := by
      intro k
      induction k using Nat.strongRecOn with
      | _ k ih =>
        intro hk
        by_cases h0 : idx ms xs[k] < 0
        · exact h0
        · exact absurd ⟨k, hk, by omega, fun j hj => ih j hj (by omega)⟩ h
    exact .inl ⟨firstIn_none hall, outOf_all hall⟩
theorem delTo_keep {ms xs ys : List Int} {j : Nat} (h : delTo ms xs ys j) (hj : j < xs.length) (hi : (outOf ms (xs.take j)).length < j) (hn : idx ms (nth xs j) < 0) : delTo ms xs (ys.set (outOf ms (xs.take j)).length (nth xs j)) (j + 1) := by
  obtain ⟨hl, ht, hr⟩ := h
  have hs := outOf_snoc ms xs j hj
  rw [if_pos hn] at hs
  refine ⟨by simp [hl], ?_, fun m hm hmx => ?_⟩
  · rw [hs, List.length_append, List.length_singleton, List.take_succ_eq_append_getElem (by simp; omega), List.take_set_of_le (Nat.le_refl _), ht]
    simp
  · rw [← hr m (by omega) hmx]
    simp only [nth, List.getD_eq_getElem?_getD, List.getElem?_set]
    rw [if_neg (by omega)]
theorem delTo_drop {ms xs ys : List Int} {j : Nat} (h : delTo ms xs ys j) (hj : j < xs.length) (hn : ¬ idx ms (nth xs j) < 0) : delTo ms xs ys (j + 1) ∧ outOf ms (xs.take (j + 1)) = outOf ms (xs.take j) := by
  obtain ⟨hl, ht, hr⟩ := h
  have hs := outOf_snoc ms xs j hj
  rw [if_neg hn, List.append_nil] at hs
  exact ⟨⟨hl, by rw [hs]; exact ht, fun m hm hmx => hr m (by omega) hmx⟩, hs⟩

set_option maxHeartbeats 1600000 in
set_option maxRecDepth 20000 in
theorem deleteFunc_u32 (base B : Nat) (am : Option Addr) (cm : Nat) (ms : List Int) (a : Option Addr) (c : Nat) (xs : List Int) (w : World) (hown : w.ownsRow base 28 1 (.slice a xs.length c) xs.length (nums xs)) (hbase : base ≤ w.heap.size) (hBb : B < base) (hmb : 0 < ms.length → ∀ k, (Value.slice am ms.length cm).ownBlock = some k → k < base)
    (hB : w.cell? ⟨B, 0, none⟩ = some (.slice am ms.length cm)) (hm : Reads w 1 (.slice am ms.length cm) ms.length (nums ms)) (hx : xs.length ≤ 1000000) :
    Calls Try.prog 93 #[.slice a xs.length c, .func (.func 95) #[] #[.pointer (some ⟨B, 0, none⟩)]] w fun e w' => (∃ a' c', e = .returned (.slice a' (outOf ms xs).length c') ∧ Reads w' 1 (.slice a' (outOf ms xs).length c') (outOf ms xs).length (nums (outOf ms xs))) ∧ Below base w w' := by
  have hmax : xs.length ≤ maxLen := by unfold maxLen; omega
  have HO := hide hown
  have HI := hide (indexFunc_u32 B am cm ms _ xs w (Reads.owned hown (nums_one _) hmax) hB hm)
  have HC := hide (fun x wr (hb : Below base w wr) => closure_u32 B am cm ms x wr (by rw [hb.cell (p := ⟨B, 0, none⟩) hBb]; exact hB) (hm.stay hmb hb))
  rcases firstIn_or ms xs with ⟨hf, hall⟩ | ⟨k0, hk0, hf, hpre⟩
  · rw [hf] at HI
    rw [hall]
    clear hown hf hall
    go_enter Try.func93, Try.ntmps93
    go_wp2_with (go_at_call 110; refine HI.out.mono ?_; rintro e w' ⟨rfl, rfl⟩)
    go_ret
    exact ⟨⟨a, c, rfl, Reads.owned HO.out (nums_one _) hmax⟩, Below.refl _ _⟩
  · rw [hf] at HI
    obtain ⟨g, hg, hgb⟩ : ∃ g, a = some ⟨g, 0, none⟩ ∧ base ≤ g := by
      obtain ⟨_, ⟨h, hn⟩ | ⟨g, cap, cur, h, hb, _⟩⟩ := hown
      · omega
      · cases h; exact ⟨g, rfl, hb⟩
    subst hg
    have hcap : xs.length ≤ c ∧ c ≤ maxLen := by
      obtain ⟨_, ⟨h, hn⟩ | ⟨g, cap, cur, h, _, _, h1, h2, _⟩⟩ := hown
      · cases h
      · cases h; exact ⟨h1, h2⟩
    have HP := hide hpre
    have HCAP := hide hcap
    clear hown hf hpre hB hm
    have hne : ((k0 : Int) == -1) = false := by rw [beq_eq_false_iff_ne]; omega
    go_enter Try.func93, Try.ntmps93
    go_wp2_with (go_at_call 110; refine HI.out.mono ?_; rintro e w' ⟨rfl, rfl⟩)
    go_loopw [5, 6, 7] (fun i j _ wr => ∃ (n m : Nat) (ys : List Int), m ≤ xs.length ∧ n < m ∧ i = .int .i64 n ∧ j = .int .i64 m ∧ n = (outOf ms (xs.take m)).length ∧ delTo ms xs ys m ∧ wr.ownsRow base 28 1 (.slice (some ⟨g, 0, none⟩) xs.length c) xs.length (nums ys) ∧ Below base w wr) (fun _ j _ _ => xs.length - (intOf j).toNat)
    case atStart =>
      refine ⟨k0, k0 + 1, xs, by omega, by omega, rfl, by go_num, ?_, ⟨rfl, ?_, fun _ _ _ => rfl⟩, HO.out, Below.refl _ _⟩
      · rw [HP.out]; simp; omega
      · rw [HP.out]; simp
    case round =>
      obtain ⟨n, m, ys, hm, hnm, rfl, rfl, hn, hd, hown, hb⟩ := hrel
      have hyl := hd.1
      by_cases hlt : m < xs.length
      · have hcell : wr.cell? ⟨g, m, none⟩ = some (.int .u32 (nth xs m)) := by
          rw [World.ownsRow.cellAt hown m (by omega), nums_get ys m (by omega), ← nth_eq ys m (by omega), hd.2.2 m (Nat.le_refl _) hlt]
        have hcn : wr.cell? ⟨g, n, none⟩ = some (.int .u32 (nth ys n)) := by
          rw [World.ownsRow.cellAt hown n (by omega), nums_get ys n (by omega), nth_eq ys n (by omega)]
        have fn := World.ownsRow.frozenAt hown n
        have HCW := hide (HC.out (nth xs m) wr hb)
        have l1 : (n : Int) < (xs.length : Int) := by omega
        have HW := hide hown
        have HB := hide hb
        have HD := hide hd
        have HN := hide hn
        by_cases hin : idx ms (nth xs m) < 0
        · have hdec : decide (0 ≤ idx ms (nth xs m)) = false := decide_eq_false (by omega)
          clear hown hb hd hn
          go_wp2_with (go_at_call 95; refine HCW.out.mono ?_; rintro e w' ⟨rfl, rfl⟩)
          go_roundw
          case rel =>
            have h1 := (World.ownsRow.stored HW.out n (.int .u32 (nth xs m))).1
            rw [nums_set] at h1
            have hs := outOf_snoc ms xs m hlt
            rw [if_pos hin] at hs
            refine ⟨n + 1, m + 1, ys.set n (nth xs m), by omega, by omega, by go_num, by go_num, by rw [hs, List.length_append, ← HN.out]; rfl, ?_, h1, HB.out.setCell hgb _⟩
            have := delTo_keep HD.out hlt (by rw [← HN.out]; omega) hin
            rw [← HN.out] at this
            exact this
          case measure => simp [intOf]; omega
        · have hdec : decide (0 ≤ idx ms (nth xs m)) = true := decide_eq_true (by omega)
          clear hown hb hd hn
          go_wp2_with (go_at_call 95; refine HCW.out.mono ?_; rintro e w' ⟨rfl, rfl⟩)
          go_roundw
          case rel =>
            obtain ⟨h1, h2⟩ := delTo_drop HD.out hlt (by omega)
            exact ⟨n, m + 1, ys, by omega, by omega, rfl, by go_num, by rw [h2]; exact HN.out, h1, HW.out, HB.out⟩
          case measure => simp [intOf]; omega
      · obtain rfl : m = xs.length := by omega
        rw [List.take_length] at hn
        have hcl : ∀ ty, (Builtin.clear_ #[52] ty #[.slice (some ⟨g, n, none⟩) (xs.length - n) (c - n)]).run Try.prog wr = .ok (.tuple #[]) (wr.setCells g n (List.replicate (xs.length - n) (.int .u32 0))) := fun ty =>
          Lib.run_clear_slice (P := Try.prog) wr 52 28 ty (.int .u32 0) Try.underlying52 Try.zeroValue28 rfl rfl g n (xs.length - n) (c - n) (by omega) (fun j hj => by rw [World.ownsRow.cellAt hown (n + j) (by omega), nums_get ys (n + j) (by omega)]; rfl) (fun j _ => World.ownsRow.frozenAt hown (n + j))
        have hC2 := HCAP.out
        have HW := hide hown
        have HB := hide hb
        have HD := hide hd
        have HN := hide hn
        clear hown hb hd hn
        go_wp2_with fail
        go_ret
        rw [← HN.out]
        refine ⟨⟨some ⟨g, 0, none⟩, c, rfl, ?_⟩, below_setCells g hgb _ _ _ HB.out⟩
        have hD := HD.out
        have hfit := hD.2.1
        rw [List.take_length, ← HN.out] at hfit
        rw [← hfit]
        refine ⟨by rw [nums_length, List.length_take]; omega, nums_one _, by omega, .inr ⟨g, 0, c, rfl, by omega, hC2.2, fun j u hj => ?_⟩⟩
        have hjn : j < n := by
          have := (List.getElem?_eq_some_iff.1 hj).1
          rw [nums_length, List.length_take] at this
          omega
        rw [World.cell?_setCells_out g _ n wr ⟨g, 0 + j, none⟩ (fun _ _ => .inl (by show 0 + j < n; omega)), Nat.zero_add, World.ownsRow.cellAt HW.out j (by omega)]
        rw [← hj]
        simp only [nums, List.getElem?_map, List.getElem?_take]
        rw [if_pos hjn]
set_option maxHeartbeats 400000 in
set_option maxRecDepth 20000 in
theorem without_u32 (v u : Value) (xs ms : List Int) (w : World) (hr : Reads w 1 v xs.length (nums xs)) (hm : Reads w 1 u ms.length (nums ms)) (hx : xs.length ≤ 1000000) :
    Calls Try.prog 43 #[v, u] w fun e w' => (∃ a c, e = .returned (.slice a (outOf ms xs).length c) ∧ w'.ownsRow w.heap.size 28 1 (.slice a (outOf ms xs).length c) (outOf ms xs).length (nums (rot (outOf ms xs)))) ∧ Below w.heap.size w w' := by
  obtain ⟨am, cm, rfl⟩ := hm.shape
  have hol := outOf_len ms xs
  have hmb : 0 < ms.length → ∀ k, (Value.slice am ms.length cm).ownBlock = some k → k < (w.alloc (.cells #[.slice am ms.length cm] 52)).heap.size := fun h0 k hk => by
    have := hm.lt h0 (by omega) k hk
    simp; omega
  have HR := hide (hr.alloc (.cells #[.slice am ms.length cm] 52))
  have HM := hide (hm.alloc (.cells #[.slice am ms.length cm] 52))
  clear hr hm
  go_enter Try.func43, Try.ntmps43
  go_wp2_with fail
  refine (clone_u32 _ xs _ HR.out (by omega)).mono ?_
  rintro e w1 ⟨⟨a1, c1, rfl, hown1⟩, hb1⟩
  go_wp2_with fail
  have hz1 := hb1.size
  have hcell : w1.cell? ⟨w.heap.size, 0, none⟩ = some (.slice am ms.length cm) := by
    rw [hb1.cell (p := ⟨w.heap.size, 0, none⟩) (by simp)]
    rw [cell_of_row _ _ 0 _ _ _ (heap_alloc_new w _)]; rfl
  refine (deleteFunc_u32 _ _ am cm ms _ _ xs w1 hown1 hz1 (by simp) hmb hcell (HM.out.below hb1) hx).mono ?_
  rintro e w2 ⟨⟨a2, c2, rfl, hr2⟩, hb2⟩
  have hz2 := hb2.size
  go_wp2_with fail
  refine (normal_len _ _ (outOf ms xs) w2 rfl hr2 (by omega)).mono ?_
  rintro e w3 ⟨⟨a3, c3, rfl, hown3⟩, hb3⟩
  have hz : w.heap.size ≤ w2.heap.size := by simp at hz1; omega
  go_wp2_with fail
  go_ret
  exact ⟨⟨a3, c3, rfl, owned_mono hown3 hz⟩, ((((Below.refl _ w).alloc (Nat.le_refl _) _).trans (hb1.mono (by simp))).trans (hb2.mono (by simp))).trans (hb3.mono hz)⟩
end Go.Proofs.Ytkkfnpbbigcpbaa
