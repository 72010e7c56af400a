/- space.turn: runs' sectors, from free to taken, or back. -/
import Derived.Test.YtkkfnpbbigcpbaaSpace
namespace Go.Proofs.Ytkkfnpbbigcpbaa
open Go.RowKit

/-- Runs as cells. -/
def rcells (l : List (Int × Int)) : List Value := l.flatMap fun r => [.int .i64 r.1, .int .i64 r.2]
theorem rcells_length (l : List (Int × Int)) : (rcells l).length = l.length * 2 := by
  induction l with
  | nil => rfl
  | cons r l ih => rw [rcells, List.flatMap_cons, List.length_append]; simp only [rcells] at ih; rw [ih]; simp; omega
theorem rcells_get (l : List (Int × Int)) (k : Nat) (h : k < l.length) : (rcells l)[k * 2]? = some (.int .i64 l[k].1) ∧ (rcells l)[k * 2 + 1]? = some (.int .i64 l[k].2) := by
  induction l generalizing k with
  | nil => simp at h
  | cons r l ih =>
    have h1 : rcells (r :: l) = .int .i64 r.1 :: .int .i64 r.2 :: rcells l := rfl
    rw [h1]
    cases k with
    | zero => exact ⟨rfl, rfl⟩
    | succ k =>
      have := ih k (by simpa using h)
      rw [show (k + 1) * 2 = k * 2 + 1 + 1 by omega]
      simpa using this
theorem Reads.cells2 {w : World} {b o c n : Nat} {l : List (Int × Int)} (h : Reads w 2 (.slice (some ⟨b, o, none⟩) n c) n (rcells l)) (k : Nat) (hk : k < l.length) : w.cell? ⟨b, o + k * 2, none⟩ = some (.int .i64 l[k].1) ∧ w.cell? ⟨b, o + k * 2 + 1, none⟩ = some (.int .i64 l[k].2) := by
  obtain ⟨_, _, _, ⟨h, _⟩ | ⟨b', o', c', h, _, _, h4⟩⟩ := h
  · cases h
  · cases h
    refine ⟨h4 _ _ (rcells_get l k hk).1, ?_⟩
    rw [Nat.add_assoc]
    exact h4 _ _ (rcells_get l k hk).2
/-- One sector is turned. -/
def stepOne (f : Int) (tb : Bool) (fs : List Bool) (at' : Int) : Except Int (List Bool) :=
  if at' < f ∨ fs.length ≤ at' - f then .error 2 else if fs.getD (at' - f).toNat false = tb then .error 17 else .ok (fs.set (at' - f).toNat tb)
/-- A run's first k sectors are turned. -/
def runTo (f : Int) (tb : Bool) (fs : List Bool) (at' : Int) : Nat → Except Int (List Bool)
  | 0 => .ok fs
  | k + 1 => match runTo f tb fs at' k with
    | .ok g => stepOne f tb g (at' + k)
    | .error e => .error e
/-- The first k runs are turned. -/
def turnTo (f : Int) (tb : Bool) (fs : List Bool) (rs : List (Int × Int)) : Nat → Except Int (List Bool)
  | 0 => .ok fs
  | k + 1 => match turnTo f tb fs rs k with
    | .ok g => if (rs.getD k (0, 0)).2 < 1 then .error 2 else runTo f tb g (rs.getD k (0, 0)).1 (rs.getD k (0, 0)).2.toNat
    | .error e => .error e
theorem stepOne_length {f : Int} {tb : Bool} {fs g : List Bool} {a : Int} (h : stepOne f tb fs a = .ok g) : g.length = fs.length := by
  unfold stepOne at h
  split at h
  · cases h
  · split at h
    · cases h
    · cases h; simp
theorem runTo_length {f : Int} {tb : Bool} {fs : List Bool} {a : Int} : ∀ {k : Nat} {g : List Bool}, runTo f tb fs a k = .ok g → g.length = fs.length
  | 0, g, h => by cases h; rfl
  | k + 1, g, h => by
    rw [runTo] at h
    split at h
    · rename_i g' hg
      rw [stepOne_length h, runTo_length hg]
    · cases h
theorem runTo_err {f : Int} {tb : Bool} {fs : List Bool} {a e : Int} {k : Nat} (h : runTo f tb fs a k = .error e) : ∀ m, k ≤ m → runTo f tb fs a m = .error e
  | 0, hm => by obtain rfl : k = 0 := by omega
                exact h
  | m + 1, hm => by
    by_cases hk : k = m + 1
    · subst hk; exact h
    · rw [runTo, runTo_err h m (by omega)]
theorem turnTo_err {f : Int} {tb : Bool} {fs : List Bool} {rs : List (Int × Int)} {e : Int} {k : Nat} (h : turnTo f tb fs rs k = .error e) : ∀ m, k ≤ m → turnTo f tb fs rs m = .error e
  | 0, hm => by obtain rfl : k = 0 := by omega
                exact h
  | m + 1, hm => by
    by_cases hk : k = m + 1
    · subst hk; exact h
    · rw [turnTo, turnTo_err h m (by omega)]
theorem turnTo_length {f : Int} {tb : Bool} {fs : List Bool} {rs : List (Int × Int)} : ∀ {k : Nat} {g : List Bool}, turnTo f tb fs rs k = .ok g → g.length = fs.length
  | 0, g, h => by cases h; rfl
  | k + 1, g, h => by
    rw [turnTo] at h
    split at h
    · rename_i g' hg
      split at h
      · cases h
      · rw [runTo_length h, turnTo_length hg]
    · cases h
theorem owned_set {w : World} {base n g c : Nat} {e : TypeId} {cs : List Value} {x : Value} (h : w.ownsRow base e 1 (.slice (some ⟨g, 0, none⟩) n c) n cs) (i : Nat) (hi : i < n) :
    (w.setCell ⟨g, i, none⟩ x).ownsRow base e 1 (.slice (some ⟨g, 0, none⟩) n c) n (cs.set i x) := by
  obtain ⟨h1, ⟨h2, _⟩ | ⟨g', cap, cur, e1, hg, hc, h3, h4, h5, h6⟩⟩ := h
  · cases h2
  · cases e1
    refine ⟨by simpa using h1, .inr ⟨g, c, cur.setIfInBounds i x, rfl, hg, heap_set_row hc x, h3, h4, by simpa using h5, ?_⟩⟩
    rw [Array.toList_setIfInBounds, List.take_set, h6]
theorem owned_cell {w : World} {base n g c : Nat} {e : TypeId} {cs : List Value} (h : w.ownsRow base e 1 (.slice (some ⟨g, 0, none⟩) n c) n cs) (i : Nat) (x : Value) (hx : cs[i]? = some x) :
    w.cell? ⟨g, i, none⟩ = some x ∧ w.frozen? ⟨g, i, none⟩ = false ∧ base ≤ g := by
  obtain ⟨h1, ⟨h2, _⟩ | ⟨g', cap, cur, e1, hg, hc, h3, h4, h5, h6⟩⟩ := h
  · cases h2
  · cases e1
    refine ⟨?_, frozen_of_row w g i cur e hc, hg⟩
    rw [cell_of_row w g i cur e (0, 0) hc]
    rw [← h6, List.getElem?_take] at hx
    split at hx
    · simpa using hx
    · cases hx
theorem owned_some {w : World} {base n : Nat} {e : TypeId} {a : Option Addr} {c : Nat} {cs : List Value} (h : w.ownsRow base e 1 (.slice a n c) n cs) (hn : 0 < n) : ∃ g, a = some ⟨g, 0, none⟩ := by
  obtain ⟨h1, ⟨h2, h3⟩ | ⟨g', cap, cur, e1, _⟩⟩ := h
  · cases h2; simp at h1; omega
  · cases e1; exact ⟨g', rfl⟩
/-- What a turn leaves. -/
def TurnPost (b : Nat) (f : Int) (fs : List Bool) (w : World) (res : Except Int (List Bool)) (e : Ending) (w' : World) : Prop :=
  match res with
  | .ok g => e = .returned (.int .i64 0) ∧ IsSp w' b f g ∧ w.grownBy w' (some b)
  | .error x => e = .returned (.int .i64 x) ∧ IsSp w' b f fs ∧ Below w.heap.size w w'
theorem bools_set (l : List Bool) (i : Nat) (c : Bool) : bools (l.set i c) = (bools l).set i (.bool c) := by simp [bools, List.map_set]
set_option maxRecDepth 100000 in
set_option maxHeartbeats 4000000 in
theorem turn_any (b : Nat) (f : Int) (fs : List Bool) (tb : Bool) (v : Value) (rs : List (Int × Int)) (w : World) (h : IsSp w b f fs) (hr : Reads w 2 v rs.length (rcells rs)) (hn : rs.length ≤ 1000) (hf : -10000000 ≤ f) (hf2 : f ≤ 10000000)
    (hrs : ∀ r ∈ rs, -1000000 ≤ r.1 ∧ r.1 ≤ 1000000 ∧ r.2 ≤ 1000000) :
    Calls Try.prog 83 #[.pointer (some ⟨b, 0, none⟩), .bool tb, v] w (TurnPost b f fs w (turnTo f tb fs rs rs.length)) := by
  obtain ⟨a0, c0, rfl⟩ := hr.shape
  have H := hide h
  have R := hide hr
  have HRS := hide hrs
  obtain ⟨u, hh, hu, hl⟩ := h
  obtain ⟨a1, c1, rfl⟩ := hu.shape
  have hc1 : w.cell? ⟨b, 1, none⟩ = some (.slice a1 fs.length c1) := by rw [cell_of_row w b 1 _ _ _ hh]; rfl
  have HU := hide hu
  have HH := hide hh
  have hblt := lt_of_heap hh
  clear hr hrs hh hu
  go_enter Try.func83, Try.ntmps83
  go_wp2_with fail
  refine (clone_bool _ fs _ HU.out (by omega)).mono ?_
  rintro e1 w1 ⟨⟨a2, c2, rfl, hown1⟩, hb1⟩
  have HO1 := hide hown1
  have HB1 := hide hb1
  clear hown1 hb1
  go_wp2_with fail
  go_loopw [22, 9] (fun i _ wr => ∃ (k : Nat) (g : List Bool), k ≤ rs.length ∧ i = .int .i64 k ∧ Hid (turnTo f tb fs rs k = .ok g) ∧ wr.ownsRow w.heap.size 4 1 (.slice a2 fs.length c2) fs.length (bools g) ∧ Below w.heap.size w wr) (fun i _ _ => rs.length - (intOf i).toNat)
  case atStart => exact ⟨0, fs, by omega, rfl, hide rfl, HO1.out, HB1.out⟩
  case round =>
    obtain ⟨k, g, hk, rfl, HT, hown, hb⟩ := hrel
    clear HO1 HB1
    have HO := hide hown
    have HB := hide hb
    have hgl := hide (turnTo_length HT.out)
    clear hown hb
    by_cases hlt : k < rs.length
    · obtain ⟨br, o, c9, hv⟩ := R.out.isRow (by omega)
      cases hv
      obtain ⟨at', hat⟩ : ∃ at', Hid (rs[k].1 = at') := ⟨_, hide rfl⟩
      obtain ⟨ln, hln⟩ : ∃ ln, Hid (rs[k].2 = ln) := ⟨_, hide rfl⟩
      obtain ⟨hq1, hq2⟩ := (R.out.below HB.out).cells2 k hlt
      rw [hat.out] at hq1
      rw [hln.out] at hq2
      obtain ⟨hr1, hr2, hr3⟩ := HRS.out _ (List.getElem_mem hlt)
      rw [hat.out] at hr1 hr2
      rw [hln.out] at hr3
      have HG := hide (show rs.getD k (0, 0) = (at', ln) by rw [List.getD_eq_getElem?_getD, List.getElem?_eq_getElem hlt, ← hat.out, ← hln.out]; rfl)
      by_cases h1 : ln < 1
      · have HE := hide (turnTo_err (k := k + 1) (show turnTo f tb fs rs (k + 1) = .error 2 by rw [turnTo, HT.out]; simp only [HG.out]; rw [if_pos h1]) rs.length (by omega))
        go_wp2_with fail
        go_ret
        rw [HE.out]
        exact ⟨rfl, H.out.below HB.out |>.below ((Below.refl _ wr).alloc (Nat.le_refl _) _), HB.out.alloc HB.out.size _⟩
      · have HN := hide (show turnTo f tb fs rs (k + 1) = runTo f tb g at' ln.toNat by rw [turnTo, HT.out]; simp only [HG.out]; rw [if_neg h1])
        have hl0 : 0 ≤ ln := by omega
        obtain ⟨wo, rfl⟩ : ∃ wo : World, wo = wr := ⟨_, rfl⟩
        go_wp2_with fail
        go_loopw [31] (fun j wx => ∃ (m : Nat) (g2 : List Bool), m ≤ ln.toNat ∧ j = .int .i64 m ∧ Hid (runTo f tb g at' m = .ok g2) ∧ wx.ownsRow w.heap.size 4 1 (.slice a2 fs.length c2) fs.length (bools g2) ∧ wx.heap[wo.heap.size]? = some (.cells #[.int .i64 at', .int .i64 ln] 36 (0, 0)) ∧ Below w.heap.size w wx) (fun j _ => ln.toNat - (intOf j).toNat)
        case atStart => exact ⟨0, g, by omega, rfl, hide rfl, owned_below HO.out ((Below.refl _ wo).alloc (Nat.le_refl _) _), heap_alloc_new _ _, HB.out.alloc HB.out.size _⟩
        case round =>
          obtain ⟨m, g2, hm, rfl, HT2, hown2, hrun, hb2⟩ := hrel
          have HO2 := hide hown2
          have HRN := hide hrun
          have hk1 : wr.cell? ⟨wo.heap.size, 0, none⟩ = some (.int .i64 at') := by rw [cell_of_row wr wo.heap.size 0 _ _ _ hrun]; rfl
          have hk2 : wr.cell? ⟨wo.heap.size, 1, none⟩ = some (.int .i64 ln) := by rw [cell_of_row wr wo.heap.size 1 _ _ _ hrun]; rfl
          have hwoz := HB.out.size
          have HB2 := hide hb2
          clear hown2 hrun hb2 hq1 hq2
          have HS := hide (H.out.below HB2.out)
          have hg2l := hide ((runTo_length HT2.out).trans hgl.out)
          by_cases hml : m < ln.toNat
          · by_cases hout : at' + m < f ∨ fs.length ≤ at' + m - f
            · have HE := hide (turnTo_err (k := k + 1) (show turnTo f tb fs rs (k + 1) = .error 2 by rw [HN.out]; exact runTo_err (k := m + 1) (show runTo f tb g at' (m + 1) = .error 2 by rw [runTo, HT2.out]; simp only [stepOne]; rw [if_pos (by rw [hg2l.out]; exact hout)]) ln.toNat (by omega)) rs.length (by omega))
              have HOUT := hide hout
              clear hout
              go_wp2_with fail
              refine (place_no b f fs (at' + m) _ HS.out hf hf2 (by omega) (by omega) HOUT.out).mono ?_
              rintro e2 w2 ⟨rfl, q, rfl⟩
              go_wp2_with fail
              go_ret
              rw [HE.out]
              exact ⟨rfl, HS.out.below (below_drewN (Below.refl _ _) q), below_drewN HB2.out q⟩
            · obtain ⟨i, hi⟩ : ∃ i : Nat, at' + m - f = i := ⟨(at' + m - f).toNat, by omega⟩
              have hil : i < fs.length := by omega
              obtain ⟨gb, hgb⟩ := owned_some HO2.out (by omega)
              subst hgb
              obtain ⟨c, hc⟩ : ∃ c, Hid (g2.getD i false = c) := ⟨_, hide rfl⟩
              obtain ⟨hcell, hfz, hge⟩ := owned_cell HO2.out i (.bool c) (bools_at g2 i c (by have := hg2l.out; rw [← hc.out, List.getD_eq_getElem?_getD, List.getElem?_eq_getElem (by omega)]; rfl))
              have HI := hide hi
              have p1 : f ≤ at' + m := by omega
              have p2 : at' + m - f < fs.length := by omega
              have hnov : ¬ at' + (m : Int) < at' := by omega
              have hstep : stepOne f tb g2 (at' + m) = if c = tb then .error 17 else .ok (g2.set i tb) := by
                have h3 : (at' + (m : Int) - f).toNat = i := by rw [HI.out]; simp
                simp only [stepOne, h3, hc.out]
                rw [if_neg (by rw [hg2l.out]; omega)]
              have HST := hide hstep
              clear hstep hi
              by_cases hct : c = tb
              · have HE := hide (turnTo_err (k := k + 1) (show turnTo f tb fs rs (k + 1) = .error 17 by rw [HN.out]; exact runTo_err (k := m + 1) (show runTo f tb g at' (m + 1) = .error 17 by rw [runTo, HT2.out]; simp only [HST.out]; rw [if_pos hct]) ln.toNat (by omega)) rs.length (by omega))
                have hbe : (c == tb) = true := by simpa using hct
                clear hct
                go_wp2_with fail
                refine (place_yes b f fs (at' + m) _ HS.out hf hf2 p1 p2).mono ?_
                rintro e2 w2 ⟨rfl, q, rfl⟩
                rw [HI.out]
                go_wp2_with fail
                go_ret
                rw [HE.out]
                exact ⟨rfl, HS.out.below (below_drewN (Below.refl _ _) q), below_drewN HB2.out q⟩
              · have HR2 := hide (show runTo f tb g at' (m + 1) = .ok (g2.set i tb) by rw [runTo, HT2.out]; simp only [HST.out]; rw [if_neg hct])
                have hbe : (c == tb) = false := by simpa using hct
                clear hct
                go_wp2_with fail
                refine (place_yes b f fs (at' + m) _ HS.out hf hf2 p1 p2).mono ?_
                rintro e2 w2 ⟨rfl, q, rfl⟩
                rw [HI.out]
                go_wp2_with fail
                go_roundw
                case rel =>
                  have hne : wo.heap.size ≠ gb := by
                    intro e
                    obtain ⟨_, ⟨h5, _⟩ | ⟨g', cap, cur, e1, _, hc5, _⟩⟩ := HO2.out
                    · cases h5
                    · cases e1
                      rw [← e, HRN.out] at hc5
                      simp at hc5
                  refine ⟨m + 1, g2.set i tb, by omega, by go_num, HR2, ?_, ?_, (below_drewN HB2.out q).setCell hge _⟩
                  · rw [bools_set]
                    exact owned_set (show (wr.drewN q).ownsRow w.heap.size 4 1 (.slice (some ⟨gb, 0, none⟩) fs.length c2) fs.length (bools g2) from HO2.out) i hil
                  · rw [heap_setCell_other _ _ _ _ (by simpa using hne)]
                    exact HRN.out
                case measure => simp [intOf]; omega
          · obtain rfl : m = ln.toNat := by omega
            have hlm : ((ln.toNat : Nat) : Int) = ln := by omega
            have HLM := hide hlm
            clear hlm
            go_wp2_with fail
            go_roundw
            case rel => exact ⟨k + 1, g2, by omega, by go_num, hide (HN.out.trans HT2.out), HO2.out, HB2.out⟩
            case measure => simp [intOf]; omega
    · obtain rfl : k = rs.length := by omega
      have HH2 := hide ((HB.out.block _ hblt).trans HH.out)
      have hfz := frozen_of_row wr b 1 _ _ HH2.out
      have hcb : wr.cell? ⟨b, 1, none⟩ = some (.slice a1 fs.length c1) := by rw [cell_of_row wr b 1 _ _ _ HH2.out]; rfl
      go_wp2_with fail
      go_ret
      rw [HT.out]
      have hg3 := grown_set wr b 1 (.slice a2 fs.length c2)
      have hr3 := (Reads.owned HO.out (bools_one g) (by unfold maxLen; omega)).grown hg3 (fun j hj e => by cases hj; have := owned_ge HO.out b e; omega)
      have hgl2 := hgl.out
      exact ⟨rfl, ⟨_, heap_set_row HH2.out _, by rw [hgl2]; exact hr3, by omega, (Typed.owned HO.out _).setCell b 1 _⟩, (below_grown HB.out _).trans hg3⟩
end Go.Proofs.Ytkkfnpbbigcpbaa
