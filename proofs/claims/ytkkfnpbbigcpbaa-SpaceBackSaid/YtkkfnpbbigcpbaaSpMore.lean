/- Package space: Claim, Give, Is, Copy, New. -/
import Derived.Test.YtkkfnpbbigcpbaaSpTurn
namespace Go.Proofs.Ytkkfnpbbigcpbaa
open Go.RowKit

set_option maxHeartbeats 400000 in
theorem claim_any (b : Nat) (f : Int) (fs : List Bool) (v : Value) (rs : List (Int × Int)) (w : World) (h : IsSp w b f fs) (hr : Reads w 2 v rs.length (rcells rs)) (hn : rs.length ≤ 1000) (hf : -10000000 ≤ f) (hf2 : f ≤ 10000000)
    (hrs : ∀ r ∈ rs, -1000000 ≤ r.1 ∧ r.1 ≤ 1000000 ∧ r.2 ≤ 1000000) :
    Calls Try.prog 27 #[.pointer (some ⟨b, 0, none⟩), v] w (TurnPost b f fs w (turnTo f false fs rs rs.length)) := by
  have HC := hide (turn_any b f fs false v rs w h hr hn hf hf2 hrs)
  clear h hr hrs
  go_enter Try.func27, Try.ntmps27
  go_wp2_with fail
  refine HC.out.mono ?_
  intro e w' hp
  cases hres : turnTo f false fs rs rs.length with
  | ok g =>
    have HRES := hide hres
    unfold TurnPost at hp
    simp only [hres] at hp
    obtain ⟨rfl, h1, h2⟩ := hp
    have H1 := hide h1
    have H2 := hide h2
    clear h1 h2 hres
    go_wp2_with fail
    go_ret
    unfold TurnPost
    rw [HRES.out]
    exact ⟨rfl, H1.out, H2.out⟩
  | error x =>
    have HRES := hide hres
    unfold TurnPost at hp
    simp only [hres] at hp
    obtain ⟨rfl, h1, h2⟩ := hp
    have H1 := hide h1
    have H2 := hide h2
    clear h1 h2 hres
    go_wp2_with fail
    go_ret
    unfold TurnPost
    rw [HRES.out]
    exact ⟨rfl, H1.out, H2.out⟩
set_option maxHeartbeats 400000 in
theorem give_any (b : Nat) (f : Int) (fs : List Bool) (v : Value) (rs : List (Int × Int)) (w : World) (h : IsSp w b f fs) (hr : Reads w 2 v rs.length (rcells rs)) (hn : rs.length ≤ 1000) (hf : -10000000 ≤ f) (hf2 : f ≤ 10000000)
    (hrs : ∀ r ∈ rs, -1000000 ≤ r.1 ∧ r.1 ≤ 1000000 ∧ r.2 ≤ 1000000) :
    Calls Try.prog 33 #[.pointer (some ⟨b, 0, none⟩), v] w (TurnPost b f fs w (turnTo f true fs rs rs.length)) := by
  have HC := hide (turn_any b f fs true v rs w h hr hn hf hf2 hrs)
  clear h hr hrs
  go_enter Try.func33, Try.ntmps33
  go_wp2_with fail
  refine HC.out.mono ?_
  intro e w' hp
  cases hres : turnTo f true fs rs rs.length with
  | ok g =>
    have HRES := hide hres
    unfold TurnPost at hp
    simp only [hres] at hp
    obtain ⟨rfl, h1, h2⟩ := hp
    have H1 := hide h1
    have H2 := hide h2
    clear h1 h2 hres
    go_wp2_with fail
    go_ret
    unfold TurnPost
    rw [HRES.out]
    exact ⟨rfl, H1.out, H2.out⟩
  | error x =>
    have HRES := hide hres
    unfold TurnPost at hp
    simp only [hres] at hp
    obtain ⟨rfl, h1, h2⟩ := hp
    have H1 := hide h1
    have H2 := hide h2
    clear h1 h2 hres
    go_wp2_with fail
    go_ret
    unfold TurnPost
    rw [HRES.out]
    exact ⟨rfl, H1.out, H2.out⟩
theorem turn_nil (tb : Bool) (v : Value) (w : World) : Calls Try.prog 83 #[.pointer none, .bool tb, v] w fun e w' => e = .returned (.int .i64 1) ∧ w = w' := by
  go_enter Try.func83, Try.ntmps83
  go_wp2_with fail
  go_ret
  exact ⟨rfl, rfl⟩
theorem claim_nil (v : Value) (w : World) : Calls Try.prog 27 #[.pointer none, v] w fun e w' => e = .returned (.int .i64 1) ∧ w = w' := by
  go_enter Try.func27, Try.ntmps27
  go_wp2_with (go_at_call 83; refine (turn_nil _ _ _).mono ?_; rintro e w' ⟨rfl, rfl⟩)
  go_ret
  exact ⟨rfl, rfl⟩
theorem give_nil (v : Value) (w : World) : Calls Try.prog 33 #[.pointer none, v] w fun e w' => e = .returned (.int .i64 1) ∧ w = w' := by
  go_enter Try.func33, Try.ntmps33
  go_wp2_with (go_at_call 83; refine (turn_nil _ _ _).mono ?_; rintro e w' ⟨rfl, rfl⟩)
  go_ret
  exact ⟨rfl, rfl⟩
theorem copy_nil (w : World) : Calls Try.prog 31 #[.pointer none] w fun e w' => e = .returned (.pointer none) ∧ w = w' := by
  go_enter Try.func31, Try.ntmps31
  go_wp2_with fail
  go_ret
  exact ⟨rfl, rfl⟩
theorem is_nil (at' : Int) (w : World) : Calls Try.prog 30 #[.pointer none, .int .i64 at'] w fun e w' => e = .returned (.bool false) ∧ ∃ q, w' = w.drewN q := by
  go_enter Try.func30, Try.ntmps30
  go_wp2_with (go_at_call 85; refine (place_nil _ _).mono ?_; rintro e w' ⟨rfl, q, rfl⟩)
  go_ret
  exact ⟨rfl, _, rfl⟩
set_option maxHeartbeats 400000 in
theorem is_any (b : Nat) (f : Int) (fs : List Bool) (at' : Int) (w : World) (h : IsSp w b f fs) (hf : -10000000 ≤ f) (hf2 : f ≤ 10000000) (ha : -9223372036854775808 ≤ at') (ha2 : at' ≤ 9223372036854775807) :
    Calls Try.prog 30 #[.pointer (some ⟨b, 0, none⟩), .int .i64 at'] w fun e w' => e = .returned (.bool (decide (f ≤ at' ∧ at' - f < fs.length) && fs.getD (at' - f).toNat false)) ∧ ∃ q, w' = w.drewN q := by
  have H := hide h
  obtain ⟨v, hh, hr, hl⟩ := h
  by_cases hin : f ≤ at' ∧ at' - f < fs.length
  · obtain ⟨i, hi⟩ : ∃ i : Nat, at' - f = i := ⟨(at' - f).toNat, by omega⟩
    have hil : i < fs.length := by omega
    obtain ⟨bb, o, c0, rfl⟩ := hr.isRow (by omega)
    obtain ⟨c, hc⟩ : ∃ c, Hid (fs.getD i false = c) := ⟨_, hide rfl⟩
    have hcell := hr.cellAt i (.bool c) (bools_at fs i c (by rw [← hc.out, List.getD_eq_getElem?_getD, List.getElem?_eq_getElem hil]; rfl))
    have hc1 : w.cell? ⟨b, 1, none⟩ = some (.slice (some ⟨bb, o, none⟩) fs.length c0) := by rw [cell_of_row w b 1 _ _ _ hh]; rfl
    have HR := hide (show (decide (f ≤ at' ∧ at' - f < fs.length) && fs.getD (at' - f).toNat false) = c by
      rw [decide_eq_true hin, Bool.true_and, hi]; exact hc.out)
    have HI := hide hi
    obtain ⟨p1, p2⟩ := hin
    clear hh hr hi
    go_enter Try.func30, Try.ntmps30
    go_wp2_with fail
    refine (place_yes b f fs at' _ H.out hf hf2 p1 p2).mono ?_
    rintro e2 w2 ⟨rfl, q, rfl⟩
    rw [HI.out]
    go_wp2_with fail
    go_ret
    exact ⟨ret_bool HR.out.symm, _, rfl⟩
  · have HR := hide (show (decide (f ≤ at' ∧ at' - f < fs.length) && fs.getD (at' - f).toNat false) = false by
      rw [decide_eq_false hin, Bool.false_and])
    have hout : at' < f ∨ fs.length ≤ at' - f := by omega
    have HOUT := hide hout
    clear hh hr hin hout
    go_enter Try.func30, Try.ntmps30
    go_wp2_with fail
    refine (place_no b f fs at' _ H.out hf hf2 ha ha2 HOUT.out).mono ?_
    rintro e2 w2 ⟨rfl, q, rfl⟩
    go_wp2_with fail
    go_ret
    exact ⟨ret_bool HR.out.symm, _, rfl⟩
end Go.Proofs.Ytkkfnpbbigcpbaa
