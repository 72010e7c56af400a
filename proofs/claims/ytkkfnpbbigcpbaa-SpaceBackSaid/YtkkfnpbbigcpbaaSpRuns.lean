/- space.Runs: the iterator over a space's runs. -/
import Derived.RangeFuncNested
import Derived.RangeFuncBound
import Derived.RangeFuncCalls
import Derived.RangeFuncLeaves
import Derived.Shelf.Abstract
import Derived.Shelf.RegionOpen
import Derived.OwnWalkIn
import Derived.TacticsInMore
import Derived.LoopNIn
import Derived.LoopIn
import Derived.Test.YtkkfnpbbigcpbaaSpNew
namespace Go.Proofs.Ytkkfnpbbigcpbaa
open Go.RowKit Go.Shelf
attribute [local go_sem] Oper.semAt_some

/-- What lay below n but for X lies on. -/
def Keep (n : Nat) (X : Nat → Prop) (A B : World) : Prop := ∀ k, k < n → ¬ X k → B.heap[k]? = A.heap[k]?
theorem Keep.refl (n : Nat) (X : Nat → Prop) (A : World) : Keep n X A A := fun _ _ _ => rfl
theorem Keep.trans {n : Nat} {X : Nat → Prop} {A B C : World} (h : Keep n X A B) (k : Keep n X B C) : Keep n X A C := fun i h1 h2 => (k i h1 h2).trans (h i h1 h2)
theorem Keep.put {n : Nat} {X : Nat → Prop} {w : World} (hn : n ≤ w.heap.size) (W : World) (l : Nat) (o o' : Obj) (hl : w.heap.size ≤ l) (_ : W.heap[l]? = some o) (_ : o.isCells = false) (_ : o.isWalk = false) : Keep n X W (W.putObj l o') := by
  intro k hk _
  show (W.heap.setIfInBounds l o')[k]? = _
  rw [Array.getElem?_setIfInBounds, if_neg (by omega)]
theorem IsSp.keep {w w' : World} {b : Nat} {f : Int} {fs : List Bool} (h : IsSp w b f fs) (hk : ∀ k, k < w.heap.size → w'.heap[k]? = w.heap[k]?) : IsSp w' b f fs := by
  have hl := h.lt
  obtain ⟨v, h1, ⟨h2, h3, h4, h5⟩, h6⟩ := h
  refine ⟨v, (hk b hl).trans h1, ⟨h2, h3, h4, ?_⟩, h6.1, fun h0 k hk' => (h6.2 h0 k hk').imp fun _ h => (hk k (lt_of_heap h)).trans h⟩
  rcases h5 with h5 | ⟨b', o, c, e, hc, hm, h5⟩
  · exact .inl h5
  · refine .inr ⟨b', o, c, e, hc, hm, fun j u hj => ?_⟩
    have := h5 j u hj
    rw [World.cell?_of_block (a := ⟨b', o + j, none⟩) (hk b' (block_lt_of_cell this))]
    exact this
/-- A run of fs. -/
abbrev RunOf (fs : List Bool) := { r : Nat × Nat // r ∈ runsAt fs 0 }
/-- A run as it is handed over. -/
def encRun (f : Int) (fs : List Bool) (r : RunOf fs) : Array Value := #[.agg #[.int .i64 (f + (r.1.1 : Int)), .int .i64 (r.1.2 : Int)]]
def allRuns (fs : List Bool) : List (RunOf fs) := (runsAt fs 0).attach
theorem allRuns_map (fs : List Bool) : (allRuns fs).map Subtype.val = runsAt fs 0 := List.attach_map_subtype_val _
set_option maxRecDepth 100000 in
set_option maxHeartbeats 4000000 in
theorem runs1_in (n : Nat) (hn : 1 ≤ n) (l Bn n₀ : Nat) (X : Nat → Prop) (b : Nat) (f : Int) (fs : List Bool) (J Jx : List (RunOf fs) → World → Prop) (hf : -9223372036854775808 ≤ f) (hf2 : f + fs.length ≤ 9223372036854775807)
    (hY : ∀ pre x W, J pre W → pre.length < fs.length + 1 → YieldAt Fence.wide (n - 1) Try.prog l (encRun f fs x) W fun e W' =>
      (e = .returned (.bool true) ∧ J (pre ++ [x]) W' ∧ Keep n₀ X W W') ∨ (e = .returned (.bool false) ∧ Jx (pre ++ [x]) W'))
    (w0 : World) (hS : IsSp w0 b f fs) (hX : ∀ k, X k → w0.heap.size ≤ k) (h0n : w0.heap.size ≤ n₀) (hBn : Bn < n₀) (hXB : ¬ X Bn)
    (W : World) (hW0 : ∀ k, k < w0.heap.size → W.heap[k]? = w0.heap[k]?) (hbox : W.heap[Bn]? = some (.cells #[.pointer (some ⟨b, 0, none⟩)] 33 (0, 0))) (h0 : J [] W) :
    CallsIn Fence.wide n Try.prog 84 #[.func (.yield l) #[] #[], .pointer (some ⟨Bn, 0, none⟩)] W fun e W' => (∃ v, e = .returned v) ∧
      ((∃ ys, ys = allRuns fs ∧ J ys W') ∨ (∃ pre, pre <+: allRuns fs ∧ Jx pre W')) := by
  have HS := hide hS
  have HX := hide hX
  have HW0 := hide hW0
  have HBX := hide hbox
  have HXB := hide hXB
  have hl4 : fs.length ≤ 4096 := by obtain ⟨_, _, _, h⟩ := hS; exact h.1
  have hcB := one_cell hbox
  clear hS hX hW0 hbox hXB
  refine callsIn_of_wp Try.func84 rfl trivial ?_ rfl
  simp only [Try.ntmps84, List.size_toArray, List.length_cons, List.length_nil, Nat.reduceAdd, Nat.reduceSub, Array.replicate_succ, Array.replicate_zero, List.push_toArray, List.append_toArray, List.nil_append, List.cons_append]
  gi_wp2
  gi_loopw [3, 4] (fun i _ wr => ∃ (k : Nat) (pre rest : List (RunOf fs)), k ≤ fs.length + 1 ∧ i = .int .i64 k ∧ Hid (allRuns fs = pre ++ rest ∧ rest.map Subtype.val = runsAt fs k) ∧ J pre wr ∧ Keep n₀ X W wr) (fun i _ _ => fs.length + 1 - (intOf i).toNat)
  case atStart => exact ⟨0, [], allRuns fs, by omega, rfl, hide ⟨rfl, allRuns_map fs⟩, h0, Keep.refl _ _ _⟩
  case round =>
    obtain ⟨k, pre, rest, hk, rfl, HP, hJ, hkp⟩ := hrel
    have HJ := hide hJ
    have HKP := hide hkp
    have hsp : IsSp wr b f fs := HS.out.keep (fun i hi => (hkp i (by omega) (fun h => by have := HX.out i h; omega)).trans (HW0.out i hi))
    have hbx := (hkp Bn hBn HXB.out).trans HBX.out
    have hcB := one_cell hbx
    clear hJ hkp hcB
    have hcB := one_cell hbx
    obtain ⟨v, hh, hrd, _⟩ := hsp
    obtain ⟨av, cv, rfl⟩ := hrd.shape
    have hc0 : wr.cell? ⟨b, 0, none⟩ = some (.int .i64 f) := by rw [cell_of_row wr b 0 _ _ _ hh]; rfl
    have hc1 : wr.cell? ⟨b, 1, none⟩ = some (.slice av fs.length cv) := by rw [cell_of_row wr b 1 _ _ _ hh]; rfl
    have HRD := hide hrd
    clear hh hrd hbx
    by_cases hlt : k < fs.length
    · obtain ⟨bv, o, c9, hv⟩ := HRD.out.isRow (by omega)
      cases hv
      obtain ⟨wo, rfl⟩ : ∃ wo : World, wo = wr := ⟨_, rfl⟩
      gi_wp2
      gi_loop [4] (fun m => ∃ j : Nat, j ≤ runLen fs k ∧ m = .int .i64 ((k : Int) + (j : Int))) (fun m => fs.length + 1 - (intOf m).toNat)
      case atStart => exact ⟨0, by omega, by simp⟩
      case round =>
        obtain ⟨j, hj, rfl⟩ := hrel
        have hle := runLen_le fs k (by omega)
        by_cases hlt2 : k + j < fs.length
        · obtain ⟨c, hc⟩ : ∃ c, Hid (fs[k + j]? = some c) := ⟨_, hide (List.getElem?_eq_getElem hlt2)⟩
          have hcell := HRD.out.cellAt (k + j) (.bool c) (bools_at fs _ c hc.out)
          have hlt3 : (k : Int) + (j : Int) < (fs.length : Int) := by omega
          cases c
          · have hjr := hide (runLen_done fs k j hj hc.out)
            by_cases hj0 : j = 0
            · have HJ0 := hide (show runsAt fs k = runsAt fs (k + j + 1) by rw [runsAt_step fs k hlt, ← hjr.out, if_pos hj0]; rfl)
              have hng : ¬ (k : Int) < (k : Int) + (j : Int) := by omega
              clear hj0
              gi_wp2
              (try refine ⟨fun _ h => (by cases h), ?_⟩)
              gi_wp2
              go_roundw
              case rel =>
                refine ⟨k + j + 1, pre, rest, by omega, by go_num, hide ⟨HP.out.1, ?_⟩, HJ.out, HKP.out⟩
                rw [HP.out.2, HJ0.out]
              case measure => simp [intOf]; omega
            · have hst : runsAt fs k = (k, j) :: runsAt fs (k + j + 1) := by rw [runsAt_step fs k hlt, ← hjr.out, if_neg hj0]; rfl
              obtain ⟨x, rest', hx⟩ : ∃ x rest', Hid (rest = x :: rest' ∧ x.1 = (k, j) ∧ rest'.map Subtype.val = runsAt fs (k + j + 1)) := by
                have h2 := HP.out.2
                rw [hst] at h2
                cases rest with
                | nil => simp at h2
                | cons x rest' =>
                  simp only [List.map_cons, List.cons.injEq] at h2
                  exact ⟨x, rest', hide ⟨rfl, h2.1, h2.2⟩⟩
              have hpl : pre.length < fs.length + 1 := by
                have h1 := congrArg List.length HP.out.1
                rw [allRuns, List.length_attach, List.length_append] at h1
                have := runs_len fs
                omega
              obtain ⟨fn, tmps, assign, body, hy, hR⟩ := hY pre x wo HJ.out hpl
              have hy2 : (Instr.yield l #[.agg #[.int .i64 (f + (k : Int)), .int .i64 (j : Int)]]).run Try.prog wo = .ok (.round l fn tmps assign body) wo := by
                have h3 := hy
                unfold encRun at h3
                rw [hx.out.2.1] at h3
                exact h3
              have HR := hide hR
              clear hst hy hR hpl
              have hsub : (k : Int) + (j : Int) - (k : Int) = (j : Int) := by omega
              have hjp : (k : Int) < (k : Int) + (j : Int) := by omega
              gi_wp2
              refine HR.out.mono ?_
              rintro e W3 (⟨rfl, hJ3, hk3⟩ | ⟨rfl, hJx3⟩)
              · have HJ3 := hide hJ3
                have HK3 := hide (HKP.out.trans hk3)
                clear hJ3 hk3
                gi_wp2
                go_roundw
                case rel =>
                  refine ⟨k + j + 1, pre ++ [x], rest', by omega, by go_num, hide ⟨?_, hx.out.2.2⟩, HJ3.out, HK3.out⟩
                  rw [HP.out.1, hx.out.1]; simp
                case measure => simp [intOf]; omega
              · gi_wp2
                refine bodyPost_ret (results_none rfl _ _ _) rfl ?_
                refine ⟨⟨_, rfl⟩, .inr ⟨pre ++ [x], ⟨rest', ?_⟩, hJx3⟩⟩
                rw [HP.out.1, hx.out.1]; simp
          · have hjr := runLen_next fs k j hj hc.out
            gi_wp2
            go_round
            case rel => exact ⟨j + 1, hjr, by go_num⟩
            case measure => simp [intOf]; omega
        · have hjr := hide (show j = runLen fs k by omega)
          by_cases hj0 : j = 0
          · exfalso; omega
          · have hst : runsAt fs k = (k, j) :: runsAt fs (k + j + 1) := by rw [runsAt_step fs k hlt, ← hjr.out, if_neg hj0]; rfl
            obtain ⟨x, rest', hx⟩ : ∃ x rest', Hid (rest = x :: rest' ∧ x.1 = (k, j) ∧ rest'.map Subtype.val = runsAt fs (k + j + 1)) := by
              have h2 := HP.out.2
              rw [hst] at h2
              cases rest with
              | nil => simp at h2
              | cons x rest' =>
                simp only [List.map_cons, List.cons.injEq] at h2
                exact ⟨x, rest', hide ⟨rfl, h2.1, h2.2⟩⟩
            have hpl : pre.length < fs.length + 1 := by
              have h1 := congrArg List.length HP.out.1
              rw [allRuns, List.length_attach, List.length_append] at h1
              have := runs_len fs
              omega
            obtain ⟨fn, tmps, assign, body, hy, hR⟩ := hY pre x wo HJ.out hpl
            have hy2 : (Instr.yield l #[.agg #[.int .i64 (f + (k : Int)), .int .i64 (j : Int)]]).run Try.prog wo = .ok (.round l fn tmps assign body) wo := by
              have h3 := hy
              unfold encRun at h3
              rw [hx.out.2.1] at h3
              exact h3
            have HR := hide hR
            clear hst hy hR hpl
            have hsub : (k : Int) + (j : Int) - (k : Int) = (j : Int) := by omega
            have hjp : (k : Int) < (k : Int) + (j : Int) := by omega
            gi_wp2
            refine HR.out.mono ?_
            rintro e W3 (⟨rfl, hJ3, hk3⟩ | ⟨rfl, hJx3⟩)
            · have HJ3 := hide hJ3
              have HK3 := hide (HKP.out.trans hk3)
              clear hJ3 hk3
              gi_wp2
              go_roundw
              case rel =>
                refine ⟨k + j + 1, pre ++ [x], rest', by omega, by go_num, hide ⟨?_, hx.out.2.2⟩, HJ3.out, HK3.out⟩
                rw [HP.out.1, hx.out.1]; simp
              case measure => simp [intOf]; omega
            · gi_wp2
              refine bodyPost_ret (results_none rfl _ _ _) rfl ?_
              refine ⟨⟨_, rfl⟩, .inr ⟨pre ++ [x], ⟨rest', ?_⟩, hJx3⟩⟩
              rw [HP.out.1, hx.out.1]; simp
    · gi_wp2
      go_end0
      exact ⟨⟨_, rfl⟩, .inl ⟨pre, by have h1 := HP.out.1; have h2 := HP.out.2; rw [runsAt_end fs k (by omega)] at h2; simp at h2; rw [h1, h2, List.append_nil], HJ.out⟩⟩
end Go.Proofs.Ytkkfnpbbigcpbaa
