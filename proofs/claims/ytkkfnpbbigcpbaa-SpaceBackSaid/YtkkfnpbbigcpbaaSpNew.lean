/- space.New, space.Copy. -/
import Derived.Test.YtkkfnpbbigcpbaaSpMore
import Derived.Laws.OwnMore
namespace Go.Proofs.Ytkkfnpbbigcpbaa
open Go.RowKit

theorem made_bools (n : Nat) : (madeCells (Value.bool false).cells (n * 1)).toList = bools (List.replicate n false) := by
  apply List.ext_getElem
  · simp [madeCells, bools]
  · intro i h1 h2
    simp [madeCells, bools, Value.cells, Nat.mod_one]
theorem run_mkbools (n : Nat) (hn : n ≤ 4096) (w : World) : ∃ w', (Instr.makeSlice 94 (.int .i64 (n : Int)) (.int .i64 (n : Int))).run Try.prog w = .ok (.slice (some ⟨w.heap.size, 0, none⟩) n n) w' ∧
    w'.ownsRow w.heap.size 4 1 (.slice (some ⟨w.heap.size, 0, none⟩) n n) n (bools (List.replicate n false)) ∧ w.grownBy w' none := by
  obtain ⟨i0, hi, hz0, hz1, hz2⟩ := info_parts info_bool
  obtain ⟨w', h1, h2, h3⟩ := run_make_full (P := Try.prog) w w.heap.size 94 4 i0 (.bool false) 1 Try.underlying94 hi hz0 hz1 .i64 .i64 n (by rw [hz2]; omega) (by unfold maxLen; omega) (Nat.le_refl _)
  rw [made_bools] at h2
  exact ⟨w', h1, h2, h3⟩
theorem grown_below {w w' : World} (h : w.grownBy w' none) : Below w.heap.size w w' := ⟨h.os, h.tape, h.output, h.size, fun k hk => h.block k hk (by simp)⟩
/-- How many sectors a space of such bounds has. -/
def sectors (f t : Int) : Nat := if f < t then (if t - f < 4096 then (t - f).toNat else 4096) else 0
theorem sectors_le (f t : Int) : sectors f t ≤ 4096 := by unfold sectors; split <;> (try split) <;> omega
theorem fill_get (n k : Nat) (h : k < n) : (List.replicate k true ++ List.replicate (n - k) false)[k]? = some false := by
  rw [List.getElem?_append_right (by simp), List.length_replicate, Nat.sub_self, show n - k = (n - (k + 1)) + 1 by omega, List.replicate_succ]
  rfl
theorem fill_step (n k : Nat) (h : k < n) : (List.replicate k true ++ List.replicate (n - k) false).set k true = List.replicate (k + 1) true ++ List.replicate (n - (k + 1)) false := by
  rw [List.set_append_right _ _ (by simp), List.length_replicate, Nat.sub_self, List.replicate_succ', show n - k = (n - (k + 1)) + 1 by omega, List.replicate_succ, List.set_cons_zero]
  simp
set_option maxRecDepth 100000 in
set_option maxHeartbeats 2000000 in
theorem new_any (f t : Int) (w : World) (hf : (Lit.int .i64 f).wf = true) (ht : (Lit.int .i64 t).wf = true) :
    Calls Try.prog 26 #[.int .i64 f, .int .i64 t] w fun e w' => ∃ b, e = .returned (.pointer (some ⟨b, 0, none⟩)) ∧ w.heap.size ≤ b ∧ IsSp w' b f (List.replicate (sectors f t) true) ∧ Below w.heap.size w w' := by
  have hfb : -9223372036854775808 ≤ f ∧ f ≤ 9223372036854775807 := by simpa [Lit.wf, IntKind.min, IntKind.max, IntKind.signed, IntKind.bits] using hf
  have htb : -9223372036854775808 ≤ t ∧ t ≤ 9223372036854775807 := by simpa [Lit.wf, IntKind.min, IntKind.max, IntKind.signed, IntKind.bits] using ht
  obtain ⟨n, hn⟩ : ∃ n, Hid (sectors f t = n) := ⟨_, hide rfl⟩
  have hn4 : n ≤ 4096 := by rw [← hn.out]; exact sectors_le f t
  obtain ⟨w1, hmk, hown, hg⟩ := run_mkbools n hn4 w
  have HO := hide hown
  have HG := hide (grown_below hg)
  clear hf ht hown hg
  rw [hn.out]
  by_cases hlt : f < t
  · have hw : IntKind.u64.wrap (IntKind.u64.wrap t - IntKind.u64.wrap f) = t - f := by
      rw [IntKind.wrap_u64, IntKind.wrap_u64, IntKind.wrap_u64]; omega
    by_cases h4 : t - f < 4096
    · have hnt : t - f = (n : Int) := by rw [← hn.out]; unfold sectors; rw [if_pos hlt, if_pos h4]; omega
      go_enter Try.func26, Try.ntmps26
      go_wp2_with fail
      go_loopw [30, 7] (fun i _ wr => ∃ k : Nat, k ≤ n ∧ i = .int .i64 k ∧ wr.heap[w1.heap.size]? = some (.cells #[.int .i64 f, .slice (some ⟨w.heap.size, 0, none⟩) n n] 104 (0, 0)) ∧ wr.ownsRow w.heap.size 4 1 (.slice (some ⟨w.heap.size, 0, none⟩) n n) n (bools (List.replicate k true ++ List.replicate (n - k) false)) ∧ Below w.heap.size w wr) (fun i _ _ => n - (intOf i).toNat)
      case atStart => exact ⟨0, by omega, rfl, heap_alloc_new _ _, owned_below (by simpa using HO.out) ((Below.refl _ w1).alloc (Nat.le_refl _) _), HG.out.alloc HG.out.size _⟩
      case round =>
        obtain ⟨k, hk, rfl, hbs, hown, hb⟩ := hrel
        have HS := hide hbs
        have HO2 := hide hown
        have HB := hide hb
        have hc1 : wr.cell? ⟨w1.heap.size, 1, none⟩ = some (.slice (some ⟨w.heap.size, 0, none⟩) n n) := by rw [cell_of_row wr w1.heap.size 1 _ _ _ hbs]; rfl
        clear hbs hown hb hmk
        by_cases hkn : k < n
        · obtain ⟨hcell, hfz, hge⟩ := owned_cell HO2.out k (.bool false) (bools_at _ k false (fill_get n k hkn))
          have HST := hide (fill_step n k hkn)
          have hne : w1.heap.size ≠ w.heap.size := by
            intro e
            obtain ⟨_, ⟨h5, _⟩ | ⟨g', cap, cur, e1, _, hc5, _⟩⟩ := HO2.out
            · cases h5
            · cases e1
              rw [← e, HS.out] at hc5
              simp at hc5
          have HNE := hide hne
          clear hne
          go_wp2_with fail
          go_roundw
          case rel =>
            refine ⟨k + 1, by omega, by go_num, ?_, ?_, HB.out.setCell (Nat.le_refl _) _⟩
            · rw [heap_setCell_other _ _ _ _ (by simpa using HNE.out)]
              exact HS.out
            · rw [← HST.out, bools_set]
              exact owned_set HO2.out k hkn
          case measure => simp [intOf]; omega
        · obtain rfl : k = n := by omega
          go_wp2_with fail
          go_ret
          have hz := HG.out.size
          have h5 := HO2.out
          rw [Nat.sub_self, List.replicate_zero, List.append_nil] at h5
          refine ⟨_, rfl, hz, ⟨_, HS.out, ?_, by simp <;> omega, Typed.owned h5 _⟩, HB.out⟩
          have h6 := Reads.owned h5 (bools_one _) (by unfold maxLen; omega)
          simpa using h6
    · have hn2 : n = 4096 := hn.out.symm.trans (by unfold sectors; rw [if_pos hlt, if_neg h4])
      subst hn2
      rw [show ((4096 : Nat) : Int) = 4096 from rfl] at hmk
      go_enter Try.func26, Try.ntmps26
      go_wp2_with fail
      go_loopw [30, 7] (fun i _ wr => ∃ k : Nat, k ≤ 4096 ∧ i = .int .i64 k ∧ wr.heap[w1.heap.size]? = some (.cells #[.int .i64 f, .slice (some ⟨w.heap.size, 0, none⟩) 4096 4096] 104 (0, 0)) ∧ wr.ownsRow w.heap.size 4 1 (.slice (some ⟨w.heap.size, 0, none⟩) 4096 4096) 4096 (bools (List.replicate k true ++ List.replicate (4096 - k) false)) ∧ Below w.heap.size w wr) (fun i _ _ => 4096 - (intOf i).toNat)
      case atStart => exact ⟨0, by omega, rfl, heap_alloc_new _ _, owned_below (by simpa using HO.out) ((Below.refl _ w1).alloc (Nat.le_refl _) _), HG.out.alloc HG.out.size _⟩
      case round =>
        obtain ⟨k, hk, rfl, hbs, hown, hb⟩ := hrel
        have HS := hide hbs
        have HO2 := hide hown
        have HB := hide hb
        have hc1 : wr.cell? ⟨w1.heap.size, 1, none⟩ = some (.slice (some ⟨w.heap.size, 0, none⟩) 4096 4096) := by rw [cell_of_row wr w1.heap.size 1 _ _ _ hbs]; rfl
        clear hbs hown hb hmk
        by_cases hkn : k < 4096
        · obtain ⟨hcell, hfz, hge⟩ := owned_cell HO2.out k (.bool false) (bools_at _ k false (fill_get 4096 k hkn))
          have HST := hide (fill_step 4096 k hkn)
          have hne : w1.heap.size ≠ w.heap.size := by
            intro e
            obtain ⟨_, ⟨h5, _⟩ | ⟨g', cap, cur, e1, _, hc5, _⟩⟩ := HO2.out
            · cases h5
            · cases e1
              rw [← e, HS.out] at hc5
              simp at hc5
          have HNE := hide hne
          clear hne
          go_wp2_with fail
          go_roundw
          case rel =>
            refine ⟨k + 1, by omega, by go_num, ?_, ?_, HB.out.setCell (Nat.le_refl _) _⟩
            · rw [heap_setCell_other _ _ _ _ (by simpa using HNE.out)]
              exact HS.out
            · rw [← HST.out, bools_set]
              exact owned_set HO2.out k hkn
          case measure => simp [intOf]; omega
        · obtain rfl : k = 4096 := by omega
          go_wp2_with fail
          go_ret
          have hz := HG.out.size
          have h5 := HO2.out
          rw [Nat.sub_self, List.replicate_zero, List.append_nil] at h5
          refine ⟨_, rfl, hz, ⟨_, HS.out, ?_, by simp <;> omega, Typed.owned h5 _⟩, HB.out⟩
          have h6 := Reads.owned h5 (bools_one _) (by unfold maxLen; omega)
          simpa using h6
  · have hn2 : n = 0 := hn.out.symm.trans (by unfold sectors; rw [if_neg hlt])
    subst hn2
    rw [show ((0 : Nat) : Int) = 0 from rfl] at hmk
    go_enter Try.func26, Try.ntmps26
    go_wp2_with fail
    go_loopw [30, 7] (fun i _ wr => i = .int .i64 0 ∧ wr.heap[w1.heap.size]? = some (.cells #[.int .i64 f, .slice (some ⟨w.heap.size, 0, none⟩) 0 0] 104 (0, 0)) ∧ Below w.heap.size w wr) (fun i _ _ => 0 - (intOf i).toNat)
    case atStart => exact ⟨rfl, heap_alloc_new _ _, HG.out.alloc HG.out.size _⟩
    case round =>
      obtain ⟨rfl, hbs, hb⟩ := hrel
      have HS := hide hbs
      have HB := hide hb
      clear hbs hb hmk
      go_wp2_with fail
      go_ret
      exact ⟨_, rfl, HG.out.size, ⟨_, HS.out, ⟨rfl, by simp [bools], by simp [maxLen], .inr ⟨_, _, _, rfl, by simp, by simp [maxLen], by simp [bools]⟩⟩, by simp, fun h => by simp at h⟩, HB.out⟩
end Go.Proofs.Ytkkfnpbbigcpbaa
