/- wire.high: a number in four bytes, and in eight. -/
import Derived.Test.YtjmbnfcjambdkaaWireBe
import Derived.Test.YtjmbnfcjambdkaaDig
import Derived.Laws.IdiomStrings
namespace Go.Proofs.Ytjmbnfcjambdkaa
open Go.RowKit

theorem u8s_length (l : List UInt8) : (u8s l).length = l.length := by simp [u8s]
theorem laidBe_length (k n i : Nat) (h : i ≤ k) : (laidBe k n i).length = k := by simp [laidBe, be_length]; omega
theorem cell_of_row_lt {w : World} {b : Nat} {cs : Array Value} {T : TypeId} {fr : Nat × Nat} (h : w.heap[b]? = some (.cells cs T fr)) (j : Nat) (hj : j < cs.size) : w.cell? ⟨b, j, none⟩ = some cs[j] := by
  rw [cell_of_row w b j cs T fr h]; simp [hj]
theorem heap_set_row {w : World} {b j : Nat} {cs : Array Value} {T : TypeId} (h : w.heap[b]? = some (.cells cs T (0, 0))) (v : Value) : (w.setCell ⟨b, j, none⟩ v).heap[b]? = some (.cells (cs.setIfInBounds j v) T (0, 0)) := by
  simp [World.setCell, Array.getElem?_modify, h]
theorem byte_at (n k : Nat) : ((n : Int) / 2 ^ (8 * k) % 256) = ((UInt8.ofNat (n / 256 ^ k)).toNat : Int) := by
  have h : ((2 : Int) ^ (8 * k)) = ((256 ^ k : Nat) : Int) := by rw [show (256 : Nat) = 2 ^ 8 from rfl, ← Nat.pow_mul]; simp
  rw [h]
  simp only [UInt8.toNat_ofNat']
  omega
theorem u8s_set (K n k : Nat) (h : k < K) : ((u8s (laidBe K n k)).toArray.setIfInBounds (K - 1 - k) (.int .u8 ((n : Int) / 2 ^ (8 * k) % 256))) = (u8s (laidBe K n (k + 1))).toArray := by
  rw [byte_at, ← laidBe_set K n k h]
  simp [u8s]
theorem run_bytes_row {w : World} {b : Nat} {l : List UInt8} {T : TypeId} {fr : Nat × Nat} (h : w.heap[b]? = some (.cells (u8s l).toArray T fr)) (n : Nat) (hn : l.length = n) :
    (convert 94 9 (.slice (some ⟨b, 0, none⟩) n n)).run Try.prog w = .ok (.string ⟨l.toArray⟩) w := by
  subst hn
  refine run_convert_bytes_back (P := Try.prog) w 94 9 5 ⟨b, 0, none⟩ _ l Try.underlying94 Try.underlying5 Try.underlying9 ?_
  intro j hj
  rw [Addr.add_lit, cell_of_row w b _ _ T fr h]
  simp [u8s, hj]

set_option maxRecDepth 20000 in
set_option maxHeartbeats 400000 in
theorem high4 (n : Nat) (w : World) :
    Calls Try.prog 91 #[.int .u64 (n : Int), .int .i64 4] w fun e w' => e = .returned (.string ⟨(be 4 n).toArray⟩) ∧ Below w.heap.size w w' := by
  have hmk : ∀ w' : World, (Instr.makeSlice 94 (.int .i64 4) (.int .i64 4)).run Try.prog w' = .ok (.slice (some ⟨w'.heap.size, 0, none⟩) 4 4) (w'.alloc (.cells #[.int .u8 0, .int .u8 0, .int .u8 0, .int .u8 0] 5)) := fun _ => by kernel_rfl
  go_enter Try.func91, Try.ntmps91
  go_wp2
  go_loopw [11, 6] (fun i _ wr => ∃ k : Nat, k ≤ 4 ∧ i = .int .i64 k ∧ wr.heap[w.heap.size]? = some (.cells (u8s (laidBe 4 n k)).toArray 5 (0, 0)) ∧ Below w.heap.size w wr) (fun i _ _ => 4 - (intOf i).toNat)
  case atStart => exact ⟨0, by omega, rfl, heap_alloc_new _ _, (Below.refl _ w).alloc (Nat.le_refl _) _⟩
  case round =>
    obtain ⟨k, hk, rfl, hr, hb⟩ := hrel
    have HR := hide hr
    clear hr
    by_cases hlt : k < 4
    · have hfz := fun o => frozen_of_row wr w.heap.size o _ _ HR.out
      have hcell := cell_of_row_lt HR.out (4-1 - k) (by rw [List.size_toArray, u8s_length, laidBe_length 4 n k hk]; omega)
      have HC := hide hlt
      go_wp2_with fail
      go_roundw
      case rel => exact ⟨k + 1, by omega, by go_num, by rw [heap_set_row HR.out]; rw [u8s_set 4 n k HC.out], hb.setCell (Nat.le_refl _) _⟩
      case measure => simp [intOf]; omega
    · obtain rfl : k = 4 := by omega
      have hcv := run_bytes_row (w := wr) HR.out 4 (by rw [laidBe_length 4 n 4 (by omega)])
      rw [laidBe_full] at hcv
      go_wp2_with fail
      go_ret
      exact ⟨rfl, hb⟩

set_option maxRecDepth 20000 in
set_option maxHeartbeats 400000 in
theorem high8 (n : Nat) (w : World) :
    Calls Try.prog 91 #[.int .u64 (n : Int), .int .i64 8] w fun e w' => e = .returned (.string ⟨(be 8 n).toArray⟩) ∧ Below w.heap.size w w' := by
  have hmk : ∀ w' : World, (Instr.makeSlice 94 (.int .i64 8) (.int .i64 8)).run Try.prog w' = .ok (.slice (some ⟨w'.heap.size, 0, none⟩) 8 8) (w'.alloc (.cells #[.int .u8 0, .int .u8 0, .int .u8 0, .int .u8 0, .int .u8 0, .int .u8 0, .int .u8 0, .int .u8 0] 5)) := fun _ => by kernel_rfl
  go_enter Try.func91, Try.ntmps91
  go_wp2
  go_loopw [11, 6] (fun i _ wr => ∃ k : Nat, k ≤ 8 ∧ i = .int .i64 k ∧ wr.heap[w.heap.size]? = some (.cells (u8s (laidBe 8 n k)).toArray 5 (0, 0)) ∧ Below w.heap.size w wr) (fun i _ _ => 8 - (intOf i).toNat)
  case atStart => exact ⟨0, by omega, rfl, heap_alloc_new _ _, (Below.refl _ w).alloc (Nat.le_refl _) _⟩
  case round =>
    obtain ⟨k, hk, rfl, hr, hb⟩ := hrel
    have HR := hide hr
    clear hr
    by_cases hlt : k < 8
    · have hfz := fun o => frozen_of_row wr w.heap.size o _ _ HR.out
      have hcell := cell_of_row_lt HR.out (8-1 - k) (by rw [List.size_toArray, u8s_length, laidBe_length 8 n k hk]; omega)
      have HC := hide hlt
      go_wp2_with fail
      go_roundw
      case rel => exact ⟨k + 1, by omega, by go_num, by rw [heap_set_row HR.out]; rw [u8s_set 8 n k HC.out], hb.setCell (Nat.le_refl _) _⟩
      case measure => simp [intOf]; omega
    · obtain rfl : k = 8 := by omega
      have hcv := run_bytes_row (w := wr) HR.out 8 (by rw [laidBe_length 8 n 8 (by omega)])
      rw [laidBe_full] at hcv
      go_wp2_with fail
      go_ret
      exact ⟨rfl, hb⟩

theorem high4i (n : Int) (h : 0 ≤ n) (w : World) :
    Calls Try.prog 91 #[.int .u64 n, .int .i64 4] w fun e w' => e = .returned (.string ⟨(be 4 n.toNat).toArray⟩) ∧ Below w.heap.size w w' := by
  obtain ⟨m, rfl⟩ := Int.eq_ofNat_of_zero_le h
  exact high4 m w
theorem high8i (n : Int) (h : 0 ≤ n) (w : World) :
    Calls Try.prog 91 #[.int .u64 n, .int .i64 8] w fun e w' => e = .returned (.string ⟨(be 8 n.toNat).toArray⟩) ∧ Below w.heap.size w w' := by
  obtain ⟨m, rfl⟩ := Int.eq_ofNat_of_zero_le h
  exact high8 m w
end Go.Proofs.Ytjmbnfcjambdkaa
