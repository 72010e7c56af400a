/- The document's Num, Text, Digest; wire.Row at texts. -/
import Derived.Test.YtjmbnfcjambdkaaWireNamed
namespace Go.Proofs.Ytjmbnfcjambdkaa
open Go.RowKit

theorem be_next (i n : Nat) : be (i + 1) n = UInt8.ofNat (n / 256 ^ i) :: be i n := be_step i n
theorem run_one_mod (m : Nat) (c : UInt8) (hc : c = UInt8.ofNat m) (b : Nat) (w : World) (hx : w.cell? ⟨b, 0, none⟩ = some (.int .u8 ((m : Int) % 256))) :
    (convert 94 9 (.slice (some ⟨b, 0, none⟩) 1 1)).run Try.prog w = .ok (.string ⟨#[c]⟩) w := by
  refine run_one c b w ?_
  rw [hx, hc]
  simp
set_option maxRecDepth 20000 in
set_option maxHeartbeats 1000000 in
theorem numRef (n K : Nat) (hK : K ≤ 8) (hn : n < 2 ^ 64) (w : World) :
    Calls Try.prog 47 #[.int .u64 (n : Int), .int .i64 (K : Int)] w fun e w' => e = .returned (.string ⟨(be K n).toArray⟩) ∧ Below w.heap.size w w' := by
  have HN := hide hn
  clear hn
  go_enter Try.func47, Try.ntmps47
  go_wp2
  go_loopw [6, 0, 5] (fun i m s wr => ∃ k : Nat, k ≤ K ∧ i = .int .i64 k ∧ m = .int .u64 ((n / 256 ^ k : Nat) : Int) ∧ s = .string ⟨(be k n).toArray⟩ ∧ Below w.heap.size w wr) (fun i _ _ _ => K - (intOf i).toNat)
  case atStart => exact ⟨0, by omega, rfl, by simp, rfl, Below.refl _ _⟩
  case round =>
    obtain ⟨k, hk, rfl, rfl, rfl, hb⟩ := hrel
    by_cases hlt : k < K
    · obtain ⟨m, hm⟩ : ∃ m, Hid (n / 256 ^ k = m) := ⟨_, hide rfl⟩
      rw [hm.out]
      obtain ⟨c, hc⟩ : ∃ c, Hid (c = UInt8.ofNat m) := ⟨_, hide rfl⟩
      obtain ⟨l, hl⟩ : ∃ l, Hid (be k n = l) := ⟨_, hide rfl⟩
      rw [hl.out]
      have hll := hide (show l.length = k by rw [← hl.out, be_length])
      have l0 : ¬ 9223372036854775807 < 1 + l.length := by have := hll.out; omega
      have hcv := fun (w' : World) b => run_one_mod m c hc.out b w'
      have hcat := cat_str [c] l
      have hm0 : (0 : Int) ≤ (m : Int) := by omega
      go_wp2_with fail
      go_roundw
      case rel =>
        refine ⟨k + 1, by omega, by go_num, ?_, ?_, hb.alloc hb.size _⟩
        · have hmn : m ≤ n := by rw [← hm.out]; exact Nat.div_le_self _ _
          have := HN.out
          rw [IntKind.wrap_u64, Nat.pow_succ, ← Nat.div_div_eq_div_mul, hm.out]
          congr 1; omega
        · rw [be_next, hm.out, hl.out, ← hc.out]
      case measure => simp [intOf]; omega
    · obtain rfl : k = K := by omega
      go_wp2_with fail
      go_ret
      exact ⟨rfl, hb⟩
theorem num4_named (n : Int) (B : List UInt8) (h0 : 0 ≤ n) (h1 : n < 4294967296) (hB : B = be 4 n.toNat) (w : World) :
    Calls Try.prog 47 #[.int .u64 n, .int .i64 4] w fun e w' => e = .returned (.string ⟨B.toArray⟩) ∧ Below w.heap.size w w' := by
  subst hB
  obtain ⟨m, rfl⟩ := Int.eq_ofNat_of_zero_le h0
  exact numRef m 4 (by omega) (by omega) w
theorem num8_named (n : Int) (B : List UInt8) (h0 : (Lit.int .u64 n).wf = true) (hB : B = be 8 n.toNat) (w : World) :
    Calls Try.prog 47 #[.int .u64 n, .int .i64 8] w fun e w' => e = .returned (.string ⟨B.toArray⟩) ∧ Below w.heap.size w w' := by
  subst hB
  have h1 := wf_nonneg8 h0
  obtain ⟨m, rfl⟩ := Int.eq_ofNat_of_zero_le h1
  refine numRef m 8 (by omega) ?_ w
  simp [Lit.wf, IntKind.max, IntKind.min, IntKind.signed, IntKind.bits] at h0
  omega
set_option maxRecDepth 20000 in
set_option maxHeartbeats 1000000 in
theorem textRef (x : ByteArray) (B : List UInt8) (hB : B = lenText x) (w : World) (hx : x.size ≤ 1000000000) :
    Calls Try.prog 48 #[.string x] w fun e w' => e = .returned (.string ⟨B.toArray⟩) ∧ Below w.heap.size w w' := by
  obtain ⟨L, hL⟩ : ∃ L, Hid (L = be 4 x.size) := ⟨_, hide rfl⟩
  have hLl := hide (show L.length = 4 by rw [hL.out, be_length])
  have l0 : ¬ 9223372036854775807 < L.length + x.size := by have := hLl.out; omega
  have hcat : (⟨L.toArray⟩ : ByteArray) ++ x = ⟨B.toArray⟩ := by
    rw [hB, lenText, ← cat_str, hL.out]
  have HB := hide hB
  clear hB
  go_enter Try.func48, Try.ntmps48
  go_wp2_with fail
  refine (num4_named (x.size : Int) L (by omega) (by omega) (by rw [hL.out]; rfl) _).mono ?_
  rintro e w1 ⟨rfl, hb1⟩
  have HB1 := hide hb1
  clear hb1
  go_wp2_with fail
  go_ret
  exact ⟨rfl, HB1.out⟩
set_option maxRecDepth 20000 in
set_option maxHeartbeats 1000000 in
theorem digestRef (d : Dig) (w : World) :
    Calls Try.prog 115 #[.agg (dgst d)] w fun e w' => e = .returned (.string ⟨d.bytes.toArray⟩) ∧ Below w.heap.size w w' := by
  go_enter Try.func115, Try.ntmps115
  go_wp2
  go_loopw [4, 3] (fun i s wr => ∃ k : Nat, k ≤ 32 ∧ i = .int .i64 k ∧ s = .string ⟨(d.bytes.take k).toArray⟩ ∧ wr.rowCells w.heap.size = dgst d ∧ Below w.heap.size w wr ∧ w.heap.size < wr.heap.size) (fun i _ _ => 32 - (intOf i).toNat)
  case atStart =>
    exact ⟨0, by omega, rfl, rfl, rowCells_new _ _ _ _, (Below.refl _ w).alloc (Nat.le_refl _) _, by simp⟩
  case round =>
    obtain ⟨k, hk, rfl, rfl, hr, hb, hz⟩ := hrel
    by_cases hlt : k < 32
    · have hkd : k < d.bytes.length := by rw [d.len]; exact hlt
      have hcell := cell_of_rowCells hr (dgst_get d k hkd)
      have HS := hide (show d.bytes.take (k + 1) = d.bytes.take k ++ [d.bytes[k]] from List.take_succ_eq_append_getElem hkd)
      obtain ⟨l, hl⟩ : ∃ l, Hid (d.bytes.take k = l) := ⟨_, hide rfl⟩
      rw [hl.out]
      have hll := hide (show l.length ≤ 32 by rw [← hl.out, List.length_take]; omega)
      have l0 : ¬ 9223372036854775807 < l.length + 1 := by have := hll.out; omega
      obtain ⟨c, hc⟩ : ∃ c, Hid (d.bytes[k] = c) := ⟨_, hide rfl⟩
      rw [hc.out] at hcell
      have hcv := fun (w' : World) b => run_one c b w'
      have hcat := cat_str l [c]
      go_wp2_with fail
      go_roundw
      case rel =>
        refine ⟨k + 1, by omega, by go_num, ?_, ?_, hb.alloc hb.size _, by simp; omega⟩
        · rw [HS.out, hl.out, hc.out]
        · rw [rowCells_old _ _ _ hz]; exact hr
      case measure => simp [intOf]; omega
    · obtain rfl : k = 32 := by omega
      have ht : d.bytes.take 32 = d.bytes := List.take_of_length_le (by rw [d.len]; omega)
      have HT := hide ht
      clear ht
      go_wp2_with fail
      go_ret
      exact ⟨ret_str2 HT.out, hb⟩
end Go.Proofs.Ytjmbnfcjambdkaa
