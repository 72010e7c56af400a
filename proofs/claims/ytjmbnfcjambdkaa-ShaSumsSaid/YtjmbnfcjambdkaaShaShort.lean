/- sha.Short: the first eight bytes of a digest as a number. -/
import Derived.Test.YtjmbnfcjambdkaaShaSum
namespace Go.Proofs.Ytjmbnfcjambdkaa
open Go.RowKit
set_option maxRecDepth 20000 in
set_option maxHeartbeats 2000000 in
theorem short_any (v : Value) (xs : List ByteArray) (t : List UInt8) (ht : t = raw xs) (w : World) (hr : Reads w 1 v xs.length (strs xs)) (hx : xs.length ≤ 1000000) (hl : t.length ≤ 100000000) :
    Calls Try.prog 26 #[v] w fun e w' => e = .returned (.int .u64 (num ((shaOf t).bytes.take 8) : Int)) ∧ Below w.heap.size w w' := by
  have HS := hide (sum_any v xs t ht w hr hx hl)
  obtain ⟨D, hD⟩ : ∃ D, Hid (shaOf t = D) := ⟨_, hide rfl⟩
  rw [hD.out] at HS ⊢
  clear ht hr
  go_enter Try.func26, Try.ntmps26
  go_wp2_with fail
  refine HS.out.mono ?_
  rintro e1 w1 ⟨rfl, hb1⟩
  have HB1 := hide hb1
  clear hb1 HS
  have hrow : ((w1.alloc (.cells (dgst dig0) 24)).setRow w1.heap.size (dgst D)).rowCells w1.heap.size = dgst D := rowCells_setRow_same (n := 32) _ (rowOk_of 32 (heap_alloc_new w1 _))
  have hz : ((w1.alloc (.cells (dgst dig0) 24)).setRow w1.heap.size (dgst D)).heap.size = w1.heap.size + 1 := by rw [size_setRow]; simp
  have HB2 := hide (below_setRow (HB1.out.alloc HB1.out.size (.cells (dgst dig0) 24)) (g := w1.heap.size) HB1.out.size (dgst D))
  go_wp2_with fail
  have key : ∀ k, k < 32 → ((w1.alloc (.cells (dgst dig0) 24)).setRow w1.heap.size (dgst D)).cell? ⟨w1.heap.size, k, none⟩ = some (.int .u8 ((D.bytes.getD k 0).toNat : Int)) := fun k hk => cell_dgst hrow k hk
  obtain ⟨W, hW⟩ : ∃ W, (w1.alloc (.cells (dgst dig0) 24)).setRow w1.heap.size (dgst D) = W := ⟨_, rfl⟩
  rw [hW] at hrow hz HB2 key ⊢
  have KEY := hide key
  clear key hW
  go_loop [11, 3, 6] (fun i m _ => ∃ k : Nat, k ≤ 8 ∧ i = .int .i64 k ∧ m = .int .u64 (num (D.bytes.take k) : Int)) (fun i _ _ => 8 - (intOf i).toNat)
  case atStart => exact ⟨0, by omega, rfl, rfl⟩
  case round =>
    obtain ⟨k, hk, rfl, rfl⟩ := hrel
    by_cases hlt : k < 8
    · have hk32 : k < D.bytes.length := by rw [D.len]; omega
      have hcell := KEY.out k (by omega)
      obtain ⟨c, hc⟩ : ∃ c, Hid (D.bytes.getD k 0 = c) := ⟨_, hide rfl⟩
      rw [hc.out] at hcell
      have hcl := byte_le c
      have hlti : (k : Int) < 8 := by omega
      have hnum : num (D.bytes.take k) < 256 ^ 7 := num_take_lt' D.bytes k 7 (by omega)
      have HS := hide (show num (D.bytes.take (k + 1)) = num (D.bytes.take k) * 256 + c.toNat by
        rw [List.take_succ_eq_append_getElem hk32, num_snoc, ← hc.out, List.getD_eq_getElem?_getD, List.getElem?_eq_getElem hk32]; rfl)
      have HNM := hide hnum
      go_wp2_with fail
      go_round
      case rel =>
        refine ⟨k + 1, by omega, by go_num, ?_⟩
        have h64 : num (D.bytes.take k) * 256 < 2 ^ 64 := by have := HNM.out; omega
        have hcn := c.toNat_lt
        rw [HS.out, show ((num (D.bytes.take k) : Int) * 256) = ((num (D.bytes.take k) * 256 : Nat) : Int) by simp, bits_or_u64 _ _ h64 (by omega), or_256 _ _ (by omega)]
      case measure => simp [intOf]; omega
    · have hk8 : k = 8 := by omega
      subst hk8
      have hlti : ¬ ((8 : Nat) : Int) < 8 := by omega
      go_wp2_with fail
      go_ret
      exact ⟨rfl, HB2.out⟩
end Go.Proofs.Ytjmbnfcjambdkaa
