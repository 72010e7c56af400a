/- sha.Parse: the digest that a text is. -/
import Derived.Test.YtjmbnfcjambdkaaNib
namespace Go.Proofs.Ytjmbnfcjambdkaa
open Go.RowKit

theorem unhex_len {s : ByteArray} (h : s.size ≠ 64) : unhex s.data.toList = none := by
  rw [unhex, if_neg]; intro hh; exact h (by simpa using hh.1)
theorem unhex_bad {s : ByteArray} (k : Nat) (hk : k < s.size) (h : nib s[k] = 16) : unhex s.data.toList = none := by
  rw [unhex, if_neg]
  intro hh
  have := List.all_eq_true.1 hh.2 s[k] (by
    have := List.getElem_mem (l := s.data.toList) (n := k) (by simpa using hk)
    rw [Array.getElem_toList] at this
    exact this)
  simp [isDigit, h] at this
theorem unhex_all {s : ByteArray} (h : s.size = 64) (k : Nat) (hk : s.size ≤ k) (ha : (s.data.toList.take k).all isDigit = true) : unhex s.data.toList = some (digAt s.data.toList 64) := by
  rw [List.take_of_length_le (by simpa using hk)] at ha
  rw [unhex, if_pos ⟨by simpa using h, ha⟩]
theorem bits_or_u8_nat (a b : Nat) (ha : a < 256) (hb : b < 256) : bits .or .u8 (a : Int) (b : Int) = ((a ||| b : Nat) : Int) := by
  have hx : a ||| b < 2 ^ 8 := Nat.or_lt_two_pow (by omega) (by omega)
  have h1 : (BitVec.ofInt 8 (a : Int)).toNat = a := by
    rw [BitVec.ofInt_natCast, BitVec.toNat_ofNat]; exact Nat.mod_eq_of_lt (by omega)
  have h2 : (BitVec.ofInt 8 (b : Int)).toNat = b := by
    rw [BitVec.ofInt_natCast, BitVec.toNat_ofNat]; exact Nat.mod_eq_of_lt (by omega)
  show IntKind.u8.wrap ((BitVec.ofInt 8 (a : Int) ||| BitVec.ofInt 8 (b : Int)).toNat : Int) = _
  rw [BitVec.toNat_or, h1, h2, IntKind.wrap_u8]
  omega
theorem or_nib (x y : UInt8) : bits .or .u8 ((x.toNat : Int) * 16 % 256) (y.toNat : Int) = (((x <<< 4) ||| y).toNat : Int) := by
  have hx := x.toNat_lt
  have hy := y.toNat_lt
  have h : ((x.toNat : Int) * 16 % 256) = ((x.toNat * 16 % 256 : Nat) : Int) := by omega
  rw [h, bits_or_u8_nat _ _ (by omega) (by omega)]
  simp [Nat.shiftLeft_eq]
theorem ix_bad (c : UInt8) (h : nib c = 16) : Lib.indexByte digits16 c = -1 := by rw [nib_ix, if_pos h]
theorem ix_good (c : UInt8) (h : ¬ nib c = 16) : Lib.indexByte digits16 c = ((nib c).toNat : Int) := by rw [nib_ix, if_neg h]
theorem index_digit (c : UInt8) (w : World) :
    Calls Try.prog 66 #[.string { data := #[48, 49, 50, 51, 52, 53, 54, 55, 56, 57, 97, 98, 99, 100, 101, 102] }, .int .u8 (c.toNat : Int)] w fun e w' => e = .returned (.int .i64 (if nib c = 16 then -1 else ((nib c).toNat : Int))) ∧ w = w' := by
  refine (Try.strings_IndexByte _ _ w).mono ?_
  rintro e w' ⟨rfl, rfl⟩
  refine ⟨?_, rfl⟩
  have : ((c.toNat : Int)).toNat.toUInt8 = c := by simp
  rw [this, ← nib_ix]
  rfl
set_option maxRecDepth 4000 in
set_option maxHeartbeats 800000 in
theorem parse_any (s : ByteArray) (w : World) (hs : s.size ≤ maxLen) :
    Calls Try.prog 27 #[.string s] w fun e w' => e = .returned (.tuple #[digVal (unhex s.data.toList), .bool (unhex s.data.toList).isSome]) ∧ Below w.heap.size w w' := by
  unfold maxLen at hs
  by_cases h64 : s.size = 64
  · go_enter Try.func27, Try.ntmps27
    go_wp2
    go_loopw [13, 5, 6] (fun i _ _ wr => ∃ k : Nat, k ≤ 64 ∧ i = .int .i64 k ∧ (s.data.toList.take k).all isDigit = true ∧ wr.heap[w.heap.size]? = some (.cells (dgst dig0) 24 (0, 0)) ∧ wr.heap[w.heap.size + 1]? = some (.cells (dgst (digAt s.data.toList k)) 24 (0, 0)) ∧ Below w.heap.size w wr) (fun i _ _ _ => 64 - (intOf i).toNat)
    case atStart =>
      refine ⟨0, by omega, rfl, rfl, ?_, ?_, ((Below.refl _ w).alloc (Nat.le_refl _) _).alloc (by simp) _⟩
      · rw [heap_alloc_old _ _ (by simp), heap_alloc_new]
      · have := heap_alloc_new (w.alloc (.cells (dgst dig0) 24)) (.cells (dgst dig0) 24)
        rw [World.size_alloc] at this
        exact this
    case round =>
      obtain ⟨k, hk, rfl, hall, hr, hd, hb⟩ := hrel
      have HA := hide hall
      clear hall
      have hcr := rowCells_of hr
      have hcd := rowCells_of hd
      have hor := rowOk_of 32 hr
      have hod := rowOk_of 32 hd
      have HR := hide hr
      have HD := hide hd
      clear hr hd
      rw [dgst_size] at hor hod
      by_cases hlt : k < 64
      · have hc := byte_le (s[k]'(by omega))
        have HN := hide (unhex_bad k (by omega : k < s.size))
        have hcell := cell_dgst hcd (k / 2) (by omega)
        by_cases hn : nib (s[k]'(by omega)) = 16
        · go_wp2_with (go_at_call 66; refine (index_digit _ _).mono ?_; rw [if_pos hn]; rintro e w' ⟨rfl, rfl⟩)
          refine ret_dig_tmp rfl w.heap.size dig0 rfl (rowCells_setRow_same _ (n := 32) (by rw [hor]; rfl)) rfl ?_
          rw [HN.out hn]
          exact ⟨rfl, below_setRow hb (Nat.le_refl _) _⟩
        · have hn2 := nib_le (s[k]'(by omega))
          have hfz := frozen_of_row wr (w.heap.size + 1) (k / 2) _ _ HD.out
          have HS := hide (all_snoc isDigit s k (by omega))
          go_wp2_with (go_at_call 66; refine (index_digit _ _).mono ?_; rw [if_neg hn]; rintro e w' ⟨rfl, rfl⟩)
          go_roundw
          case rel =>
            rw [← List.getD_eq_getElem?_getD, or_nib]
            refine ⟨k + 1, by omega, by go_num, by rw [HS.out, HA.out]; simp [isDigit, hn], ?_, ?_, ?_⟩
            · rw [heap_setCell_other _ _ _ _ (by simp)]; exact HR.out
            · have := row_set HD.out (k / 2) (((digAt s.data.toList k).get (k / 2) <<< 4) ||| nib (s[k]'(by omega)))
              rw [digAt, getD_byte s k (by omega)]
              exact this
            · exact hb.setCell (by simp) _
          case measure => simp [intOf]; omega
      · go_wp2
        refine ret_dig_tmp rfl w.heap.size (digAt s.data.toList k) rfl (rowCells_setRow_same _ (n := 32) (by rw [hor]; rfl)) rfl ?_
        have hk64 : k = 64 := by omega
        subst hk64
        rw [unhex_all h64 64 (by omega) HA.out]
        exact ⟨rfl, below_setRow hb (Nat.le_refl _) _⟩
  · rw [unhex_len h64]
    go_enter Try.func27, Try.ntmps27
    go_wp2
    refine ret_dig_tmp rfl w.heap.size dig0 rfl (rowCells_setRow_same _ (n := 32) (by simp [go_sem])) rfl ?_
    exact ⟨rfl, below_setRow (((Below.refl _ w).alloc (Nat.le_refl _) _).alloc (by simp) _) (Nat.le_refl _) _⟩
end Go.Proofs.Ytjmbnfcjambdkaa
