/- The document's sum: how its words are the code's. -/
import Derived.Test.YtjmbnfcjambdkaaShaSum
namespace Go.Proofs.Ytjmbnfcjambdkaa
open Go.RowKit
theorem nat_or_add (a b i : Nat) (h : b < 2 ^ i) : (a * 2 ^ i) ||| b = a * 2 ^ i + b := by
  rw [← Nat.shiftLeft_eq, Nat.shiftLeft_add_eq_or_of_lt h]
theorem wor_nat (x y : UInt32) : (wor x y).toNat = x.toNat ||| y.toNat := by rw [wor, UInt32.toNat_or]
theorem shl_toNat (x : UInt32) (s : Nat) : (shl x s).toNat = x.toNat * 2 ^ s % 4294967296 := by
  unfold shl
  rw [UInt32.toNat_ofNat']
/-- A byte as a word. -/
def bw (c : UInt8) : UInt32 := UInt32.ofNat c.toNat
theorem bw_nat (c : UInt8) : (bw c).toNat = c.toNat := by
  have := c.toNat_lt
  rw [bw, UInt32.toNat_ofNat', Nat.mod_eq_of_lt (by omega)]
theorem wordOf_four (a b c d : UInt8) : wordOf [a, b, c, d] = wor (wor (wor (shl (bw a) 24) (shl (bw b) 16)) (shl (bw c) 8)) (bw d) := by
  have ha := a.toNat_lt
  have hb := b.toNat_lt
  have hc := c.toNat_lt
  have hd := d.toNat_lt
  apply UInt32.toNat_inj.1
  show (wor (shl (wor (shl (wor (shl (wor (shl 0 8) (bw a)) 8) (bw b)) 8) (bw c)) 8) (bw d)).toNat = _
  simp only [wor_nat, shl_toNat, bw_nat]
  have e0 : (UInt32.toNat 0) = 0 := rfl
  rw [e0]
  simp only [Nat.zero_mul, Nat.zero_mod, Nat.zero_or]
  rw [Nat.mod_eq_of_lt (show a.toNat * 2 ^ 8 < 4294967296 by omega), nat_or_add _ _ 8 (by omega), Nat.mod_eq_of_lt (show (a.toNat * 2 ^ 8 + b.toNat) * 2 ^ 8 < 4294967296 by omega), nat_or_add _ _ 8 (by omega),
    Nat.mod_eq_of_lt (show ((a.toNat * 2 ^ 8 + b.toNat) * 2 ^ 8 + c.toNat) * 2 ^ 8 < 4294967296 by omega), nat_or_add _ _ 8 (by omega)]
  rw [Nat.mod_eq_of_lt (show a.toNat * 2 ^ 24 < 4294967296 by omega), Nat.mod_eq_of_lt (show b.toNat * 2 ^ 16 < 4294967296 by omega), Nat.mod_eq_of_lt (show c.toNat * 2 ^ 8 < 4294967296 by omega)]
  rw [nat_or_add a.toNat (b.toNat * 2 ^ 16) 24 (by omega), show a.toNat * 2 ^ 24 + b.toNat * 2 ^ 16 = (a.toNat * 2 ^ 8 + b.toNat) * 2 ^ 16 by omega, nat_or_add _ (c.toNat * 2 ^ 8) 16 (by omega),
    show (a.toNat * 2 ^ 8 + b.toNat) * 2 ^ 16 + c.toNat * 2 ^ 8 = ((a.toNat * 2 ^ 8 + b.toNat) * 2 ^ 8 + c.toNat) * 2 ^ 8 by omega, nat_or_add _ d.toNat 8 (by omega)]
theorem wor_comm (x y : UInt32) : wor x y = wor y x := by rw [wor, wor, UInt32.or_comm]
theorem rotr_rotl (x : UInt32) (n : Nat) (h : n ≤ 32) : wor (shr x n) (shl x (32 - n)) = rotl x (32 - n) := by
  rw [rotl, wor_comm, show 32 - (32 - n) = n by omega]
theorem wnot_nat (x : UInt32) : ((wnot x).toNat : Int) = 4294967295 - (x.toNat : Int) := by
  have := x.toNat_lt
  rw [wnot, UInt32.toNat_not]
  have : UInt32.size = 4294967296 := rfl
  omega
theorem fill16_put (b : List UInt8) (i : Nat) (hi : i ≤ 62) (hb : (fourAt b i).length = 4) : (fill16 b i 0).set i (wordOf (fourAt b i)) = fill16 b (i + 1) 0 := by
  rw [← fill16_next b i hi hb]
  unfold fill16
  rw [List.set_append_right _ _ (by simp), List.take_of_length_le (by omega : (fourAt b i).length ≤ 4)]
  simp
/-- The document's constants. -/
def kL : List UInt32 := [0x428a2f98, 0x71374491, 0xb5c0fbcf, 0xe9b5dba5, 0x3956c25b, 0x59f111f1, 0x923f82a4, 0xab1c5ed5, 0xd807aa98, 0x12835b01, 0x243185be, 0x550c7dc3, 0x72be5d74, 0x80deb1fe, 0x9bdc06a7, 0xc19bf174, 0xe49b69c1, 0xefbe4786, 0x0fc19dc6, 0x240ca1cc, 0x2de92c6f, 0x4a7484aa, 0x5cb0a9dc, 0x76f988da, 0x983e5152, 0xa831c66d, 0xb00327c8, 0xbf597fc7, 0xc6e00bf3, 0xd5a79147, 0x06ca6351, 0x14292967, 0x27b70a85, 0x2e1b2138, 0x4d2c6dfc, 0x53380d13, 0x650a7354, 0x766a0abb, 0x81c2c92e, 0x92722c85, 0xa2bfe8a1, 0xa81a664b, 0xc24b8b70, 0xc76c51a3, 0xd192e819, 0xd6990624, 0xf40e3585, 0x106aa070, 0x19a4c116, 0x1e376c08, 0x2748774c, 0x34b0bcb5, 0x391c0cb3, 0x4ed8aa4a, 0x5b9cca4f, 0x682e6ff3, 0x748f82ee, 0x78a5636f, 0x84c87814, 0x8cc70208, 0x90befffa, 0xa4506ceb, 0xbef9a3f7, 0xc67178f2]
def hL : List UInt32 := [0x6a09e667, 0xbb67ae85, 0x3c6ef372, 0xa54ff53a, 0x510e527f, 0x9b05688c, 0x1f83d9ab, 0x5be0cd19]
theorem keys_kL : keysW.l = kL := by decide +kernel
theorem begun_hL : begunW.l = hL := by decide +kernel
/-- How far the noughts stand. -/
theorem pad_more (n j : Nat) (h : j ≤ padN n) : (n + 1 + j) % 64 = 56 ↔ j = padN n := by
  unfold padN at *
  omega
theorem four_of (P : List UInt8) (m i : Nat) (h : 64 * m + 64 ≤ P.length) (hi : i < 16) : ∃ b0 b1 b2 b3, fourAt ((P.drop (64 * m)).take 64) i = [b0, b1, b2, b3] ∧ P[64 * m + 4 * i]? = some b0 ∧ P[64 * m + 4 * i + 1]? = some b1 ∧ P[64 * m + 4 * i + 2]? = some b2 ∧ P[64 * m + 4 * i + 3]? = some b3 := by
  have hl : (fourAt ((P.drop (64 * m)).take 64) i).length = 4 := by simp [fourAt]; omega
  have hg : ∀ r, r < 4 → (fourAt ((P.drop (64 * m)).take 64) i)[r]? = P[64 * m + 4 * i + r]? := fun r hr => by
    simp only [fourAt, List.getElem?_take, List.getElem?_drop]
    rw [if_pos hr, if_pos (by omega)]
    congr 1
    omega
  match hL : fourAt ((P.drop (64 * m)).take 64) i, hl with
  | [b0, b1, b2, b3], _ =>
    rw [hL] at hg
    exact ⟨b0, b1, b2, b3, rfl, (hg 0 (by omega)).symm, (hg 1 (by omega)).symm, (hg 2 (by omega)).symm, (hg 3 (by omega)).symm⟩
theorem digByte_four (l : List UInt32) (i r : Nat) (hr : r < 4) : digByte l (4 * i + r) = UInt8.ofNat ((l.getD i 0).toNat / 2 ^ (24 - 8 * r)) := by
  unfold digByte
  rw [show (4 * i + r) / 4 = i by omega, show (4 * i + r) % 4 = r by omega]
theorem byteNat (n : Nat) : ((UInt8.ofNat n).toNat : Int) = (n : Int) % 256 := by
  rw [UInt8.toNat_ofNat', Int.natCast_emod]; rfl
theorem digByte0 (l : List UInt32) (i : Nat) (y : UInt32) (h : l.getD i 0 = y) : (y.toNat : Int) / 16777216 % 256 = ((digByte l (4 * i)).toNat : Int) := by
  have := digByte_four l i 0 (by omega)
  rw [Nat.add_zero] at this
  rw [this, h, byteNat, Int.natCast_ediv]; rfl
theorem digByte1 (l : List UInt32) (i : Nat) (y : UInt32) (h : l.getD i 0 = y) : (y.toNat : Int) / 65536 % 256 = ((digByte l (4 * i + 1)).toNat : Int) := by
  rw [digByte_four l i 1 (by omega), h, byteNat, Int.natCast_ediv]; rfl
theorem digByte2 (l : List UInt32) (i : Nat) (y : UInt32) (h : l.getD i 0 = y) : (y.toNat : Int) / 256 % 256 = ((digByte l (4 * i + 2)).toNat : Int) := by
  rw [digByte_four l i 2 (by omega), h, byteNat, Int.natCast_ediv]; rfl
theorem digByte3 (l : List UInt32) (i : Nat) (y : UInt32) (h : l.getD i 0 = y) : (y.toNat : Int) % 256 = ((digByte l (4 * i + 3)).toNat : Int) := by
  rw [digByte_four l i 3 (by omega), h, byteNat]
  simp
theorem w_sub (x : UInt32) : IntKind.u32.wrap (4294967295 - (x.toNat : Int)) = ((wnot x).toNat : Int) := by
  have := x.toNat_lt
  rw [wnot_nat, IntKind.wrap_u32']; omega
end Go.Proofs.Ytjmbnfcjambdkaa
