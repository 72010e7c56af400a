/- The order of digests is that of their texts. -/
import Derived.Test.YtjmbnfcjambdkaaDigEq
import Derived.Test.YtjmbnfcjambdkaaHexPlain
namespace Go.Proofs.Ytjmbnfcjambdkaa
open Go.RowKit
theorem hexDigit_toNat (n : Nat) (h : n < 16) : (hexDigit n).toNat = if n < 10 then 48 + n else 87 + n := by
  have : ∀ m : Fin 16, (hexDigit m.val).toNat = if m.val < 10 then 48 + m.val else 87 + m.val := by decide
  exact this ⟨n, h⟩
theorem hexDigit_lt (m n : Nat) (hm : m < 16) (hn : n < 16) : (hexDigit m < hexDigit n) ↔ m < n := by
  rw [UInt8.lt_iff_toNat_lt, hexDigit_toNat m hm, hexDigit_toNat n hn]
  split <;> split <;> omega
theorem hexDigit_inj (m n : Nat) (hm : m < 16) (hn : n < 16) : (hexDigit m = hexDigit n) ↔ m = n := by
  constructor
  · intro h
    have := congrArg UInt8.toNat h
    rw [hexDigit_toNat m hm, hexDigit_toNat n hn] at this
    split at this <;> split at this <;> omega
  · intro h; rw [h]
theorem hexByte_less (a b : UInt8) (x y : List UInt8) : Op.bytesLess (hexByte a ++ x) (hexByte b ++ y) = (decide (a < b) || (a == b && Op.bytesLess x y)) := by
  have ha : a.toNat / 16 < 16 := by have := a.toNat_lt; omega
  have hb : b.toNat / 16 < 16 := by have := b.toNat_lt; omega
  have ha' : a.toNat % 16 < 16 := by omega
  have hb' : b.toNat % 16 < 16 := by omega
  simp only [hexByte, List.cons_append, List.nil_append, Op.bytesLess]
  have e1 : (hexDigit (a.toNat / 16) == hexDigit (b.toNat / 16)) = decide (a.toNat / 16 = b.toNat / 16) := by
    rw [Bool.eq_iff_iff]; simp [hexDigit_inj _ _ ha hb]
  have e2 : (hexDigit (a.toNat % 16) == hexDigit (b.toNat % 16)) = decide (a.toNat % 16 = b.toNat % 16) := by
    rw [Bool.eq_iff_iff]; simp [hexDigit_inj _ _ ha' hb']
  have e3 : decide (hexDigit (a.toNat / 16) < hexDigit (b.toNat / 16)) = decide (a.toNat / 16 < b.toNat / 16) := by
    rw [Bool.eq_iff_iff]; simp [hexDigit_lt _ _ ha hb]
  have e4 : decide (hexDigit (a.toNat % 16) < hexDigit (b.toNat % 16)) = decide (a.toNat % 16 < b.toNat % 16) := by
    rw [Bool.eq_iff_iff]; simp [hexDigit_lt _ _ ha' hb']
  have e5 : (a == b) = decide (a.toNat = b.toNat) := by rw [Bool.eq_iff_iff]; simp [UInt8.toNat_inj]
  have e6 : decide (a < b) = decide (a.toNat < b.toNat) := by rw [Bool.eq_iff_iff]; simp [UInt8.lt_iff_toNat_lt]
  rw [e1, e2, e3, e4, e5, e6]
  generalize Op.bytesLess x y = r
  rw [Bool.eq_iff_iff]
  simp
  cases r <;> simp <;> omega
theorem hexText_less : ∀ (a b : List UInt8), a.length = b.length → Op.bytesLess (hexText a) (hexText b) = Op.bytesLess a b
  | [], [], _ => rfl
  | x :: a, y :: b, h => by
    rw [show hexText (x :: a) = hexByte x ++ hexText a from by simp [hexText], show hexText (y :: b) = hexByte y ++ hexText b from by simp [hexText], hexByte_less, hexText_less a b (by simpa using h)]
    simp [Op.bytesLess]
theorem hexText_inj : ∀ (a b : List UInt8), a.length = b.length → hexText a = hexText b → a = b
  | [], [], _, _ => rfl
  | x :: a, y :: b, h, e => by
    have hx : x.toNat / 16 < 16 := by have := x.toNat_lt; omega
    have hy : y.toNat / 16 < 16 := by have := y.toNat_lt; omega
    rw [show hexText (x :: a) = hexByte x ++ hexText a from by simp [hexText], show hexText (y :: b) = hexByte y ++ hexText b from by simp [hexText]] at e
    simp only [hexByte, List.cons_append, List.nil_append, List.cons.injEq] at e
    obtain ⟨e1, e2, e3⟩ := e
    have h1 := (hexDigit_inj _ _ hx hy).1 e1
    have h2 := (hexDigit_inj _ _ (by omega) (by omega)).1 e2
    rw [hexText_inj a b (by simpa using h) e3, UInt8.toNat_inj.1 (by omega : x.toNat = y.toNat)]
/-- Where two rows of bytes first differ, the one with the less byte is ahead. -/
theorem less_at (a b : List UInt8) (k : Nat) (ha : k < a.length) (hb : k < b.length) (hp : a.take k = b.take k) (hne : a[k] ≠ b[k]) : Op.bytesLess a b = decide (a[k] < b[k]) := by
  induction k generalizing a b with
  | zero =>
    match a, b, ha, hb with
    | x :: a, y :: b, _, _ => simp at hne; simp [Op.bytesLess, hne]
  | succ k ih =>
    match a, b, ha, hb with
    | x :: a, y :: b, ha, hb =>
      simp at hp
      have := ih a b (by simpa using ha) (by simpa using hb) hp.2 (by simpa using hne)
      simp [Op.bytesLess, hp.1, this]
theorem less_self : ∀ a : List UInt8, Op.bytesLess a a = false
  | [] => rfl
  | x :: a => by simp [Op.bytesLess, less_self a]
end Go.Proofs.Ytjmbnfcjambdkaa
