/- Digits of base sixteen, and what a text of 64 of them is. -/
import Derived.Test.YtjmbnfcjambdkaaDig
namespace Go.Proofs.Ytjmbnfcjambdkaa
open Go.RowKit

/-- What a digit is worth; 16: it is none. -/
def nib (c : UInt8) : UInt8 := if 48 ≤ c && c ≤ 57 then c - 48 else if 97 ≤ c && c ≤ 102 then c - 87 else 16
def digits16 : List UInt8 := [48, 49, 50, 51, 52, 53, 54, 55, 56, 57, 97, 98, 99, 100, 101, 102]
theorem each_byte {P : UInt8 → Prop} (h : ∀ n : Fin 256, P (UInt8.ofNat n.val)) (c : UInt8) : P c := by
  have := h ⟨c.toNat, c.toNat_lt⟩
  simpa using this
set_option maxRecDepth 10000 in
theorem nib_ix (c : UInt8) : Lib.indexByte digits16 c = if nib c = 16 then -1 else ((nib c).toNat : Int) := by
  revert c
  apply each_byte
  decide
set_option maxRecDepth 10000 in
theorem nib_le (c : UInt8) : (nib c).toNat ≤ 16 := by
  revert c
  apply each_byte
  decide
theorem nib_digit (n : Fin 16) : nib (hexDigit n.val) = UInt8.ofNat n.val := by revert n; decide
def isDigit (c : UInt8) : Bool := nib c != 16
def Dig.get (d : Dig) (k : Nat) : UInt8 := d.bytes.getD k 0
theorem dig0_get (k : Nat) : dig0.get k = 0 := by
  simp only [Dig.get, dig0]
  rw [List.getD_eq_getElem?_getD, List.getElem?_replicate]
  split <;> rfl
theorem Dig.ext {d e : Dig} (h : d.bytes = e.bytes) : d = e := by cases d; cases e; cases h; rfl
theorem Dig.get_set (d : Dig) (k j : Nat) (c : UInt8) (hk : k < 32) : (d.set k c).get j = if k = j then c else d.get j := by
  simp only [Dig.get, Dig.set, List.getD_eq_getElem?_getD, List.getElem?_set]
  by_cases h : k = j
  · subst h; simp [d.len, hk]
  · simp [h]
theorem Dig.set_set (d : Dig) (k : Nat) (c e : UInt8) : (d.set k c).set k e = d.set k e := Dig.ext (by simp [Dig.set])
/-- The digest as it is behind i digits, two for each byte. -/
def digAt (s : List UInt8) : Nat → Dig
  | 0 => dig0
  | i + 1 => (digAt s i).set (i / 2) (((digAt s i).get (i / 2) <<< 4) ||| nib (s.getD i 0))
/-- The digest as it is behind i bytes. -/
def refAt (s : List UInt8) : Nat → Dig
  | 0 => dig0
  | i + 1 => (refAt s i).set i (16 * nib (s.getD (2 * i) 0) + nib (s.getD (2 * i + 1) 0))
theorem refAt_rest (s : List UInt8) (i j : Nat) (h : i ≤ j) (hi : i ≤ 32) : (refAt s i).get j = 0 := by
  induction i with
  | zero => exact dig0_get j
  | succ i ih => rw [refAt, Dig.get_set _ _ _ _ (by omega), if_neg (by omega)]; exact ih (by omega) (by omega)
theorem two_nibs (a b : UInt8) (ha : a.toNat < 16) (hb : b.toNat < 16) : ((((0 : UInt8) <<< 4) ||| a) <<< 4) ||| b = 16 * a + b := by
  have : ∀ x y : Fin 16, ((((0 : UInt8) <<< 4) ||| UInt8.ofNat x.val) <<< 4) ||| UInt8.ofNat y.val = 16 * UInt8.ofNat x.val + UInt8.ofNat y.val := by decide
  simpa using this ⟨a.toNat, ha⟩ ⟨b.toNat, hb⟩
theorem isDigit_lt {c : UInt8} (h : isDigit c = true) : (nib c).toNat < 16 := by
  have := nib_le c
  have hn : nib c ≠ 16 := by simpa [isDigit] using h
  have : (nib c).toNat ≠ 16 := fun h => hn (UInt8.toNat_inj.1 h)
  omega
theorem digAt_refAt (s : List UInt8) (i : Nat) (hi : i ≤ 32) (hl : 2 * i ≤ s.length) (hd : (s.take (2 * i)).all isDigit = true) : digAt s (2 * i) = refAt s i := by
  induction i with
  | zero => rfl
  | succ i ih =>
    rw [List.all_eq_true] at hd
    have ht : ∀ k, k < 2 * (i + 1) → (nib (s.getD k 0)).toNat < 16 := fun k hk => by
      refine isDigit_lt (hd _ ?_)
      rw [List.getD_eq_getElem?_getD, List.getElem?_eq_getElem (by omega)]
      exact List.mem_take_iff_getElem.2 ⟨k, by omega, rfl⟩
    have h0 := ih (by omega) (by omega) (by
      rw [List.all_eq_true]
      intro c hc
      exact hd c ((List.take_sublist_take_left (by omega : 2 * i ≤ 2 * (i + 1))).subset hc))
    have h1 : 2 * (i + 1) = (2 * i + 1) + 1 := by omega
    rw [h1, digAt, digAt, h0, refAt]
    have e1 : (2 * i + 1) / 2 = i := by omega
    have e2 : (2 * i) / 2 = i := by omega
    rw [e1, e2, Dig.get_set _ _ _ _ (by omega), if_pos rfl, Dig.set_set, refAt_rest s i i (Nat.le_refl _) (by omega), two_nibs _ _ (ht _ (by omega)) (ht _ (by omega))]
/-- The digest that a text of digits is. -/
def unhex (s : List UInt8) : Option Dig := if s.length = 64 ∧ s.all isDigit = true then some (digAt s 64) else none
def digVal (o : Option Dig) : Value := .agg (dgst (o.getD dig0))
@[go_sem] theorem digVal_none : digVal none = .agg (dgst dig0) := rfl
@[go_sem] theorem digVal_some (d : Dig) : digVal (some d) = .agg (dgst d) := rfl
@[go_sem] theorem rowCells_setRow_32 (w : World) (b : Nat) (cs : Array Value) (h : w.rowOk b 32 = true) : (w.setRow b cs).rowCells b = cs := rowCells_setRow_same cs h
theorem rowOk_through {w : World} {b n : Nat} {o : Obj} {cs : Array Value} (h : w.rowOk b n = true) (hb : b < w.heap.size) : ((w.alloc o).setRow w.heap.size cs).rowOk b n = true := by
  rw [rowOk_setRow_other (w.alloc o) w.heap.size b n cs (by omega), rowOk_old w o b n hb, h]
theorem hexText_get (l : List UInt8) (k : Nat) (hk : k < l.length) : (hexText l).getD (2 * k) 0 = hexDigit (l[k].toNat / 16) ∧ (hexText l).getD (2 * k + 1) 0 = hexDigit (l[k].toNat % 16) := by
  induction l generalizing k with
  | nil => simp at hk
  | cons a l ih =>
    cases k with
    | zero => exact ⟨rfl, rfl⟩
    | succ k =>
      have := ih k (by simpa using hk)
      constructor
      · have h2 : 2 * (k + 1) = (2 * k + 1) + 1 := by omega
        rw [h2]; simpa [hexText, hexByte] using this.1
      · have h2 : 2 * (k + 1) + 1 = (2 * k + 1 + 1) + 1 := by omega
        rw [h2]; simpa [hexText, hexByte] using this.2
theorem hexText_digits (l : List UInt8) : (hexText l).all isDigit = true := by
  have h : ∀ n : Fin 16, isDigit (hexDigit n.val) = true := by decide
  rw [List.all_eq_true]
  induction l with
  | nil => intro c hc; cases hc
  | cons a l ih =>
    intro c hc
    have ha := a.toNat_lt
    simp only [hexText, hexByte, List.flatMap_cons, List.mem_append, List.mem_cons, List.not_mem_nil, or_false] at hc ih
    rcases hc with (rfl | rfl) | hc
    · exact h ⟨a.toNat / 16, by omega⟩
    · exact h ⟨a.toNat % 16, by omega⟩
    · exact ih c hc
theorem refAt_hex (d : Dig) (i : Nat) (hi : i ≤ 32) (j : Nat) (hj : j < i) : (refAt (hexText d.bytes) i).get j = d.get j := by
  induction i with
  | zero => omega
  | succ i ih =>
    rw [refAt, Dig.get_set _ _ _ _ (by omega)]
    by_cases h : i = j
    · subst h
      rw [if_pos rfl]
      have hl : i < d.bytes.length := by rw [d.len]; omega
      obtain ⟨h1, h2⟩ := hexText_get d.bytes i hl
      have hc := d.bytes[i].toNat_lt
      rw [h1, h2, nib_digit ⟨_, by omega⟩, nib_digit ⟨_, by omega⟩]
      have hg : d.get i = d.bytes[i] := by simp [Dig.get, List.getD_eq_getElem?_getD, hl]
      rw [hg]
      apply UInt8.toNat_inj.1
      simp
      omega
    · rw [if_neg h]; exact ih (by omega) (by omega)
theorem Dig.ext_get {d e : Dig} (h : ∀ k, k < 32 → d.get k = e.get k) : d = e := by
  apply Dig.ext
  apply List.ext_getElem (by rw [d.len, e.len])
  intro k h1 h2
  have := h k (by rw [← d.len]; exact h1)
  simpa [Dig.get, List.getD_eq_getElem?_getD, h1, h2] using this
theorem hexText_len (d : Dig) : (hexText d.bytes).length = 64 := by rw [hexText_length, d.len]
theorem digAt_hex (d : Dig) (n : Nat) (hn : n = 2 * 32) : digAt (hexText d.bytes) n = d := by
  subst hn
  rw [digAt_refAt _ 32 (Nat.le_refl _) (by rw [hexText_len]; omega) (by
    rw [List.take_of_length_le (by rw [hexText_len]; omega)]; exact hexText_digits _)]
  exact Dig.ext_get fun k hk => refAt_hex d 32 (Nat.le_refl _) k hk
theorem unhex_hex (d : Dig) : unhex (hexText d.bytes) = some d := by
  rw [unhex, if_pos ⟨hexText_len d, hexText_digits _⟩, digAt_hex d 64 rfl]
end Go.Proofs.Ytjmbnfcjambdkaa
