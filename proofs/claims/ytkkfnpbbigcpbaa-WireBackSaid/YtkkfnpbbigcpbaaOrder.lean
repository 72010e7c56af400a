/- Plain lemmas: the order of digests and of their texts; '==' on two digests. -/
import Derived.Test.YtkkfnpbbigcpbaaNameOf
import Derived.ChangeKeysEq
namespace Go.Proofs.Ytkkfnpbbigcpbaa
open Go.RowKit

theorem part_byte {P : Program} (e : TypeId) (ha : ∀ w, (isAgg e).run P w = .ok false w) (l : List UInt8) (k : Nat) (h : k < l.length) (w : World) :
    (part e (Lib.byteCells l).toArray (k * 1)).run P w = .ok (.int .u8 (l[k].toNat : Int)) w := by
  simp [part, Sem.run_bind, ha, Lib.byteCells, List.getElem?_eq_getElem h]
theorem run_eqItems_bytes {P : Program} (d : Nat) (e : TypeId) (hu : P.underlying e = some (.int .u8)) (ha : ∀ w, (isAgg e).run P w = .ok false w) (a b : List UInt8) (hab : a.length = b.length) (w : World) :
    ∀ (m k : Nat), k + m = a.length → (Op.eqItems (d + 1) e 1 (Lib.byteCells a).toArray (Lib.byteCells b).toArray (List.range' k m)).run P w = .ok (a.drop k == b.drop k) w
  | 0, k, hk => by
    rw [List.drop_of_length_le (by omega), List.drop_of_length_le (by omega)]; simp [Op.eqItems]
  | m + 1, k, hk => by
    have ih := run_eqItems_bytes d e hu ha a b hab w m (k + 1) (by omega)
    rw [List.range'_succ]
    simp only [Op.eqItems, Sem.run_bind, part_byte e ha a k (by omega), part_byte e ha b k (by omega), Result.andThen_ok, run_equalIn_int w d e .u8 .u8 _ _ hu, ih]
    have e : (a.drop k == b.drop k) = (a[k] == b[k] && a.drop (k + 1) == b.drop (k + 1)) := by
      rw [List.drop_eq_getElem_cons (by omega : k < a.length), List.drop_eq_getElem_cons (by omega : k < b.length)]; rfl
    rw [e]
    by_cases hc : a[k] = b[k]
    · simp [hc, Op.eqItems, ih]
    · have : ¬ ((a[k].toNat : Int) = b[k].toNat) := fun h => hc (UInt8.toNat_inj.1 (by omega))
      simp [hc, this]
theorem run_equalIn_dgst (a b : Dig) (w : World) :
    (Op.equalIn 10000 25 (.agg (dgst a)) (.agg (dgst b))).run Try.prog w = .ok (a.bytes == b.bytes) w := by
  have hi : ∃ i, Try.prog.info? 5 = some i := Option.isSome_iff_exists.1 (by kernel_rfl)
  obtain ⟨i, hi⟩ := hi
  have h1 := run_equalIn_array (P := Try.prog) w 9999 (t := 25) (dgst a) (dgst b) Try.underlying25 hi
  have hc : Try.prog.cellsOf 5 = 1 := by kernel_rfl
  rw [h1, hc]
  have h2 := run_eqItems_bytes (P := Try.prog) 9998 5 Try.underlying5 Try.isAgg5 a.bytes b.bytes (by rw [a.len, b.len]) w 32 0 (by rw [a.len])
  rw [← List.range_eq_range'] at h2
  rw [show dgst a = (Lib.byteCells a.bytes).toArray from rfl, show dgst b = (Lib.byteCells b.bytes).toArray from rfl, h2]
  rfl

theorem hexDigit_toNat (n : Nat) (h : n < 16) : (hexDigit n).toNat = if n < 10 then 48 + n else 87 + n := by
  have : ∀ m : Fin 16, (hexDigit m.val).toNat = if m.val < 10 then 48 + m.val else 87 + m.val := by decide
  exact this ⟨n, h⟩
theorem hexDigit_lt (m n : Nat) (hm : m < 16) (hn : n < 16) : (hexDigit m < hexDigit n) ↔ m < n := by
  rw [UInt8.lt_iff_toNat_lt, hexDigit_toNat m hm, hexDigit_toNat n hn]
  split <;> split <;> omega
theorem hexDigit_inj (m n : Nat) (hm : m < 16) (hn : n < 16) : (hexDigit m = hexDigit n) ↔ m = n := by
  constructor
  · intro h
    have := congrArg UInt8.toNat h
    rw [hexDigit_toNat m hm, hexDigit_toNat n hn] at this
    split at this <;> split at this <;> omega
  · intro h; rw [h]
theorem hexByte_less (a b : UInt8) (x y : List UInt8) : Op.bytesLess (hexByte a ++ x) (hexByte b ++ y) = (decide (a < b) || (a == b && Op.bytesLess x y)) := by
  have ha : a.toNat / 16 < 16 := by have := a.toNat_lt; omega
  have hb : b.toNat / 16 < 16 := by have := b.toNat_lt; omega
  have ha' : a.toNat % 16 < 16 := by omega
  have hb' : b.toNat % 16 < 16 := by omega
  simp only [hexByte, List.cons_append, List.nil_append, Op.bytesLess]
  have e1 : (hexDigit (a.toNat / 16) == hexDigit (b.toNat / 16)) = decide (a.toNat / 16 = b.toNat / 16) := by
    rw [Bool.eq_iff_iff]; simp [hexDigit_inj _ _ ha hb]
  have e2 : (hexDigit (a.toNat % 16) == hexDigit (b.toNat % 16)) = decide (a.toNat % 16 = b.toNat % 16) := by
    rw [Bool.eq_iff_iff]; simp [hexDigit_inj _ _ ha' hb']
  have e3 : decide (hexDigit (a.toNat / 16) < hexDigit (b.toNat / 16)) = decide (a.toNat / 16 < b.toNat / 16) := by
    rw [Bool.eq_iff_iff]; simp [hexDigit_lt _ _ ha hb]
  have e4 : decide (hexDigit (a.toNat % 16) < hexDigit (b.toNat % 16)) = decide (a.toNat % 16 < b.toNat % 16) := by
    rw [Bool.eq_iff_iff]; simp [hexDigit_lt _ _ ha' hb']
  have e5 : (a == b) = decide (a.toNat = b.toNat) := by rw [Bool.eq_iff_iff]; simp [UInt8.toNat_inj]
  have e6 : decide (a < b) = decide (a.toNat < b.toNat) := by rw [Bool.eq_iff_iff]; simp [UInt8.lt_iff_toNat_lt]
  rw [e1, e2, e3, e4, e5, e6]
  generalize Op.bytesLess x y = r
  rw [Bool.eq_iff_iff]
  simp
  cases r <;> simp <;> omega
theorem hexText_less : ∀ (a b : List UInt8), a.length = b.length → Op.bytesLess (hexText a) (hexText b) = Op.bytesLess a b
  | [], [], _ => rfl
  | x :: a, y :: b, h => by
    rw [show hexText (x :: a) = hexByte x ++ hexText a from by simp [hexText], show hexText (y :: b) = hexByte y ++ hexText b from by simp [hexText], hexByte_less, hexText_less a b (by simpa using h)]
    simp [Op.bytesLess]
theorem hexText_inj : ∀ (a b : List UInt8), a.length = b.length → hexText a = hexText b → a = b
  | [], [], _, _ => rfl
  | x :: a, y :: b, h, e => by
    have hx : x.toNat / 16 < 16 := by have := x.toNat_lt; omega
    have hy : y.toNat / 16 < 16 := by have := y.toNat_lt; omega
    rw [show hexText (x :: a) = hexByte x ++ hexText a from by simp [hexText], show hexText (y :: b) = hexByte y ++ hexText b from by simp [hexText]] at e
    simp only [hexByte, List.cons_append, List.nil_append, List.cons.injEq] at e
    obtain ⟨e1, e2, e3⟩ := e
    have h1 := (hexDigit_inj _ _ hx hy).1 e1
    have h2 := (hexDigit_inj _ _ (by omega) (by omega)).1 e2
    rw [hexText_inj a b (by simpa using h) e3, UInt8.toNat_inj.1 (by omega : x.toNat = y.toNat)]
/-- Where two rows of bytes first differ, the one with the less byte is ahead. -/
theorem less_at (a b : List UInt8) (k : Nat) (ha : k < a.length) (hb : k < b.length) (hp : a.take k = b.take k) (hne : a[k] ≠ b[k]) : Op.bytesLess a b = decide (a[k] < b[k]) := by
  induction k generalizing a b with
  | zero =>
    match a, b, ha, hb with
    | x :: a, y :: b, _, _ => simp at hne; simp [Op.bytesLess, hne]
  | succ k ih =>
    match a, b, ha, hb with
    | x :: a, y :: b, ha, hb =>
      simp at hp
      have := ih a b (by simpa using ha) (by simpa using hb) hp.2 (by simpa using hne)
      simp [Op.bytesLess, hp.1, this]
theorem less_self : ∀ a : List UInt8, Op.bytesLess a a = false
  | [] => rfl
  | x :: a => by simp [Op.bytesLess, less_self a]
theorem fileText_less (k : UInt8) (a b : Dig) : Op.bytesLess (fileText k a) (fileText k b) = Op.bytesLess a.bytes b.bytes := by
  simp [fileText, Op.bytesLess, hexText_less a.bytes b.bytes (by rw [a.len, b.len])]
theorem fileText_kinds (a b : Dig) : Op.bytesLess (fileText 111 a) (fileText 112 b) = true := by
  simp [fileText, Op.bytesLess]
theorem fileText_eq (k : UInt8) (a b : Dig) : (fileText k a == fileText k b) = (a.bytes == b.bytes) := by
  rw [Bool.eq_iff_iff]
  simp only [beq_iff_eq]
  constructor
  · intro h
    refine hexText_inj a.bytes b.bytes (by rw [a.len, b.len]) ?_
    simpa [fileText] using h
  · intro h; simp [fileText, h]
end Go.Proofs.Ytkkfnpbbigcpbaa
