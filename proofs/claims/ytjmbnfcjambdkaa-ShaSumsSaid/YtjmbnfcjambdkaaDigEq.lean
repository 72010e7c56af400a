/- Plain lemmas: '==' on two digests. -/
import Derived.Test.YtjmbnfcjambdkaaDig
import Derived.ChangeKeysEq
namespace Go.Proofs.Ytjmbnfcjambdkaa
open Go.RowKit

theorem part_byte {P : Program} (e : TypeId) (ha : ∀ w, (isAgg e).run P w = .ok false w) (l : List UInt8) (k : Nat) (h : k < l.length) (w : World) :
    (part e (Lib.byteCells l).toArray (k * 1)).run P w = .ok (.int .u8 (l[k].toNat : Int)) w := by
  simp [part, Sem.run_bind, ha, Lib.byteCells, List.getElem?_eq_getElem h]
theorem run_eqItems_bytes {P : Program} (d : Nat) (e : TypeId) (hu : P.underlying e = some (.int .u8)) (ha : ∀ w, (isAgg e).run P w = .ok false w) (a b : List UInt8) (hab : a.length = b.length) (w : World) :
    ∀ (m k : Nat), k + m = a.length → (Op.eqItems (d + 1) e 1 (Lib.byteCells a).toArray (Lib.byteCells b).toArray (List.range' k m)).run P w = .ok (a.drop k == b.drop k) w
  | 0, k, hk => by
    rw [List.drop_of_length_le (by omega), List.drop_of_length_le (by omega)]; simp [Op.eqItems]
  | m + 1, k, hk => by
    have ih := run_eqItems_bytes d e hu ha a b hab w m (k + 1) (by omega)
    rw [List.range'_succ]
    simp only [Op.eqItems, Sem.run_bind, part_byte e ha a k (by omega), part_byte e ha b k (by omega), Result.andThen_ok, run_equalIn_int w d e .u8 .u8 _ _ hu, ih]
    have e : (a.drop k == b.drop k) = (a[k] == b[k] && a.drop (k + 1) == b.drop (k + 1)) := by
      rw [List.drop_eq_getElem_cons (by omega : k < a.length), List.drop_eq_getElem_cons (by omega : k < b.length)]; rfl
    rw [e]
    by_cases hc : a[k] = b[k]
    · simp [hc, Op.eqItems, ih]
    · have : ¬ ((a[k].toNat : Int) = b[k].toNat) := fun h => hc (UInt8.toNat_inj.1 (by omega))
      simp [hc, this]
theorem run_equalIn_dgst (a b : Dig) (w : World) :
    (Op.equalIn 10000 24 (.agg (dgst a)) (.agg (dgst b))).run Try.prog w = .ok (a.bytes == b.bytes) w := by
  have hi : ∃ i, Try.prog.info? 5 = some i := Option.isSome_iff_exists.1 (by kernel_rfl)
  obtain ⟨i, hi⟩ := hi
  have h1 := run_equalIn_array (P := Try.prog) w 9999 (t := 24) (dgst a) (dgst b) Try.underlying24 hi
  have hc : Try.prog.cellsOf 5 = 1 := by kernel_rfl
  rw [h1, hc]
  have h2 := run_eqItems_bytes (P := Try.prog) 9998 5 Try.underlying5 Try.isAgg5 a.bytes b.bytes (by rw [a.len, b.len]) w 32 0 (by rw [a.len])
  rw [← List.range_eq_range'] at h2
  rw [show dgst a = (Lib.byteCells a.bytes).toArray from rfl, show dgst b = (Lib.byteCells b.bytes).toArray from rfl, h2]
  rfl
end Go.Proofs.Ytjmbnfcjambdkaa
