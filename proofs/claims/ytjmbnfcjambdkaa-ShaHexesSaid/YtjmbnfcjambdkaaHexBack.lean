/- What is read as a digest would be printed so. -/
import Derived.Test.YtjmbnfcjambdkaaNib
namespace Go.Proofs.Ytjmbnfcjambdkaa
open Go.RowKit
theorem hexDigit_nib (c : UInt8) : isDigit c = true → hexDigit (nib c).toNat = c := by
  revert c
  apply each_byte
  set_option maxRecDepth 10000 in decide
theorem nib_small (c : UInt8) : isDigit c = true → (nib c).toNat < 16 := isDigit_lt
theorem refAt_get (s : List UInt8) (i : Nat) (hi : i ≤ 32) (j : Nat) (hj : j < i) : (refAt s i).get j = 16 * nib (s.getD (2 * j) 0) + nib (s.getD (2 * j + 1) 0) := by
  induction i with
  | zero => omega
  | succ i ih =>
    rw [refAt, Dig.get_set _ _ _ _ (by omega)]
    by_cases h : i = j
    · subst h; rw [if_pos rfl]
    · rw [if_neg h]; exact ih (by omega) (by omega)
theorem hex_unhex {s : List UInt8} {d : Dig} (h : unhex s = some d) : hexText d.bytes = s := by
  unfold unhex at h
  split at h
  · rename_i hs
    obtain ⟨hl, ha⟩ := hs
    have h := Option.some.inj h
    rw [← h]
    clear h
    have hd : ∀ k, k < 64 → isDigit (s.getD k 0) = true := fun k hk => by
      refine List.all_eq_true.1 ha _ ?_
      rw [List.getD_eq_getElem?_getD, List.getElem?_eq_getElem (by omega)]
      exact List.getElem_mem _
    have he : digAt s 64 = refAt s 32 := digAt_refAt s 32 (by omega) (by omega) (by rw [List.take_of_length_le (by omega)]; exact ha)
    rw [he]
    have key : ∀ k, k < 32 → (hexText (refAt s 32).bytes).getD (2 * k) 0 = s.getD (2 * k) 0 ∧ (hexText (refAt s 32).bytes).getD (2 * k + 1) 0 = s.getD (2 * k + 1) 0 := fun k hk => by
      have hkl : k < (refAt s 32).bytes.length := by rw [Dig.len]; exact hk
      obtain ⟨h1, h2⟩ := hexText_get (refAt s 32).bytes k hkl
      have hg := refAt_get s 32 (Nat.le_refl _) k hk
      have hg2 : (refAt s 32).get k = (refAt s 32).bytes[k] := by simp [Dig.get, List.getD_eq_getElem?_getD, hkl]
      rw [h1, h2, ← hg2, hg]
      have q1 := hd (2 * k) (by omega)
      have q2 := hd (2 * k + 1) (by omega)
      have r1 := hexDigit_nib _ q1
      have r2 := hexDigit_nib _ q2
      have b1 := nib_small _ q1
      have b2 := nib_small _ q2
      have e : (16 * nib (s.getD (2 * k) 0) + nib (s.getD (2 * k + 1) 0)).toNat = 16 * (nib (s.getD (2 * k) 0)).toNat + (nib (s.getD (2 * k + 1) 0)).toNat := by
        rw [UInt8.toNat_add, UInt8.toNat_mul]
        show (16 * _ % 256 + _) % 256 = _
        omega
      rw [e, show (16 * (nib (s.getD (2 * k) 0)).toNat + (nib (s.getD (2 * k + 1) 0)).toNat) / 16 = (nib (s.getD (2 * k) 0)).toNat by omega, show (16 * (nib (s.getD (2 * k) 0)).toNat + (nib (s.getD (2 * k + 1) 0)).toNat) % 16 = (nib (s.getD (2 * k + 1) 0)).toNat by omega]
      exact ⟨r1, r2⟩
    apply List.ext_getElem (by rw [hexText_len, hl])
    intro k h1 h2
    have := key (k / 2) (by omega)
    have hk : (hexText (refAt s 32).bytes).getD k 0 = s.getD k 0 := by
      by_cases hm : k % 2 = 0
      · have := this.1; rwa [show 2 * (k / 2) = k by omega] at this
      · have := this.2; rwa [show 2 * (k / 2) + 1 = k by omega] at this
    simpa [List.getD_eq_getElem?_getD, h1, h2] using hk
  · cases h
end Go.Proofs.Ytjmbnfcjambdkaa
