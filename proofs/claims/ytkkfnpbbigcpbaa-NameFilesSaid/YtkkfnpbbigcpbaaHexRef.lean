/- The document's Hex and File. -/
import Derived.Test.YtkkfnpbbigcpbaaParseRef
import Derived.Test.YtkkfnpbbigcpbaaNameOf
namespace Go.Proofs.Ytkkfnpbbigcpbaa
open Go.RowKit

theorem digit_slice (n : Nat) (h : n < 16) : ({ data := #[48, 49, 50, 51, 52, 53, 54, 55, 56, 57, 97, 98, 99, 100, 101, 102] } : ByteArray).extract n (n + 1) = ⟨#[hexDigit n]⟩ := by
  have : ∀ m : Fin 16, (({ data := #[48, 49, 50, 51, 52, 53, 54, 55, 56, 57, 97, 98, 99, 100, 101, 102] } : ByteArray).extract m.val (m.val + 1)).data.toList = [hexDigit m.val] := by decide
  apply ByteArray.ext
  apply Array.toList_inj.1
  exact this ⟨n, h⟩
set_option maxRecDepth 4000 in
set_option maxHeartbeats 1600000 in
theorem hexRef_any (d : Dig) (w : World) :
    Calls Try.prog 107 #[.agg (dgst d)] w fun e w' => e = .returned (.string ⟨(hexText d.bytes).toArray⟩) ∧ Below w.heap.size w w' := by
  go_enter Try.func107, Try.ntmps107
  go_wp2
  go_loopw [4, 3] (fun i s wr => ∃ k : Nat, k ≤ 32 ∧ i = .int .i64 k ∧ s = .string ⟨(hexText (d.bytes.take k)).toArray⟩ ∧ wr.rowCells w.heap.size = dgst d ∧ Below w.heap.size w wr) (fun i _ _ => 32 - (intOf i).toNat)
  case atStart =>
    exact ⟨0, by omega, rfl, rfl, rowCells_new _ _ _ _, (Below.refl _ w).alloc (Nat.le_refl _) _⟩
  case round =>
    obtain ⟨k, hk, rfl, rfl, hr, hb⟩ := hrel
    by_cases hlt : k < 32
    · have hkd : k < d.bytes.length := by rw [d.len]; exact hlt
      have hc := byte_le d.bytes[k]
      have hcell := cell_of_rowCells hr (dgst_get d k hkd)
      have e0 := digit_slice (d.bytes[k].toNat / 16) (by omega)
      have e1 := digit_slice (d.bytes[k].toNat % 16) (by omega)
      have s0 : (⟨#[hexDigit (d.bytes[k].toNat / 16)]⟩ : ByteArray).size = 1 := rfl
      have s1 : (⟨#[hexDigit (d.bytes[k].toNat % 16)]⟩ : ByteArray).size = 1 := rfl
      have hl : (hexText (d.bytes.take k)).length = 2 * k := by rw [hexText_length, List.length_take]; omega
      have l0 : ¬ 9223372036854775807 < 2 * k + 1 := by omega
      have l1 : ¬ 9223372036854775807 < 2 * k + 1 + 1 := by omega
      have HS := hide (hexText_snoc d.bytes k hkd)
      go_wp2_with fail
      go_quiet (fail)
      go_wp2
      go_roundw
      case rel =>
        refine ⟨k + 1, by omega, by go_num, ?_, hr, below_drewN hb _⟩
        rw [HS.out]
        rfl
      case measure => simp [intOf]; omega
    · go_wp2
      go_ret
      have ht : d.bytes.take k = d.bytes := List.take_of_length_le (by rw [d.len]; omega)
      exact ⟨ret_str (by rw [ht]), hb⟩
theorem run_str1 (x : UInt8) (b : Nat) (w : World) (hx : w.cell? ⟨b, 0, none⟩ = some (.int .u8 (x.toNat : Int))) :
    (convert 47 9 (.slice (some ⟨b, 0, none⟩) 1 1)).run Try.prog w = .ok (.string ⟨#[x]⟩) w := by
  refine run_convert_bytes_back (P := Try.prog) w 47 9 5 ⟨b, 0, none⟩ 1 [x] Try.underlying47 Try.underlying5 Try.underlying9 ?_
  intro j hj
  match j, hj with
  | 0, _ => simpa [Addr.add] using hx
theorem ret_cat3 (a : UInt8) (l : List UInt8) : Ending.returned (.string (({ data := #[a] } ++ { data := #[46] }) ++ { data := l.toArray })) = .returned (.string ⟨([a, 46] ++ l).toArray⟩) := by
  congr 2
set_option maxHeartbeats 400000 in
set_option maxRecDepth 20000 in
theorem fileRef_any (kind : UInt8) (d : Dig) (w : World) :
    Calls Try.prog 73 #[.int .u8 (kind.toNat : Int), .agg (dgst d)] w fun e w' => e = .returned (.string ⟨(fileText kind d).toArray⟩) ∧ Below w.heap.size w w' := by
  go_enter Try.func73, Try.ntmps73
  go_wp2
  have hcv := fun w' b => run_str1 kind b w'
  have hl : ¬ 9223372036854775807 < 2 + (hexText d.bytes).length := by rw [hexText_length, d.len]; omega
  go_region_law (go_simp; go_at_call 107; refine (hexRef_any d _).mono ?_; rintro e w' ⟨rfl, hb⟩; obtain ⟨hc, hf⟩ := bcell hb; have hr := fun b (h : b < _) => rowCells_below hb h; have hz := hb.size)
  all_goals go_wp2
  all_goals go_ret
  all_goals refine ⟨ret_cat3 _ _, ?_⟩
  all_goals (repeat (first | exact Below.refl _ _ | refine Below.drew ?_ | refine Below.alloc ?_ (by first | (simp; done) | (simp at *; omega)) _ | refine Below.trans ?_ (hb.mono (by first | (simp; done) | (simp; omega)))))
end Go.Proofs.Ytkkfnpbbigcpbaa
