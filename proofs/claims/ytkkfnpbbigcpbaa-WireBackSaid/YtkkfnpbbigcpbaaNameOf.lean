/- name.of, name.Object, name.Pack: a file's name. -/
import Derived.Test.YtkkfnpbbigcpbaaHex
import Derived.Deep.RegionLaw
namespace Go.Proofs.Ytkkfnpbbigcpbaa
open Go.RowKit

/-- A file's name: the kind's letter, a dot, the digest's text. -/
def fileText (kind : UInt8) (d : Dig) : List UInt8 := [kind, 46] ++ hexText d.bytes

theorem fileText_length (kind : UInt8) (d : Dig) : (fileText kind d).length = 66 := by
  have := hexText_length d.bytes
  simp [fileText, this, d.len]
theorem run_str2 (x y : UInt8) (b : Nat) (w : World) (hx : w.cell? ⟨b, 0, none⟩ = some (.int .u8 (x.toNat : Int))) (hy : w.cell? ⟨b, 1, none⟩ = some (.int .u8 (y.toNat : Int))) :
    (convert 47 9 (.slice (some ⟨b, 0, none⟩) 2 2)).run Try.prog w = .ok (.string ⟨#[x, y]⟩) w := by
  refine run_convert_bytes_back (P := Try.prog) w 47 9 5 ⟨b, 0, none⟩ 2 [x, y] Try.underlying47 Try.underlying5 Try.underlying9 ?_
  intro j hj
  match j, hj with
  | 0, _ => simpa [Addr.add] using hx
  | 1, _ => simpa [Addr.add] using hy

theorem ret_cat (a : UInt8) (l : List UInt8) : Ending.returned (.string ({ data := #[a, 46] } ++ { data := l.toArray })) = .returned (.string ⟨([a, 46] ++ l).toArray⟩) := by
  congr 2

set_option maxHeartbeats 400000 in
set_option maxRecDepth 20000 in
theorem of_any (kind : UInt8) (d : Dig) (w : World) :
    Calls Try.prog 82 #[.int .u8 (kind.toNat : Int), .agg (dgst d)] w fun e w' => e = .returned (.string ⟨(fileText kind d).toArray⟩) ∧ Below w.heap.size w w' := by
  go_enter Try.func82, Try.ntmps82
  go_wp2
  have hcv := fun w' b => run_str2 kind 46 b w'
  have hl : ¬ 9223372036854775807 < 2 + (hexText d.bytes).length := by rw [hexText_length, d.len]; omega
  go_region_law (go_simp; go_at_call 108; refine (hex_any d _).mono ?_; rintro e w' ⟨rfl, hb⟩; obtain ⟨hc, hf⟩ := bcell hb; have hr := fun b (h : b < _) => rowCells_below hb h; have hz := hb.size)
  all_goals go_wp2
  all_goals go_ret
  all_goals refine ⟨ret_cat _ _, ?_⟩
  all_goals (repeat (first | exact Below.refl _ _ | refine Below.drew ?_ | refine Below.alloc ?_ (by first | (simp; done) | (simp at *; omega)) _ | refine Below.trans ?_ (hb.mono (by first | (simp; done) | (simp; omega)))))

set_option maxHeartbeats 400000 in
theorem object_any (d : Dig) (w : World) :
    Calls Try.prog 19 #[.agg (dgst d)] w fun e w' => e = .returned (.string ⟨(fileText 111 d).toArray⟩) ∧ Below w.heap.size w w' := by
  go_enter Try.func19, Try.ntmps19
  go_wp2_with (go_at_call 82; refine (of_any 111 d _).mono ?_; rintro e w' ⟨rfl, hb⟩)
  go_ret
  exact ⟨rfl, ((Below.refl _ _).alloc (Nat.le_refl _) _).trans (hb.mono (by simp))⟩

set_option maxHeartbeats 400000 in
theorem pack_any (d : Dig) (w : World) :
    Calls Try.prog 20 #[.agg (dgst d)] w fun e w' => e = .returned (.string ⟨(fileText 112 d).toArray⟩) ∧ Below w.heap.size w w' := by
  go_enter Try.func20, Try.ntmps20
  go_wp2_with (go_at_call 82; refine (of_any 112 d _).mono ?_; rintro e w' ⟨rfl, hb⟩)
  go_ret
  exact ⟨rfl, ((Below.refl _ _).alloc (Nat.le_refl _) _).trans (hb.mono (by simp))⟩

/-- The same, the digest's cells written out (as a load out of a range leaves them). -/
theorem object_cells (d : Dig) (w : World) :
    Calls Try.prog 19 #[.agg (Lib.byteCells d.bytes).toArray] w fun e w' => e = .returned (.string ⟨(fileText 111 d).toArray⟩) ∧ Below w.heap.size w w' := object_any d w
theorem pack_cells (d : Dig) (w : World) :
    Calls Try.prog 20 #[.agg (Lib.byteCells d.bytes).toArray] w fun e w' => e = .returned (.string ⟨(fileText 112 d).toArray⟩) ∧ Below w.heap.size w w' := pack_any d w
theorem toList_mk (l : List UInt8) : (⟨l.toArray⟩ : ByteArray).toList = l := by rw [ByteArray.toList_eq]
theorem pack_named (d : Dig) (S : ByteArray) (hS : S = ⟨(fileText 112 d).toArray⟩) (w : World) :
    Calls Try.prog 20 #[.agg (dgst d)] w fun e w' => e = .returned (.string S) ∧ Below w.heap.size w w' := hS ▸ pack_any d w
theorem object_named (d : Dig) (S : ByteArray) (hS : S = ⟨(fileText 111 d).toArray⟩) (w : World) :
    Calls Try.prog 19 #[.agg (dgst d)] w fun e w' => e = .returned (.string S) ∧ Below w.heap.size w w' := hS ▸ object_any d w
end Go.Proofs.Ytkkfnpbbigcpbaa
