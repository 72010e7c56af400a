/- A digest that comes in as an argument: thirty-two bytes. -/
import Derived.Test.YtjmbnfcjambdkaaHexPlain
import Derived.ProofKit
import Derived.OpenShut
namespace Go.Proofs.Ytjmbnfcjambdkaa
open Go.ChangeShapes Go.WideShapes Go.ChangeAt Go.RowKit

def byteOf : Value → UInt8
  | .int _ n => n.toNat.toUInt8
  | _ => 0
theorem byteOf_back (n : Int) (h : (Lit.int .u8 n).wf = true) : Value.int .u8 ((byteOf (.int .u8 n)).toNat : Int) = .int .u8 n := by
  have hx : 0 ≤ n ∧ n ≤ 255 := by simpa [Lit.wf, IntKind.min, IntKind.max, IntKind.signed, IntKind.bits] using h
  simp [byteOf]; omega
theorem bytes_of_cells (cs : List Value) (h : ∀ i, i < cs.length → ∃ n, cs[i]? = some (.int .u8 n) ∧ (Lit.int .u8 n).wf = true) : Lib.byteCells (cs.map byteOf) = cs := by
  apply List.ext_getElem?
  intro i
  by_cases hi : i < cs.length
  · obtain ⟨n, hn, hw⟩ := h i hi
    simp only [Lib.byteCells, List.getElem?_map, hn, Option.map_some]
    rw [byteOf_back n hw]
  · have h1 : cs[i]? = none := by simp; omega
    simp [Lib.byteCells, h1]
set_option maxRecDepth 100000 in
theorem open_dgst {H : Type} {enc : TypeId × Value → H} {W : World} {base : Nat} {b0 : Nat} {v : Value} {d : DataW H} {p : List MemPlace} {spare : Nat → Bool} {held : Bool}
    (hv : Value.okWide Try.prog W .any base 24 v) (h : DataW.Trod enc Try.prog W b0 spare held 24 v d p) : ∃ D : Dig, v = .agg (dgst D) := by
  have hc : Try.prog.cellsOf 5 = 1 := by kernel_rfl
  have hcd : Try.prog.cellsOf 24 = 32 := by kernel_rfl
  unfold Value.okWide at hv
  rw [Try.underlying24] at hv
  obtain ⟨cs, rfl, hsz, _⟩ := hv
  rw [hcd] at hsz
  obtain ⟨fuel, hf⟩ := h
  obtain ⟨xs, m, _, _, _, hl, hx⟩ := DataW.trod_array Try.underlying24 hf
  rw [hc] at hx
  have hcells : (Value.agg cs).cells.toList = cs.toList := rfl
  rw [hcells] at hx
  have hlen : cs.toList.length = 32 := by simpa using hsz
  have hb := bytes_of_cells cs.toList (fun i hi => by
    have hi32 : i < 32 := by omega
    have h1 := hx i hi32
    rw [List.getElem?_eq_getElem (by omega : i < xs.length)] at h1
    obtain ⟨n, e, _, w⟩ := DataW.trod_int Try.underlying5 h1
    refine ⟨n, ?_, w⟩
    have h2 : ((cs.toList.drop (i * 1)).take 1)[0]? = some (.int .u8 n) := by rw [e]; rfl
    rw [List.getElem?_take, if_pos (by omega), List.getElem?_drop] at h2
    simpa using h2)
  refine ⟨⟨cs.toList.map byteOf, by simpa using hsz⟩, ?_⟩
  simp only [dgst]
  rw [hb]
end Go.Proofs.Ytjmbnfcjambdkaa
