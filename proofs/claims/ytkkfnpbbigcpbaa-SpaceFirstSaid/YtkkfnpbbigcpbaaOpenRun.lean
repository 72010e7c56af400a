/- A slice of runs that comes in as an argument. -/
import Derived.Test.YtkkfnpbbigcpbaaOpenSl
import Derived.Test.YtkkfnpbbigcpbaaSpTurn
import Derived.ChangeSame
namespace Go.Proofs.Ytkkfnpbbigcpbaa
open Go.ChangeShapes Go.WideShapes Go.ChangeAt Go.RowKit
set_option maxRecDepth 100000 in
theorem open_runs {H : Type} {enc : TypeId × Value → H} {W : World} {base : Nat} {b0 : Nat} {v : Value} {d : DataW H} {p : List MemPlace} {spare : Nat → Bool} {held : Bool}
    (hv : Value.okWide Try.prog W .any base 32 v) (h : DataW.Trod enc Try.prog W b0 spare held 32 v d p) :
    ∃ L : List (Int × Int), Reads W 2 v L.length (rcells L) ∧ ∀ r ∈ L, (Lit.int .i64 r.1).wf = true ∧ (Lit.int .i64 r.2).wf = true := by
  have hc : Try.prog.cellsOf 3 = 1 := by kernel_rfl
  exact reads_open 2 (by omega) (fun r : Int × Int => [.int .i64 r.1, .int .i64 r.2]) (fun r => (Lit.int .i64 r.1).wf = true ∧ (Lit.int .i64 r.2).wf = true) (fun _ => rfl) (fun x u hu => by
      simp at hu; rcases hu with rfl | rfl <;> rfl) (fun n cs y hcl hy => by
    obtain ⟨y0, y1, m, _, _, h0, h1⟩ := trod_struct2 Try.underlying36 hy
    rw [hc] at h0 h1
    obtain ⟨n0, e0, _, w0⟩ := DataW.trod_int Try.underlying3 h0
    obtain ⟨n1, e1, _, w1⟩ := DataW.trod_int Try.underlying3 h1
    match cs, hcl with
    | [c0, c1], _ =>
      simp at e0 e1
      exact ⟨(n0, n1), ⟨w0, w1⟩, by rw [e0, e1]⟩) Try.underlying32 (by kernel_rfl) hv h
end Go.Proofs.Ytkkfnpbbigcpbaa
