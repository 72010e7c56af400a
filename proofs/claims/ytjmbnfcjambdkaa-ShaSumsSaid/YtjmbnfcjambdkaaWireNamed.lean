/- The wire's calls, results under names. -/
import Derived.Test.YtjmbnfcjambdkaaWireIn5
namespace Go.Proofs.Ytjmbnfcjambdkaa
open Go.RowKit
theorem outString (s : List UInt8) (w : World) : Calls Try.prog 46 #[outv s] w fun e w' => e = .returned (.string ⟨s.toArray⟩) ∧ Below w.heap.size w w' := by
  unfold outv
  go_enter Try.func46, Try.ntmps46
  go_wp2
  go_ret
  exact ⟨rfl, (Below.refl _ w).alloc (Nat.le_refl _) _⟩
theorem outText1 (T : List UInt8) (x : ByteArray) (v : Value) (B : List UInt8) (hB : B = T ++ lenText x) (w : World) (hr : Reads w 1 v 1 [.string x]) (hx : x.size ≤ 1000000) (hs : T.length ≤ 900000000) :
    Calls Try.prog 70 #[.agg #[.string ⟨T.toArray⟩], v] w fun e w' => e = .returned (.agg #[.string ⟨B.toArray⟩]) ∧ Below w.heap.size w w' := by
  subst hB
  have := outText T v [x] x.size w hr (fun y hy => by simp at hy; subst hy; omega) (by simp; omega) (by omega)
  rw [show [x].flatMap lenText = lenText x by simp] at this
  exact this
theorem outString' (s : List UInt8) (w : World) : Calls Try.prog 46 #[.agg #[.string ⟨s.toArray⟩]] w fun e w' => e = .returned (.string ⟨s.toArray⟩) ∧ Below w.heap.size w w' := outString s w
theorem four_named (b : Nat) (r r' : Rd) (n : Int) (w : World) (h : IsIn w b r) (hs : r.s.length ≤ 1000000000) (hn : ((r.number 4).1 : Int) = n) (hr : (r.number 4).2 = r') :
    Calls Try.prog 50 #[.pointer (some ⟨b, 0, none⟩)] w fun q w' => q = .returned (.int .u32 n) ∧ IsIn w' b r' ∧ w.grownBy w' (some b) := by
  subst hn hr; exact four_any b r w h hs
theorem text_named (b : Nat) (r r' : Rd) (most : Int) (l : List UInt8) (w : World) (h : IsIn w b r) (hs : r.s.length ≤ 1000000000) (hm0 : 0 ≤ most) (hm1 : most ≤ 1000000000) (hl : (r.text most).1 = l) (hr : (r.text most).2 = r') :
    Calls Try.prog 76 #[.pointer (some ⟨b, 0, none⟩), .int .i64 most] w fun q w' => q = .returned (.string ⟨l.toArray⟩) ∧ IsIn w' b r' ∧ w.grownBy w' (some b) := by
  subst hl hr; exact text_any b r most w h hs hm0 hm1
theorem end_named (b : Nat) (r : Rd) (n : Int) (w : World) (h : IsIn w b r) (hn : r.fin = n) :
    Calls Try.prog 53 #[.pointer (some ⟨b, 0, none⟩)] w fun q w' => q = .returned (.int .i64 n) ∧ w = w' := by
  subst hn; exact end_any b r w h
end Go.Proofs.Ytjmbnfcjambdkaa
