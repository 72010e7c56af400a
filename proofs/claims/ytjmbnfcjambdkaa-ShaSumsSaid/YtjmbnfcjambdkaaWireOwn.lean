/- The wire beside rows of the call's own. -/
import Derived.Test.YtjmbnfcjambdkaaWireMem
import Derived.Test.YtjmbnfcjambdkaaSl
namespace Go.Proofs.Ytjmbnfcjambdkaa
open Go.RowKit
theorem owned_grown {w w' : World} {base size n b : Nat} {e : TypeId} {v : Value} {cs : List Value} (h : w.ownsRow base e size v n cs) (hg : w.grownBy w' (some b)) (hb : b < base) : w'.ownsRow base e size v n cs := by
  obtain ⟨h1, h2 | ⟨g, cap, cur, e1, hgb, hc, h3⟩⟩ := h
  · exact ⟨h1, .inl h2⟩
  · refine ⟨h1, .inr ⟨g, cap, cur, e1, hgb, ?_, h3⟩⟩
    rw [hg.block g (lt_of_heap hc) (by intro e2; cases e2; omega)]
    exact hc
/-- What was there but for block b lies on, whatever row of the call's own grows. -/
theorem grown_own {w w0 w' : World} {b : Nat} {v : Value} (h : w.grownBy w0 (some b)) (hg : w0.grownBy w' v.ownBlock) (hv : ∀ k, v.ownBlock = some k → w.heap.size ≤ k) : w.grownBy w' (some b) :=
  h.andThen hg (fun j hj => .inl (hv j hj))
theorem count_named (b : Nat) (r r' : Rd) (most n : Int) (w : World) (h : IsIn w b r) (hs : r.s.length ≤ 1000000000) (hm0 : 0 ≤ most) (hm1 : most ≤ 1000000000) (hn : (r.count most).1 = n) (hr : (r.count most).2 = r') :
    Calls Try.prog 94 #[.pointer (some ⟨b, 0, none⟩), .int .i64 most] w fun q w' => q = .returned (.int .i64 n) ∧ IsIn w' b r' ∧ w.grownBy w' (some b) := by
  subst hn hr; exact count_any b r most w h hs hm0 hm1
theorem info_str : (Try.prog.info? 9).map (fun i => (i.zero, i.size, i.bytes)) = some (some (.string ByteArray.empty), 1, 16) := by kernel_rfl
theorem ok_true (b : Nat) (r : Rd) (w : World) (h : IsIn w b r) (he : r.err = 0) : Calls Try.prog 95 #[.pointer (some ⟨b, 0, none⟩)] w fun q w' => q = .returned (.bool true) ∧ w = w' := by
  have := ok_any b r w h
  rw [he] at this
  exact this
theorem ok_false (b : Nat) (r : Rd) (w : World) (h : IsIn w b r) (he : r.err ≠ 0) : Calls Try.prog 95 #[.pointer (some ⟨b, 0, none⟩)] w fun q w' => q = .returned (.bool false) ∧ w = w' := by
  have := ok_any b r w h
  rw [show (r.err == 0) = false by simpa using he] at this
  exact this
end Go.Proofs.Ytjmbnfcjambdkaa
