/- The wire's example, and the row WireNil's walk. -/
import Derived.Test.YtkkfnpbbigcpbaaWireIn5
namespace Go.Proofs.Ytkkfnpbbigcpbaa
open Go.RowKit

theorem outString (s : List UInt8) (w : World) : Calls Try.prog 68 #[outv s] w fun e w' => e = .returned (.string ⟨s.toArray⟩) ∧ Below w.heap.size w w' := by
  unfold outv
  go_enter Try.func68, Try.ntmps68
  go_wp2
  go_ret
  exact ⟨rfl, (Below.refl _ w).alloc (Nat.le_refl _) _⟩
theorem outText1 (T : List UInt8) (x : ByteArray) (v : Value) (B : List UInt8) (hB : B = T ++ lenText x) (w : World) (hr : Reads w 1 v 1 [.string x]) (hx : x.size ≤ 1000000) (hs : T.length ≤ 900000000) :
    Calls Try.prog 65 #[.agg #[.string ⟨T.toArray⟩], v] w fun e w' => e = .returned (.agg #[.string ⟨B.toArray⟩]) ∧ Below w.heap.size w w' := by
  subst hB
  have := outText T v [x] x.size w hr (fun y hy => by simp at hy; subst hy; omega) (by simp; omega) (by omega)
  rw [show [x].flatMap lenText = lenText x by simp] at this
  exact this
theorem outString' (s : List UInt8) (w : World) : Calls Try.prog 68 #[.agg #[.string ⟨s.toArray⟩]] w fun e w' => e = .returned (.string ⟨s.toArray⟩) ∧ Below w.heap.size w w' := outString s w
theorem four_named (b : Nat) (r r' : Rd) (n : Int) (w : World) (h : IsIn w b r) (hs : r.s.length ≤ 1000000000) (hn : ((r.number 4).1 : Int) = n) (hr : (r.number 4).2 = r') :
    Calls Try.prog 50 #[.pointer (some ⟨b, 0, none⟩)] w fun q w' => q = .returned (.int .u32 n) ∧ IsIn w' b r' ∧ w.grownBy w' (some b) := by
  subst hn hr; exact four_any b r w h hs
theorem text_named (b : Nat) (r r' : Rd) (most : Int) (l : List UInt8) (w : World) (h : IsIn w b r) (hs : r.s.length ≤ 1000000000) (hm0 : 0 ≤ most) (hm1 : most ≤ 1000000000) (hl : (r.text most).1 = l) (hr : (r.text most).2 = r') :
    Calls Try.prog 52 #[.pointer (some ⟨b, 0, none⟩), .int .i64 most] w fun q w' => q = .returned (.string ⟨l.toArray⟩) ∧ IsIn w' b r' ∧ w.grownBy w' (some b) := by
  subst hl hr; exact text_any b r most w h hs hm0 hm1
theorem end_named (b : Nat) (r : Rd) (n : Int) (w : World) (h : IsIn w b r) (hn : r.fin = n) :
    Calls Try.prog 58 #[.pointer (some ⟨b, 0, none⟩)] w fun q w' => q = .returned (.int .i64 n) ∧ w = w' := by
  subst hn; exact end_any b r w h
set_option maxRecDepth 20000 in
set_option maxHeartbeats 2000000 in
theorem awake03_any (w : World) : Calls Try.prog 48 #[] w fun e w' => e = .returned (.bool true) ∧ Below w.heap.size w w' := by
  go_enter Try.func48, Try.ntmps48
  go_wp2_with fail
  refine (outFour1 [] 258 _ [0, 0, 1, 2] (by decide) _ (reads_fresh _ [.int .u32 258] 28 1 1 rfl (by simp [Value.oneCell']) (by unfold maxLen; omega)) (by omega) (by simp)).mono ?_
  rintro e1 w1 ⟨rfl, hb1⟩
  have HB1 := hide (show Below w.heap.size w w1 from ((Below.refl _ w).alloc (Nat.le_refl _) _).trans (hb1.mono (by simp)))
  clear hb1
  go_wp2_with fail
  refine (outText1 [0, 0, 1, 2] ⟨#[97]⟩ _ [0, 0, 1, 2, 0, 0, 0, 1, 97] (by decide) _ (reads_fresh _ [.string ⟨#[97]⟩] 9 1 1 rfl (by simp [Value.oneCell']) (by unfold maxLen; omega)) (by decide) (by simp)).mono ?_
  rintro e2 w2 ⟨rfl, hb2⟩
  have HB2 := hide (HB1.out.trans ((((Below.refl _ w1).alloc (Nat.le_refl _) _).trans (hb2.mono (by simp))).mono HB1.out.size))
  clear hb2 HB1
  go_wp2_with fail
  refine (outString' _ _).mono ?_
  rintro e3 w3 ⟨rfl, hb3⟩
  have HB3 := hide (HB2.out.trans (hb3.mono HB2.out.size))
  clear hb3 HB2
  go_wp2_with fail
  refine (wireOf_any _ _).mono ?_
  rintro e4 w4 ⟨rfl, hi4, hb4⟩
  have HI4 := hide hi4
  have HB4 := hide (HB3.out.trans (hb4.mono HB3.out.size))
  have HZ := hide HB3.out.size
  clear hb4 HB3 hi4
  go_wp2_with fail
  refine (four_named _ _ ⟨0, [0, 0, 0, 1, 97]⟩ 258 _ HI4.out (by simp) (by decide) rfl).mono ?_
  rintro e5 w5 ⟨rfl, hi5, hg5⟩
  have HI5 := hide hi5
  have HB5 := hide (HB4.out.grown hg5 HB4.out.size (fun k hk => by cases hk; exact HZ.out))
  clear hi5 hg5 HI4 HB4
  go_wp2_with fail
  refine (text_named _ _ ⟨0, []⟩ 1 [97] _ HI5.out (by simp) (by omega) (by omega) (by decide) rfl).mono ?_
  rintro e6 w6 ⟨rfl, hi6, hg6⟩
  have HI6 := hide hi6
  have HB6 := hide (HB5.out.grown hg6 HB5.out.size (fun k hk => by cases hk; exact HZ.out))
  clear hi6 hg6 HI5 HB5
  go_wp2_with fail
  refine (end_named _ _ 0 _ HI6.out (by decide)).mono ?_
  rintro e7 w7 ⟨rfl, rfl⟩
  go_wp2_with fail
  go_ret
  exact ⟨rfl, HB6.out⟩
end Go.Proofs.Ytkkfnpbbigcpbaa
