/- wire.In: what its methods take. -/
import Derived.Test.YtjmbnfcjambdkaaRd
import Derived.OwnWalk
import Derived.Maps.AppendAt
import Derived.Deep.AppendLies
namespace Go.Proofs.Ytjmbnfcjambdkaa
open Go.RowKit

/-- Block b is the reader r. -/
def IsIn (w : World) (b : Nat) (r : Rd) : Prop := w.heap[b]? = some (.cells #[.int .i64 r.err, .string ⟨r.s.toArray⟩] 147 (0, 0))
theorem IsIn.err {w : World} {b : Nat} {r : Rd} (h : IsIn w b r) : w.cell? ⟨b, 0, none⟩ = some (.int .i64 r.err) := by rw [cell_of_row w b 0 _ _ _ h]; rfl
theorem IsIn.str {w : World} {b : Nat} {r : Rd} (h : IsIn w b r) : w.cell? ⟨b, 1, none⟩ = some (.string ⟨r.s.toArray⟩) := by rw [cell_of_row w b 1 _ _ _ h]; rfl
theorem IsIn.free {w : World} {b : Nat} {r : Rd} (h : IsIn w b r) (o : Nat) : w.frozen? ⟨b, o, none⟩ = false := frozen_of_row w b o _ _ h
theorem IsIn.lt {w : World} {b : Nat} {r : Rd} (h : IsIn w b r) : b < w.heap.size := lt_of_heap h
theorem IsIn.below {w w' : World} {b : Nat} {r : Rd} (h : IsIn w b r) (hb : Below w.heap.size w w') : IsIn w' b r := (hb.block _ h.lt).trans h
theorem IsIn.setErr {w : World} {b : Nat} {r : Rd} (h : IsIn w b r) (e : Int) : IsIn (w.setCell ⟨b, 0, none⟩ (.int .i64 e)) b ⟨e, r.s⟩ := heap_set_row h _
theorem IsIn.setStr {w : World} {b : Nat} {r : Rd} (h : IsIn w b r) (s : List UInt8) : IsIn (w.setCell ⟨b, 1, none⟩ (.string ⟨s.toArray⟩)) b ⟨r.err, s⟩ := heap_set_row h _
theorem grown_set (w : World) (b o : Nat) (v : Value) : w.grownBy (w.setCell ⟨b, o, none⟩ v) (some b) :=
  ⟨rfl, rfl, rfl, by simp, fun k hk hne => heap_setCell_other w ⟨b, o, none⟩ k v (by intro h; exact hne (by simp at h; rw [h]))⟩
theorem below_grown {w w' : World} (h : Below w.heap.size w w') (row : Option Nat) : w.grownBy w' row := ⟨h.os, h.tape, h.output, h.size, fun k hk _ => h.block k hk⟩
theorem slice_front (s : List UInt8) (n : Nat) : (⟨s.toArray⟩ : ByteArray).extract 0 n = ⟨(s.take n).toArray⟩ := by
  apply ByteArray.ext; simp
theorem slice_back (s : List UInt8) (n : Nat) : (⟨s.toArray⟩ : ByteArray).extract n s.length = ⟨(s.drop n).toArray⟩ := by
  apply ByteArray.ext; simp
  rw [List.take_of_length_le (by simp)]
set_option maxHeartbeats 400000 in
theorem note_any (b : Nat) (r : Rd) (e : Int) (w : World) (h : IsIn w b r) :
    Calls Try.prog 126 #[.pointer (some ⟨b, 0, none⟩), .int .i64 e] w fun q w' => (∃ v, q = .returned v) ∧ IsIn w' b (r.note e) ∧ w.grownBy w' (some b) := by
  have h0 := h.err
  have hf := h.free 0
  have H := hide h
  clear h
  by_cases he : r.err = 0
  · have hd : (r.err == 0) = true := by simpa using he
    have HE := hide he
    clear he
    go_enter Try.func126, Try.ntmps126
    go_wp2
    go_end0
    refine ⟨⟨_, rfl⟩, ?_, grown_set _ _ _ _⟩
    rw [Rd.note, if_pos HE.out]
    exact H.out.setErr e
  · have hd : (r.err == 0) = false := by simpa using he
    have HE := hide he
    clear he
    go_enter Try.func126, Try.ntmps126
    go_wp2
    go_end0
    refine ⟨⟨_, rfl⟩, ?_, World.grownBy.refl _ _⟩
    rw [Rd.note, if_neg HE.out]
    exact H.out
set_option maxHeartbeats 400000 in
theorem wireOf_any (s : List UInt8) (w : World) :
    Calls Try.prog 49 #[.string ⟨s.toArray⟩] w fun q w' => q = .returned (.pointer (some ⟨w.heap.size, 0, none⟩)) ∧ IsIn w' w.heap.size ⟨0, s⟩ ∧ Below w.heap.size w w' := by
  go_enter Try.func49, Try.ntmps49
  go_wp2
  go_ret
  exact ⟨rfl, heap_alloc_new _ _, (Below.refl _ w).alloc (Nat.le_refl _) _⟩
set_option maxHeartbeats 400000 in
theorem ok_any (b : Nat) (r : Rd) (w : World) (h : IsIn w b r) :
    Calls Try.prog 95 #[.pointer (some ⟨b, 0, none⟩)] w fun q w' => q = .returned (.bool (r.err == 0)) ∧ w = w' := by
  have h0 := h.err
  clear h
  go_enter Try.func95, Try.ntmps95
  go_wp2
  go_ret
  exact ⟨rfl, rfl⟩
set_option maxHeartbeats 400000 in
theorem ok_nil (w : World) : Calls Try.prog 95 #[.pointer none] w fun q w' => q = .returned (.bool false) ∧ w = w' := by
  go_enter Try.func95, Try.ntmps95
  go_wp2
  go_ret
  exact ⟨rfl, rfl⟩
set_option maxHeartbeats 400000 in
theorem fail_any (b : Nat) (r : Rd) (e : Int) (w : World) (h : IsIn w b r) :
    Calls Try.prog 97 #[.pointer (some ⟨b, 0, none⟩), .int .i64 e] w fun q w' => (∃ v, q = .returned v) ∧ IsIn w' b (r.note e) ∧ w.grownBy w' (some b) := by
  have H := hide h
  clear h
  go_enter Try.func97, Try.ntmps97
  go_wp2_with fail
  refine (note_any b r e _ H.out).mono ?_
  rintro q w' ⟨⟨v, rfl⟩, h1, h2⟩
  have H1 := hide h1
  have H2 := hide h2
  clear h1 h2
  go_wp2_with fail
  go_end0
  exact ⟨⟨_, rfl⟩, H1.out, H2.out⟩
theorem fail_nil (e : Int) (w : World) : Calls Try.prog 97 #[.pointer none, .int .i64 e] w fun q w' => (∃ v, q = .returned v) ∧ w = w' := by
  go_enter Try.func97, Try.ntmps97
  go_wp2_with fail
  go_end0
  exact ⟨⟨_, rfl⟩, rfl⟩
theorem raw_nil (n : Int) (w : World) : Calls Try.prog 116 #[.pointer none, .int .i64 n] w fun q w' => q = .returned (.string ⟨#[]⟩) ∧ w = w' := by
  go_enter Try.func116, Try.ntmps116
  go_wp2_with (go_at_call 95; refine (ok_nil _).mono ?_; rintro q w' ⟨rfl, rfl⟩)
  go_ret
  exact ⟨rfl, rfl⟩
end Go.Proofs.Ytjmbnfcjambdkaa
