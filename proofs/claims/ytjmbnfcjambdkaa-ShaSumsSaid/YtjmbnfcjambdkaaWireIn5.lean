/- wire.In: Digest. -/
import Derived.Test.YtjmbnfcjambdkaaWireIn4
import Derived.Lib.BufferWrite
namespace Go.Proofs.Ytjmbnfcjambdkaa
open Go.RowKit

def digOf (l : List UInt8) : Dig := if h : l.length = 32 then ⟨l, h⟩ else dig0
def Rd.digest (r : Rd) : Dig × Rd := (digOf (r.raw 32).1, (r.raw 32).2)
theorem digOf_bytes (d : Dig) : digOf d.bytes = d := by rw [digOf, dif_pos d.len]
theorem Rd.digest_app (d : Dig) (b : List UInt8) : (Rd.mk 0 (d.bytes ++ b)).digest = (d, ⟨0, b⟩) := by
  rw [Rd.digest, Rd.raw_app _ _ _ (by rw [d.len]; rfl), digOf_bytes]
theorem digOf_row (l : List UInt8) (h : l.length = 32 ∨ l = []) : ((dgst dig0).toList.take 0 ++ Lib.byteCells l ++ (dgst dig0).toList.drop (0 + l.length)).toArray = dgst (digOf l) := by
  rcases h with h | h
  · rw [digOf, dif_pos h, h, List.drop_of_length_le (by simp)]
    simp [dgst]
  · subst h
    rw [digOf, dif_neg (by simp)]
    simp [Lib.byteCells]
theorem run_copy_dig (w : World) (g : Nat) (l : List UInt8) (ty : TypeId) (h : l.length = 32 ∨ l = []) (hg : w.heap[g]? = some (.cells (dgst dig0) 24 (0, 0))) :
    (Builtin.copy_ #[94, 9] ty #[.slice (some ⟨g, 0, none⟩) 32 32, .string ⟨l.toArray⟩]).run Try.prog w = .ok (goInt l.length) (w.setRow g (dgst (digOf l))) := by
  have hle : l.length ≤ 32 := by rcases h with h | h <;> simp [h]
  have := Lib.run_copy_row_string (P := Try.prog) w 94 9 ty 5 g 0 32 32 ⟨l.toArray⟩ (dgst dig0) 24 Try.underlying94 (by kernel_rfl) hg (by rw [size_str]; exact hle) (by rw [size_str, Nat.zero_add, dgst_size]; exact hle)
  rw [size_str] at this
  rw [this, ← digOf_row l h]
theorem heap_two (w : World) (o p : Obj) : ((w.alloc o).alloc p).heap[w.heap.size + 1]? = some p := by
  have := heap_alloc_new (w.alloc o) p
  rwa [World.size_alloc] at this
theorem heap_one (w : World) (o p : Obj) : ((w.alloc o).alloc p).heap[w.heap.size]? = some o := by rw [heap_alloc_old _ _ (by simp), heap_alloc_new]
theorem IsIn.drew {w : World} {b : Nat} {r : Rd} (h : IsIn w b r) : IsIn w.drew b r := h
theorem raw_named (b : Nat) (r : Rd) (n : Int) (l : List UInt8) (hl : (r.raw n).1 = l) (w : World) (h : IsIn w b r) (hs : r.s.length ≤ 1000000000) :
    Calls Try.prog 116 #[.pointer (some ⟨b, 0, none⟩), .int .i64 n] w fun q w' => q = .returned (.string ⟨l.toArray⟩) ∧ IsIn w' b (r.raw n).2 ∧ w.grownBy w' (some b) := hl ▸ raw_any b r n w h hs
theorem grown_at {w w' : World} {b g : Nat} {o : Obj} (h : w.grownBy w' (some b)) (hg : w.heap[g]? = some o) (hne : g ≠ b) : w'.heap[g]? = some o := by
  rw [h.block g (lt_of_heap hg) (by intro e; cases e; exact hne rfl)]; exact hg
theorem grown_row {w w' : World} {b : Nat} (h : w.grownBy w' (some b)) (g : Nat) (cs : Array Value) (hg : w.heap.size ≤ g) : w.grownBy (w'.setRow g cs) (some b) :=
  ⟨h.os, h.tape, h.output, by rw [size_setRow]; exact h.size, fun k hk hne => by rw [setRow_other _ _ _ _ (by omega)]; exact h.block k hk hne⟩
theorem IsIn.setRow {w : World} {b : Nat} {r : Rd} (h : IsIn w b r) (g : Nat) (cs : Array Value) (hne : b ≠ g) : IsIn (w.setRow g cs) b r := (setRow_other w g b cs hne).trans h
set_option maxRecDepth 20000 in
set_option maxHeartbeats 1000000 in
theorem digest_any (b : Nat) (r : Rd) (w : World) (h : IsIn w b r) (hs : r.s.length ≤ 1000000000) :
    Calls Try.prog 77 #[.pointer (some ⟨b, 0, none⟩)] w fun q w' => q = .returned (.agg (dgst r.digest.1)) ∧ IsIn w' b r.digest.2 ∧ w.grownBy w' (some b) := by
  have hlb := h.lt
  have hb0 : Below w.heap.size w ((w.alloc (.cells (dgst dig0) 24)).alloc (.cells (dgst dig0) 24)) := ((Below.refl _ w).alloc (Nat.le_refl _) _).alloc (by simp) _
  have HB0 := hide hb0
  have H0 := hide (h.below hb0)
  have N1 := hide (heap_two w (.cells (dgst dig0) 24) (.cells (dgst dig0) 24))
  have N2 := hide (show ((w.alloc (.cells (dgst dig0) 24)).alloc (.cells (dgst dig0) 24)).heap[w.heap.size]? = some (.cells (dgst dig0) 24 (0, 0)) by rw [heap_alloc_old _ _ (by simp), heap_alloc_new])
  obtain ⟨l, hl⟩ : ∃ l, Hid ((r.raw 32).1 = l) := ⟨_, hide rfl⟩
  have HC := hide (show l.length = 32 ∨ l = [] by rw [← hl.out]; exact r.raw_cases 32)
  clear h hb0
  go_enter Try.func77, Try.ntmps77
  go_wp2
  go_region_law (go_simp; go_at_call 116; refine (raw_named b r 32 l hl.out _ H0.out.drew hs).mono ?_; rintro q w2 ⟨rfl, h2, h3⟩; have H2 := hide h2; have H3 := hide h3; clear h2 h3; have M1 := hide (grown_at H3.out N1.out (by simp; omega)); have M2 := hide (grown_at H3.out N2.out (by omega)); have hcp := fun ty => run_copy_dig w2 (w.heap.size + 1) l ty HC.out M1.out)
  all_goals
    have hrow := rowCells_of (setRow_heap w2 (w.heap.size + 1) _ (dgst (digOf l)) _ _ M1.out)
    have hok : (w2.setRow (w.heap.size + 1) (dgst (digOf l))).rowOk w.heap.size 32 = true := by
      rw [rowOk_setRow_other _ _ _ _ _ (by omega), rowOk_of 32 M2.out]; rfl
    go_wp2
    refine ret_dig rfl w.heap.size (digOf l) rfl (rowCells_setRow_same _ hok) rfl ⟨?_, ?_, ?_⟩
    · rw [Rd.digest, hl.out]
    · exact (H2.out.setRow _ _ (by omega)).setRow _ _ (by omega)
    · have g1 : w.grownBy w2 (some b) := World.grownBy.trans (below_grown (HB0.out.drew) _) H3.out
      exact grown_row (grown_row g1 _ _ (by omega)) _ _ (by omega)
set_option maxRecDepth 20000 in
set_option maxHeartbeats 1000000 in
theorem digest_nil (w : World) : Calls Try.prog 77 #[.pointer none] w fun q w' => q = .returned (.agg (dgst dig0)) ∧ Below w.heap.size w w' := by
  have HB0 := hide (show Below w.heap.size w ((w.alloc (.cells (dgst dig0) 24)).alloc (.cells (dgst dig0) 24)) from ((Below.refl _ w).alloc (Nat.le_refl _) _).alloc (by simp) _)
  have N1 := hide (heap_two w (.cells (dgst dig0) 24) (.cells (dgst dig0) 24))
  have N2 := hide (heap_one w (.cells (dgst dig0) 24) (.cells (dgst dig0) 24))
  go_enter Try.func77, Try.ntmps77
  go_wp2
  have hcp := fun ty => run_copy_dig (((w.alloc (.cells (dgst dig0) 24)).alloc (.cells (dgst dig0) 24)).drew) (w.heap.size + 1) [] ty (.inr rfl) N1.out
  have hz : digOf [] = dig0 := by rw [digOf, dif_neg (by simp)]
  rw [hz] at hcp
  go_region_law (go_simp; go_at_call 116; refine (raw_nil 32 _).mono ?_; rintro q w2 ⟨rfl, rfl⟩)
  all_goals
    have hrow := rowCells_of (setRow_heap _ (w.heap.size + 1) _ (dgst dig0) _ _ N1.out)
    have hok : ((((w.alloc (.cells (dgst dig0) 24)).alloc (.cells (dgst dig0) 24)).drew).setRow (w.heap.size + 1) (dgst dig0)).rowOk w.heap.size 32 = true := by
      rw [rowOk_setRow_other _ _ _ _ _ (by omega), rowOk_drew, rowOk_of 32 N2.out]; rfl
    go_wp2
    refine ret_dig rfl w.heap.size dig0 rfl (rowCells_setRow_same _ hok) rfl ⟨rfl, ?_⟩
    exact below_setRow (below_setRow HB0.out.drew (by omega) _) (by omega) _
end Go.Proofs.Ytjmbnfcjambdkaa
