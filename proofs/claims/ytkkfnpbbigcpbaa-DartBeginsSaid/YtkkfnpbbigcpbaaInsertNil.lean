/- dart.Insert into a row that is none; into any row. -/
import Derived.Test.YtkkfnpbbigcpbaaWithout
namespace Go.Proofs.Ytkkfnpbbigcpbaa
open Go.RowKit
set_option maxHeartbeats 400000 in
set_option maxRecDepth 20000 in
theorem insertNil_u32 (d : Int) (am : Option Addr) (cm : Nat) (ms : List Int) (w : World) (hm : Reads w 1 (.slice am ms.length cm) ms.length (nums ms)) (hx : ms.length * 4 ≤ 140737488355328) :
    Calls Try.prog 41 #[.slice none 0 0, .int .u32 d, .slice am ms.length cm] w fun e w' => (∃ a c, e = .returned (.slice a ms.length c) ∧ w'.ownsRow w.heap.size 28 1 (.slice a ms.length c) ms.length (nums (rot ms))) ∧ Below w.heap.size w w' := by
  have HI := hide (index_u32 (.slice none 0 0) [] d w (Reads.nil w 1))
  rw [show idx [] d = -1 from rfl] at HI
  have hcc : Calls Try.prog 92 #[.slice (some ⟨w.heap.size, 0, none⟩) 3 3] (w.alloc (.cells #[.slice none 0 0, .slice am ms.length cm, .slice none 0 0] 52)).drew fun e w' => (∃ a c, e = .returned (.slice a ms.length c) ∧ w'.ownsRow (w.heap.size + 1) 28 1 (.slice a ms.length c) ms.length (nums ms)) ∧ Below (w.heap.size + 1) (w.alloc (.cells #[.slice none 0 0, .slice am ms.length cm, .slice none 0 0] 52)).drew w' := by
    have := concat3 w.heap.size 3 none 0 0 [] am ms.length cm ms none 0 0 [] (w.alloc (.cells #[.slice none 0 0, .slice am ms.length cm, .slice none 0 0] 52)).drew rfl rfl rfl (cell_of_row _ _ 0 _ _ _ (heap_alloc_new w _)) (cell_of_row _ _ 1 _ _ _ (heap_alloc_new w _)) (cell_of_row _ _ 2 _ _ _ (heap_alloc_new w _)) (Reads.nil _ _) (hm.alloc _).drew (Reads.nil _ _) (by omega)
    simpa using this
  have HCC := hide hcc
  have HN := hide hm.2.2.1
  clear hcc
  have hw0 : IntKind.i64.wrap 0 = 0 := rfl
  go_enter Try.func41, Try.ntmps41
  go_wp2_with (go_at_call 88; refine HI.out.mono ?_; rintro e w' ⟨rfl, rfl⟩)
  go_region_law (first
        | (go_simp; go_at_call 92; refine HCC.out.mono ?_; rintro e w1 ⟨⟨a1, c1, rfl, hown⟩, hb1⟩)
        | (go_simp; go_at_call 35; refine (normal_len _ _ ms _ rfl (Reads.owned hown (nums_one _) HN.out) hx).mono ?_; rintro e w2 ⟨⟨a2, c2, rfl, hown2⟩, hb2⟩))
  go_wp2_with fail
  go_ret
  refine ⟨⟨a2, c2, rfl, ?_⟩, ?_⟩
  · exact owned_mono hown2 (by have := hb1.size; simp at this; omega)
  · exact ((((Below.refl _ w).alloc (Nat.le_refl _) _).drew).trans (hb1.mono (by omega))).trans (hb2.mono (by have := hb1.size; simp at this; omega))
theorem insertAny_u32 (v u : Value) (xs : List Int) (d : Int) (ms : List Int) (w : World) (hr : Reads w 1 v xs.length (nums xs)) (hm : Reads w 1 u ms.length (nums ms)) (hx : (xs.length + ms.length) * 4 ≤ 140737488355328) :
    Calls Try.prog 41 #[v, .int .u32 d, u] w fun e w' => (∃ a c, e = .returned (.slice a (xs.length + ms.length) c) ∧ w'.ownsRow w.heap.size 28 1 (.slice a (xs.length + ms.length) c) (xs.length + ms.length) (nums (rot (insAt xs (placeOf xs d) ms)))) ∧ Below w.heap.size w w' := by
  obtain ⟨am, cm, rfl⟩ := hm.shape
  rcases hr.form with ⟨rfl, h0⟩ | ⟨b, o, c, rfl⟩
  · have : xs = [] := List.eq_nil_of_length_eq_zero h0
    subst this
    have hi : insAt [] (placeOf [] d) ms = ms := by simp [insAt]
    rw [hi]
    simp only [List.length_nil, Nat.zero_add] at hx ⊢
    exact insertNil_u32 d am cm ms w hm hx
  · exact insert_u32 b o c xs d am cm ms w hr hm hx
end Go.Proofs.Ytkkfnpbbigcpbaa
