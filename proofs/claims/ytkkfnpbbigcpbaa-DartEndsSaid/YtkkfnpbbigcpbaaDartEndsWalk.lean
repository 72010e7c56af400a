/- DartEnds: the walk. -/
import Derived.Test.YtkkfnpbbigcpbaaDartLaw
namespace Go.Proofs.Ytkkfnpbbigcpbaa.dartEnds
open Go.RowKit

theorem tmod_zero (e : Int) : e.tmod 2 = 0 ↔ e % 2 = 0 := by
  constructor
  · intro h; have := Int.dvd_of_tmod_eq_zero h; omega
  · intro h; exact Int.tmod_eq_zero_of_dvd (by omega)
theorem tmod_even {e : Int} (h : e % 2 = 0) : (e.tmod 2 != 0) = false := by
  rw [(tmod_zero e).2 h]; rfl
theorem tmod_odd {e : Int} (h : ¬ e % 2 = 0) : (e.tmod 2 != 0) = true := by
  rw [bne_iff_ne]; exact fun h' => h ((tmod_zero e).1 h')
theorem dart_even {id e : Int} (h : e % 2 = 0) : (dartOf id e == id * 2 % 4294967296) = true := by
  unfold dartOf; simp [h]
theorem dart_odd {id e : Int} (h : ¬ e % 2 = 0) : (dartOf id e == id * 2 % 4294967296 + 1) = true := by
  unfold dartOf; rw [beq_iff_eq]; omega
theorem dart_bd (id e : Int) : 0 ≤ dartOf id e ∧ dartOf id e ≤ 4294967295 := by unfold dartOf; omega
theorem twin_twin (d : Int) : twinOf (twinOf d) = d := by unfold twinOf; split <;> split <;> omega
theorem twin_ne (d : Int) : (twinOf d != d) = true := by unfold twinOf; rw [bne_iff_ne]; split <;> omega
theorem twin_edge (d : Int) : (twinOf d / 2 == d / 2) = true := by unfold twinOf; rw [beq_iff_eq]; split <;> omega
theorem dart_edge {id e : Int} (h0 : 0 ≤ id) (h : id ≤ 2147483647) : (dartOf id e / 2 == id) = true := by unfold dartOf; rw [beq_iff_eq]; omega

set_option maxHeartbeats 1000000 in
theorem walk (id d e : Int) (w : World) (w0 : (Lit.int .u32 id).wf = true) (w1 : (Lit.int .u32 d).wf = true) (w2 : (Lit.int .i64 e).wf = true) :
    Calls Try.prog 5 #[.int .u32 id, .int .u32 d, .int .i64 e] w fun e w' => e = .returned (.bool true) ∧ Below w.heap.size w w' := by
  have hx0 : 0 ≤ id ∧ id ≤ 4294967295 := by simpa [Lit.wf, IntKind.min, IntKind.max, IntKind.signed, IntKind.bits] using w0
  have hx1 : 0 ≤ d ∧ d ≤ 4294967295 := by simpa [Lit.wf, IntKind.min, IntKind.max, IntKind.signed, IntKind.bits] using w1
  have hx2 : -9223372036854775808 ≤ e ∧ e ≤ 9223372036854775807 := by simpa [Lit.wf, IntKind.min, IntKind.max, IntKind.signed, IntKind.bits] using w2
  obtain ⟨hx00, hx01⟩ := hx0
  obtain ⟨hx10, hx11⟩ := hx1
  obtain ⟨hx20, hx21⟩ := hx2
  clear w0 w1 w2
  obtain ⟨ht0, ht1⟩ := twinOf_bd d hx10 hx11
  obtain ⟨hd0, hd1⟩ := dart_bd id e
  have htt := twin_twin d
  have htn := twin_ne d
  have hte := twin_edge d
  have hpar : ((e.tmod 2 != 0) = false ∧ (dartOf id e == id * 2 % 4294967296) = true) ∨ ((e.tmod 2 != 0) = true ∧ (dartOf id e == id * 2 % 4294967296 + 1) = true) := by
    by_cases he : e % 2 = 0
    · exact .inl ⟨tmod_even he, dart_even he⟩
    · exact .inr ⟨tmod_odd he, dart_odd he⟩
  rcases hpar with ⟨hp1, hp2⟩ | ⟨hp1, hp2⟩
  all_goals
    by_cases hbig : 2147483647 < id
    · go_enter Try.func5, Try.ntmps5
      go_wp2_with (first
        | (go_at_call 21; refine (awake08_any _).mono ?_; rintro e w' ⟨rfl, hb⟩)
        | (go_at_call 22; refine (of_u32 _ _ _ (by omega) (by omega) (by omega) (by omega)).mono ?_; rintro e w' ⟨rfl, rfl⟩)
        | (go_at_call 23; refine (edge_u32 _ _ (by omega) (by omega)).mono ?_; rintro e w' ⟨rfl, rfl⟩)
        | (go_at_call 24; refine (twin_u32 _ _ (by omega) (by omega)).mono ?_; rintro e w' ⟨rfl, rfl⟩))
      go_ret
      exact ⟨rfl, hb⟩
    · have hde := dart_edge (id := id) (e := e) hx00 (by omega)
      have hm : id * 2 % 4294967296 = id * 2 := by omega
      rw [hm] at hp2
      have hde1 : ((id * 2) / 2 == id) = true := by rw [beq_iff_eq]; omega
      have hde2 : ((id * 2 + 1) / 2 == id) = true := by rw [beq_iff_eq]; omega
      go_enter Try.func5, Try.ntmps5
      go_wp2_with (first
        | (go_at_call 21; refine (awake08_any _).mono ?_; rintro e w' ⟨rfl, hb⟩)
        | (go_at_call 22; refine (of_u32 _ _ _ (by omega) (by omega) (by omega) (by omega)).mono ?_; rintro e w' ⟨rfl, rfl⟩)
        | (go_at_call 23; refine (edge_u32 _ _ (by omega) (by omega)).mono ?_; rintro e w' ⟨rfl, rfl⟩)
        | (go_at_call 24; refine (twin_u32 _ _ (by omega) (by omega)).mono ?_; rintro e w' ⟨rfl, rfl⟩))
      go_ret
      exact ⟨rfl, hb⟩
end Go.Proofs.Ytkkfnpbbigcpbaa.dartEnds
