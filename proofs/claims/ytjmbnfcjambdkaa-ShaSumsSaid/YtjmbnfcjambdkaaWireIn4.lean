/- wire.In: Text, Count; the In that is none. -/
import Derived.Test.YtjmbnfcjambdkaaWireIn3
namespace Go.Proofs.Ytjmbnfcjambdkaa
open Go.RowKit

theorem Rd.number_small (r : Rd) (k : Nat) : (r.number k).2.s.length ≤ r.s.length := r.raw_small k
set_option maxRecDepth 20000 in
set_option maxHeartbeats 1000000 in
theorem text_any (b : Nat) (r : Rd) (most : Int) (w : World) (h : IsIn w b r) (hs : r.s.length ≤ 1000000000) (hm0 : 0 ≤ most) (hm1 : most ≤ 1000000000) :
    Calls Try.prog 76 #[.pointer (some ⟨b, 0, none⟩), .int .i64 most] w fun q w' => q = .returned (.string ⟨(r.text most).1.toArray⟩) ∧ IsIn w' b (r.text most).2 ∧ w.grownBy w' (some b) := by
  have H := hide h
  have hlt : (r.number 4).1 < 4294967296 := r.number_lt 4
  have hsm := r.number_small 4
  clear h
  by_cases hb : most < ((r.number 4).1 : Int)
  · have HT := hide (show r.text most = ([], (r.number 4).2.note 5) by rw [Rd.text, if_pos (by omega)])
    go_enter Try.func76, Try.ntmps76
    go_wp2_with fail
    refine (four_any b r _ H.out hs).mono ?_
    rintro q w1 ⟨rfl, h2, h3⟩
    have H2 := hide h2
    have H3 := hide h3
    clear h2 h3
    go_wp2_with fail
    refine (fail_any b _ 5 _ H2.out).mono ?_
    rintro q w2 ⟨⟨v, rfl⟩, h4, h5⟩
    have H4 := hide h4
    have H5 := hide (H3.out.trans h5)
    clear h4 h5
    go_wp2_with fail
    go_ret
    rw [HT.out]
    exact ⟨rfl, H4.out, H5.out⟩
  · have HT := hide (show r.text most = (r.number 4).2.raw (r.number 4).1 by rw [Rd.text, if_neg (by omega)])
    go_enter Try.func76, Try.ntmps76
    go_wp2_with fail
    refine (four_any b r _ H.out hs).mono ?_
    rintro q w1 ⟨rfl, h2, h3⟩
    have H2 := hide h2
    have H3 := hide h3
    clear h2 h3
    go_wp2_with fail
    refine (raw_any b _ _ _ H2.out (by omega)).mono ?_
    rintro q w2 ⟨rfl, h4, h5⟩
    have H4 := hide h4
    have H5 := hide (H3.out.trans h5)
    clear h4 h5
    go_wp2_with fail
    go_ret
    rw [HT.out]
    exact ⟨rfl, H4.out, H5.out⟩
set_option maxRecDepth 20000 in
set_option maxHeartbeats 1000000 in
theorem count_any (b : Nat) (r : Rd) (most : Int) (w : World) (h : IsIn w b r) (hs : r.s.length ≤ 1000000000) (hm0 : 0 ≤ most) (hm1 : most ≤ 1000000000) :
    Calls Try.prog 94 #[.pointer (some ⟨b, 0, none⟩), .int .i64 most] w fun q w' => q = .returned (.int .i64 (r.count most).1) ∧ IsIn w' b (r.count most).2 ∧ w.grownBy w' (some b) := by
  have H := hide h
  have hlt : (r.number 4).1 < 4294967296 := r.number_lt 4
  have hsm := r.number_small 4
  clear h
  by_cases hb : most < ((r.number 4).1 : Int)
  · have HT := hide (show r.count most = (0, (r.number 4).2.note 6) by rw [Rd.count, if_pos (by omega)])
    go_enter Try.func94, Try.ntmps94
    go_wp2_with fail
    refine (four_any b r _ H.out hs).mono ?_
    rintro q w1 ⟨rfl, h2, h3⟩
    have H2 := hide h2
    have H3 := hide h3
    clear h2 h3
    go_wp2_with fail
    refine (fail_any b _ 6 _ H2.out).mono ?_
    rintro q w2 ⟨⟨v, rfl⟩, h4, h5⟩
    have H4 := hide h4
    have H5 := hide (H3.out.trans h5)
    clear h4 h5
    go_wp2_with fail
    go_ret
    rw [HT.out]
    exact ⟨rfl, H4.out, H5.out⟩
  · have HT := hide (show r.count most = (((r.number 4).1 : Int), (r.number 4).2) by rw [Rd.count, if_neg (by omega)])
    go_enter Try.func94, Try.ntmps94
    go_wp2_with fail
    refine (four_any b r _ H.out hs).mono ?_
    rintro q w1 ⟨rfl, h2, h3⟩
    have H2 := hide h2
    have H3 := hide h3
    clear h2 h3
    go_wp2_with fail
    go_ret
    rw [HT.out]
    exact ⟨rfl, H2.out, H3.out⟩
/-! The In that is none -/
set_option maxRecDepth 20000 in
set_option maxHeartbeats 1000000 in
theorem number_nil (n : Int) (w : World) : Calls Try.prog 93 #[.pointer none, .int .i64 n] w fun q w' => q = .returned (.int .u64 0) ∧ Below w.heap.size w w' := by
  go_enter Try.func93, Try.ntmps93
  obtain ⟨c, w2, hcv, hrd, hb2⟩ := run_tobytes w [] (by simp)
  have HB := hide hb2
  clear hrd hb2
  go_wp2_with (go_at_call 116; refine (raw_nil _ _).mono ?_; rintro q w' ⟨rfl, rfl⟩)
  go_loop [13, 5] (fun i m => i = .int .i64 0 ∧ m = .int .u64 0) (fun i _ => 0 - (intOf i).toNat)
  case atStart => exact ⟨rfl, rfl⟩
  case round =>
    obtain ⟨rfl, rfl⟩ := hrel
    go_wp2_with fail
    go_ret
    exact ⟨rfl, HB.out⟩
theorem byte_nil (w : World) : Calls Try.prog 96 #[.pointer none] w fun q w' => q = .returned (.int .u8 0) ∧ Below w.heap.size w w' := by
  go_enter Try.func96, Try.ntmps96
  go_wp2_with (go_at_call 93; refine (number_nil _ _).mono ?_; rintro q w' ⟨rfl, hb⟩)
  go_ret
  refine ⟨?_, hb⟩
  rfl
theorem four_nil (w : World) : Calls Try.prog 50 #[.pointer none] w fun q w' => q = .returned (.int .u32 0) ∧ Below w.heap.size w w' := by
  go_enter Try.func50, Try.ntmps50
  go_wp2_with (go_at_call 93; refine (number_nil _ _).mono ?_; rintro q w' ⟨rfl, hb⟩)
  go_ret
  exact ⟨rfl, hb⟩
theorem eight_nil (w : World) : Calls Try.prog 79 #[.pointer none] w fun q w' => q = .returned (.int .u64 0) ∧ Below w.heap.size w w' := by
  go_enter Try.func79, Try.ntmps79
  go_wp2_with (go_at_call 93; refine (number_nil _ _).mono ?_; rintro q w' ⟨rfl, hb⟩)
  go_ret
  exact ⟨rfl, hb⟩
set_option maxHeartbeats 1000000 in
theorem text_nil (w : World) : Calls Try.prog 76 #[.pointer none, .int .i64 5] w fun q w' => q = .returned (.string ⟨#[]⟩) ∧ Below w.heap.size w w' := by
  go_enter Try.func76, Try.ntmps76
  go_wp2_with (first | (go_at_call 50; refine (four_nil _).mono ?_; rintro q w' ⟨rfl, hb⟩) | (go_at_call 116; refine (raw_nil _ _).mono ?_; rintro q2 w2 ⟨rfl, rfl⟩))
  go_ret
  exact ⟨rfl, hb⟩
set_option maxHeartbeats 1000000 in
theorem count_nil (w : World) : Calls Try.prog 94 #[.pointer none, .int .i64 5] w fun q w' => q = .returned (.int .i64 0) ∧ Below w.heap.size w w' := by
  go_enter Try.func94, Try.ntmps94
  go_wp2_with (go_at_call 50; refine (four_nil _).mono ?_; rintro q w' ⟨rfl, hb⟩)
  go_ret
  exact ⟨rfl, hb⟩
end Go.Proofs.Ytjmbnfcjambdkaa
