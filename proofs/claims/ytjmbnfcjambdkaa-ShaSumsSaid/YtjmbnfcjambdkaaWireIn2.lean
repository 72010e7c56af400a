/- wire.In: Raw and the numbers. -/
import Derived.Test.YtjmbnfcjambdkaaWireIn
namespace Go.Proofs.Ytjmbnfcjambdkaa
open Go.RowKit

theorem ret_str2 {a b : List UInt8} (h : a = b) : Ending.returned (.string ⟨a.toArray⟩) = .returned (.string ⟨b.toArray⟩) := by rw [h]
set_option maxHeartbeats 1000000 in
theorem raw_any (b : Nat) (r : Rd) (n : Int) (w : World) (h : IsIn w b r) (hs : r.s.length ≤ 1000000000) :
    Calls Try.prog 116 #[.pointer (some ⟨b, 0, none⟩), .int .i64 n] w fun q w' => q = .returned (.string ⟨(r.raw n).1.toArray⟩) ∧ IsIn w' b (r.raw n).2 ∧ w.grownBy w' (some b) := by
  have h0 := h.err
  have h1 := h.str
  have hf := h.free 1
  have H := hide h
  clear h
  by_cases he : r.err = 0
  · have hd : (r.err == 0) = true := by simpa using he
    have HE := hide he
    clear he
    have hsz := size_str r.s
    by_cases hn : n < 0
    · have hraw : r.raw n = ([], r.note 3) := by
        rw [Rd.raw, if_neg (by simp [HE.out]), if_pos (.inl hn), Rd.note, if_pos HE.out]
      have HW := hide hraw
      clear hraw
      go_enter Try.func116, Try.ntmps116
      go_wp2_with fail
      refine (ok_any b r _ H.out).mono ?_
      rintro q w' ⟨rfl, rfl⟩
      rw [hd]
      go_wp2_with fail
      refine (note_any b r 3 _ H.out).mono ?_
      rintro q w' ⟨⟨v, rfl⟩, h2, h3⟩
      have H2 := hide h2
      have H3 := hide h3
      clear h2 h3
      go_wp2_with fail
      go_ret
      rw [HW.out]
      exact ⟨rfl, H2.out, H3.out⟩
    · by_cases hb : (r.s.length : Int) < n
      · have hraw : r.raw n = ([], r.note 3) := by
          rw [Rd.raw, if_neg (by simp [HE.out]), if_pos (.inr hb), Rd.note, if_pos HE.out]
        have HW := hide hraw
        clear hraw
        go_enter Try.func116, Try.ntmps116
        go_wp2_with fail
        refine (ok_any b r _ H.out).mono ?_
        rintro q w' ⟨rfl, rfl⟩
        rw [hd]
        go_wp2_with fail
        refine (note_any b r 3 _ H.out).mono ?_
        rintro q w' ⟨⟨v, rfl⟩, h2, h3⟩
        have H2 := hide h2
        have H3 := hide h3
        clear h2 h3
        go_wp2_with fail
        go_ret
        rw [HW.out]
        exact ⟨rfl, H2.out, H3.out⟩
      · have hraw : r.raw n = (r.s.take n.toNat, ⟨0, r.s.drop n.toNat⟩) := by
          rw [Rd.raw, if_neg (by simp [HE.out]), if_neg (by omega)]
        have HW := hide hraw
        clear hraw
        have hn1 : n ≤ (r.s.length : Int) := by omega
        have hn0 : 0 ≤ n := by omega
        have hfr := slice_front r.s n.toNat
        have hbk := slice_back r.s n.toNat
        go_enter Try.func116, Try.ntmps116
        go_wp2_with fail
        refine (ok_any b r _ H.out).mono ?_
        rintro q w' ⟨rfl, rfl⟩
        rw [hd]
        go_wp2_with fail
        go_ret
        rw [HW.out]
        refine ⟨rfl, ?_, grown_set _ _ _ _⟩
        have := H.out.setStr (r.s.drop n.toNat)
        rw [HE.out] at this
        exact this
  · have hd : (r.err == 0) = false := by simpa using he
    have hraw : r.raw n = ([], r) := by rw [Rd.raw, if_pos he]
    have HW := hide hraw
    clear hraw he
    go_enter Try.func116, Try.ntmps116
    go_wp2_with fail
    refine (ok_any b r _ H.out).mono ?_
    rintro q w' ⟨rfl, rfl⟩
    rw [hd]
    go_wp2_with fail
    go_ret
    rw [HW.out]
    exact ⟨rfl, H.out, World.grownBy.refl _ _⟩
end Go.Proofs.Ytjmbnfcjambdkaa
