/- wire.In: numbers. -/
import Derived.Test.YtjmbnfcjambdkaaWireIn2
namespace Go.Proofs.Ytjmbnfcjambdkaa
open Go.RowKit

theorem num_take_lt' (l : List UInt8) (k m : Nat) (h : k ≤ m) : num (l.take k) < 256 ^ m :=
  Nat.lt_of_lt_of_le (num_lt _) (Nat.pow_le_pow_right (by omega) (by simp; omega))
theorem Reads.cell0 {w : World} {b c n : Nat} {cs : List Value} (h : Reads w 1 (.slice (some ⟨b, 0, none⟩) n c) n cs) (j : Nat) (u : Value) (hj : cs[j]? = some u) : w.cell? ⟨b, j, none⟩ = some u := by
  have := h.cellAt j u hj
  rwa [Nat.zero_add] at this
theorem u8s_get (l : List UInt8) (j : Nat) (h : j < l.length) : (u8s l)[j]? = some (.int .u8 (l[j].toNat : Int)) := by simp [u8s, List.getElem?_eq_getElem h]
theorem u8s_one (l : List UInt8) : ∀ u ∈ u8s l, u.oneCell' = true := by
  intro u hu
  obtain ⟨x, _, rfl⟩ := List.mem_map.1 hu
  rfl
/-- '[]byte(s)': a slice of the call's own that reads s. -/
theorem run_tobytes (w : World) (l : List UInt8) (hl : l.length ≤ 1000000000) : ∃ c w', (convert 9 94 (.string ⟨l.toArray⟩)).run Try.prog w = .ok (.slice (some ⟨w.heap.size, 0, none⟩) l.length c) w' ∧
    Reads w' 1 (.slice (some ⟨w.heap.size, 0, none⟩) l.length c) l.length (u8s l) ∧ Below w.heap.size w w' := by
  have hrun := run_bytes_of_string (P := Try.prog) w 9 94 5 ⟨l.toArray⟩ Try.underlying9 Try.underlying94 Try.underlying5
  rw [size_str] at hrun
  have hc := grownCap_ge w l.length 0 5
  have hm := grownCap_le_maxLen w l.length 0 5 (by unfold maxLen; omega)
  refine ⟨_, _, hrun, ⟨by simp [u8s], u8s_one l, by unfold maxLen; omega, .inr ⟨_, 0, _, rfl, hc, hm, fun j u hj => ?_⟩⟩, ((Below.refl _ w).drew).alloc (Nat.le_refl _) _⟩
  have hjl : j < l.length := by
    have := (List.getElem?_eq_some_iff.1 hj).1
    simpa [u8s] using this
  rw [u8s_get l j hjl] at hj
  cases hj
  rw [cell_of_row _ w.heap.size _ _ _ _ (heap_alloc_new w.drew _), Nat.zero_add, bytesRow_at _ _ _ (by simpa using hjl)]
  simp
theorem bits_or_u64 (a b : Nat) (ha : a < 2 ^ 64) (hb : b < 2 ^ 64) : bits .or .u64 (a : Int) (b : Int) = ((a ||| b : Nat) : Int) := by
  have hx : a ||| b < 2 ^ 64 := Nat.or_lt_two_pow ha hb
  have h1 : (BitVec.ofInt 64 (a : Int)).toNat = a := by
    rw [BitVec.ofInt_natCast, BitVec.toNat_ofNat]; exact Nat.mod_eq_of_lt ha
  have h2 : (BitVec.ofInt 64 (b : Int)).toNat = b := by
    rw [BitVec.ofInt_natCast, BitVec.toNat_ofNat]; exact Nat.mod_eq_of_lt hb
  show IntKind.u64.wrap ((BitVec.ofInt 64 (a : Int) ||| BitVec.ofInt 64 (b : Int)).toNat : Int) = _
  rw [BitVec.toNat_or, h1, h2]
  rw [IntKind.wrap_u64]
  omega
theorem or_256 (a b : Nat) (hb : b < 256) : (a * 256) ||| b = a * 256 + b := by
  have := Nat.shiftLeft_add_eq_or_of_lt (i := 8) (b := b) (by omega) a
  rw [Nat.shiftLeft_eq] at this
  exact this.symm
set_option maxRecDepth 20000 in
set_option maxHeartbeats 1000000 in
theorem number_any (b : Nat) (r : Rd) (n : Nat) (w : World) (h : IsIn w b r) (hs : r.s.length ≤ 1000000000) (hn : n ≤ 8) :
    Calls Try.prog 93 #[.pointer (some ⟨b, 0, none⟩), .int .i64 (n : Int)] w fun q w' => q = .returned (.int .u64 ((r.number n).1 : Int)) ∧ IsIn w' b (r.number n).2 ∧ w.grownBy w' (some b) := by
  have H := hide h
  have hl := r.raw_length n
  clear h
  obtain ⟨l, hle⟩ : ∃ l, Hid ((r.raw n).1 = l) := ⟨_, hide rfl⟩
  rw [hle.out] at hl
  have hl8 : l.length ≤ 8 := by omega
  clear hl
  go_enter Try.func93, Try.ntmps93
  go_wp2_with fail
  refine (raw_any b r n _ H.out hs).mono ?_
  rw [hle.out]
  rintro q w1 ⟨rfl, h2, h3⟩
  have H2 := hide h2
  have H3 := hide h3
  clear h2 h3
  obtain ⟨c, w2, hcv, hrd, hb2⟩ := run_tobytes w1 l (by omega)
  have HRD := hide hrd
  have H4 := hide (H2.out.below hb2)
  have H5 := hide (H3.out.trans (below_grown hb2 _))
  clear hrd hb2
  go_wp2_with fail
  go_loop [13, 5, 7] (fun i m _ => ∃ k : Nat, k ≤ l.length ∧ i = .int .i64 k ∧ m = .int .u64 (num (l.take k) : Int)) (fun i _ _ => l.length - (intOf i).toNat)
  case atStart => exact ⟨0, by omega, rfl, rfl⟩
  case round =>
    obtain ⟨k, hk, rfl, rfl⟩ := hrel
    by_cases hlt : k < l.length
    · have hcell := HRD.out.cell0 k _ (u8s_get l k hlt)
      have hcl := byte_le l[k]
      have hnum : num (l.take k) < 256 ^ 7 := num_take_lt' l k 7 (by omega)
      have HS := hide (show num (l.take (k + 1)) = num (l.take k) * 256 + l[k].toNat by rw [List.take_succ_eq_append_getElem hlt, num_snoc])
      have HNM := hide hnum
      go_wp2_with fail
      go_round
      case rel =>
        refine ⟨k + 1, by omega, by go_num, ?_⟩
        have h64 : num (l.take k) * 256 < 2 ^ 64 := by have := HNM.out; omega
        rw [HS.out, show ((num (l.take k) : Int) * 256) = ((num (l.take k) * 256 : Nat) : Int) by simp, bits_or_u64 _ _ h64 (by omega), or_256 _ _ (by omega)]
      case measure => simp [intOf]; omega
    · go_wp2_with fail
      go_ret
      have hkl : l.take k = l := List.take_of_length_le (by omega)
      refine ⟨?_, H4.out, H5.out⟩
      rw [hkl, Rd.number, hle.out]; rfl
set_option maxHeartbeats 400000 in
theorem byte_any (b : Nat) (r : Rd) (w : World) (h : IsIn w b r) (hs : r.s.length ≤ 1000000000) :
    Calls Try.prog 96 #[.pointer (some ⟨b, 0, none⟩)] w fun q w' => q = .returned (.int .u8 ((r.number 1).1 : Int)) ∧ IsIn w' b (r.number 1).2 ∧ w.grownBy w' (some b) := by
  have H := hide h
  have hlt : (r.number 1).1 < 256 := r.number_lt 1
  clear h
  go_enter Try.func96, Try.ntmps96
  go_wp2_with fail
  refine (number_any b r 1 _ H.out hs (by omega)).mono ?_
  rintro q w1 ⟨rfl, h2, h3⟩
  have H2 := hide h2
  have H3 := hide h3
  clear h2 h3
  have hm : ((r.number 1).1 : Int) < 256 := by omega
  have hmod : ((r.number 1).1 : Int) % 256 = ((r.number 1).1 : Int) := by omega
  go_wp2_with fail
  go_ret
  exact ⟨rfl, H2.out, H3.out⟩
set_option maxHeartbeats 400000 in
theorem four_any (b : Nat) (r : Rd) (w : World) (h : IsIn w b r) (hs : r.s.length ≤ 1000000000) :
    Calls Try.prog 50 #[.pointer (some ⟨b, 0, none⟩)] w fun q w' => q = .returned (.int .u32 ((r.number 4).1 : Int)) ∧ IsIn w' b (r.number 4).2 ∧ w.grownBy w' (some b) := by
  have H := hide h
  have hlt : (r.number 4).1 < 4294967296 := r.number_lt 4
  clear h
  go_enter Try.func50, Try.ntmps50
  go_wp2_with fail
  refine (number_any b r 4 _ H.out hs (by omega)).mono ?_
  rintro q w1 ⟨rfl, h2, h3⟩
  have H2 := hide h2
  have H3 := hide h3
  clear h2 h3
  have hm : ((r.number 4).1 : Int) < 4294967296 := by omega
  have hmod : ((r.number 4).1 : Int) % 4294967296 = ((r.number 4).1 : Int) := by omega
  go_wp2_with fail
  go_ret
  exact ⟨rfl, H2.out, H3.out⟩
set_option maxHeartbeats 400000 in
theorem eight_any (b : Nat) (r : Rd) (w : World) (h : IsIn w b r) (hs : r.s.length ≤ 1000000000) :
    Calls Try.prog 79 #[.pointer (some ⟨b, 0, none⟩)] w fun q w' => q = .returned (.int .u64 ((r.number 8).1 : Int)) ∧ IsIn w' b (r.number 8).2 ∧ w.grownBy w' (some b) := by
  have H := hide h
  clear h
  go_enter Try.func79, Try.ntmps79
  go_wp2_with fail
  refine (number_any b r 8 _ H.out hs (by omega)).mono ?_
  rintro q w1 ⟨rfl, h2, h3⟩
  have H2 := hide h2
  have H3 := hide h3
  clear h2 h3
  go_wp2_with fail
  go_ret
  exact ⟨rfl, H2.out, H3.out⟩
set_option maxHeartbeats 400000 in
theorem left_any (b : Nat) (r : Rd) (w : World) (h : IsIn w b r) :
    Calls Try.prog 99 #[.pointer (some ⟨b, 0, none⟩)] w fun q w' => q = .returned (.int .i64 (r.s.length : Int)) ∧ w = w' := by
  have h1 := h.str
  clear h
  have hsz := size_str r.s
  go_enter Try.func99, Try.ntmps99
  go_wp2
  go_ret
  exact ⟨rfl, rfl⟩
theorem left_nil (w : World) : Calls Try.prog 99 #[.pointer none] w fun q w' => q = .returned (.int .i64 0) ∧ w = w' := by
  go_enter Try.func99, Try.ntmps99
  go_wp2
  go_ret
  exact ⟨rfl, rfl⟩
set_option maxHeartbeats 400000 in
theorem err_any (b : Nat) (r : Rd) (w : World) (h : IsIn w b r) :
    Calls Try.prog 98 #[.pointer (some ⟨b, 0, none⟩)] w fun q w' => q = .returned (.int .i64 r.err) ∧ w = w' := by
  have h1 := h.err
  clear h
  go_enter Try.func98, Try.ntmps98
  go_wp2
  go_ret
  exact ⟨rfl, rfl⟩
theorem err_nil (w : World) : Calls Try.prog 98 #[.pointer none] w fun q w' => q = .returned (.int .i64 1) ∧ w = w' := by
  go_enter Try.func98, Try.ntmps98
  go_wp2
  go_ret
  exact ⟨rfl, rfl⟩
set_option maxHeartbeats 400000 in
theorem end_any (b : Nat) (r : Rd) (w : World) (h : IsIn w b r) :
    Calls Try.prog 53 #[.pointer (some ⟨b, 0, none⟩)] w fun q w' => q = .returned (.int .i64 r.fin) ∧ w = w' := by
  have H := hide h
  clear h
  by_cases he : r.err = 0
  · have hd : (r.err == 0) = true := by simpa using he
    have HE := hide he
    clear he
    by_cases hl : r.s.length = 0
    · have HF := hide (show r.fin = 0 by rw [Rd.fin, if_pos HE.out, if_neg (by omega)])
      have HL := hide hl
      clear hl
      go_enter Try.func53, Try.ntmps53
      go_wp2_with fail
      refine (err_any b r _ H.out).mono ?_
      rintro q w' ⟨rfl, rfl⟩
      go_wp2_with fail
      refine (left_any b r _ H.out).mono ?_
      rintro q w' ⟨rfl, rfl⟩
      rw [HL.out]
      go_wp2_with fail
      go_ret
      exact ⟨by rw [HF.out, HE.out]; rfl, rfl⟩
    · have HF := hide (show r.fin = 4 by rw [Rd.fin, if_pos HE.out, if_pos (by omega)])
      have hl2 : (0 : Int) < (r.s.length : Int) := by omega
      have hd2 : decide (0 < r.s.length) = true := by rw [decide_eq_true_iff]; omega
      go_enter Try.func53, Try.ntmps53
      go_wp2_with fail
      refine (err_any b r _ H.out).mono ?_
      rintro q w' ⟨rfl, rfl⟩
      go_wp2_with fail
      refine (left_any b r _ H.out).mono ?_
      rintro q w' ⟨rfl, rfl⟩
      go_wp2_with fail
      go_ret
      exact ⟨by rw [HF.out]; rfl, rfl⟩
  · have hd : (r.err == 0) = false := by simpa using he
    have HF := hide (show r.fin = r.err by rw [Rd.fin, if_neg he])
    have HE := hide he
    clear he
    go_enter Try.func53, Try.ntmps53
    go_wp2_with fail
    refine (err_any b r _ H.out).mono ?_
    rintro q w' ⟨rfl, rfl⟩
    go_wp2_with fail
    go_ret
    exact ⟨by rw [HF.out]; rfl, rfl⟩
theorem end_nil (w : World) : Calls Try.prog 53 #[.pointer none] w fun q w' => q = .returned (.int .i64 1) ∧ w = w' := by
  go_enter Try.func53, Try.ntmps53
  go_wp2_with (go_at_call 98; refine (err_nil _).mono ?_; rintro q w' ⟨rfl, rfl⟩)
  go_ret
  exact ⟨rfl, rfl⟩
end Go.Proofs.Ytjmbnfcjambdkaa
