/- The document's Same; the small functions of package dart; the law package's own example of layer 8. -/
import Derived.Test.YtkkfnpbbigcpbaaInsert
namespace Go.Proofs.Ytkkfnpbbigcpbaa
open Go.RowKit

theorem take_more_int {x y : List Int} {k : Nat} {ha : k < x.length} {hb : k < y.length} (hp : x.take k = y.take k) (he : x[k] = y[k]) : x.take (k + 1) = y.take (k + 1) := by
  rw [List.take_succ_eq_append_getElem ha, List.take_succ_eq_append_getElem hb, hp, he]
theorem same_no {x y : List Int} {k : Nat} {ha : k < x.length} {hb : k < y.length} (hne : x[k] ≠ y[k]) : decide (x = y) = false := by
  simp; rintro rfl; exact hne rfl
theorem same_yes {x y : List Int} {k : Nat} (hl : x.length = y.length) (hk : x.length ≤ k) (hp : x.take k = y.take k) : decide (x = y) = true := by
  rw [List.take_of_length_le hk, List.take_of_length_le (by omega)] at hp
  simp [hp]

set_option maxHeartbeats 400000 in
set_option maxRecDepth 20000 in
theorem same_u32 (v u : Value) (n m : Nat) (xs ys : List Int) (w : World) (ln : xs.length = n) (lm : ys.length = m) (hr : Reads w 1 v n (nums xs)) (hr' : Reads w 1 u m (nums ys)) :
    Calls Try.prog 34 #[v, u] w fun e w' => e = .returned (.bool (decide (xs = ys))) ∧ Below w.heap.size w w' := by
  subst ln
  subst lm
  have hv : ∃ a c, v = .slice a xs.length c ∧ (a = none → xs.length = 0) := by
    obtain ⟨_, _, _, ⟨rfl, hn⟩ | ⟨b, o, c, rfl, _⟩⟩ := hr
    · exact ⟨none, 0, by rw [hn], fun _ => hn⟩
    · exact ⟨_, _, rfl, by simp⟩
  have hu : ∃ a c, u = .slice a ys.length c ∧ (a = none → ys.length = 0) := by
    obtain ⟨_, _, _, ⟨rfl, hn⟩ | ⟨b, o, c, rfl, _⟩⟩ := hr'
    · exact ⟨none, 0, by rw [hn], fun _ => hn⟩
    · exact ⟨_, _, rfl, by simp⟩
  obtain ⟨a, c, rfl, hna⟩ := hv
  obtain ⟨a', c', rfl, hna'⟩ := hu
  have hm : xs.length ≤ 9223372036854775807 := by have := hr.2.2.1; unfold maxLen at this; omega
  have hm' : ys.length ≤ 9223372036854775807 := by have := hr'.2.2.1; unfold maxLen at this; omega
  by_cases hl : xs.length = ys.length
  · have hlen : ((xs.length : Int) != (ys.length : Int)) = false := by simp [hl]
    have HL := hide hl
    have HR := hide hr
    have HR' := hide hr'
    have HA := hide hna
    have HA' := hide hna'
    clear hl hr hr' hna hna'
    go_enter Try.func34, Try.ntmps34
    go_wp2_with fail
    go_loopw [13, 5] (fun i _ wr => ∃ k : Nat, k ≤ xs.length ∧ i = .int .i64 k ∧ xs.take k = ys.take k ∧ ∃ n, wr = w.drewN n) (fun i _ _ => xs.length - (intOf i).toNat)
    case atStart => exact ⟨0, by omega, rfl, rfl, 0, rfl⟩
    case round =>
      obtain ⟨k, hk, rfl, hp, nn, rfl⟩ := hrel
      have HP := hide hp
      clear hp
      by_cases hlt : k < xs.length
      · have hlt' : k < ys.length := by have := HL.out; omega
        obtain ⟨b, o, rfl, hc⟩ : ∃ b o, a = some ⟨b, o, none⟩ ∧ w.cell? ⟨b, o + k, none⟩ = some (.int .u32 xs[k]) := by
          obtain ⟨_, _, _, ⟨he, hn⟩ | ⟨b, o, c, he, _, _, h⟩⟩ := HR.out
          · omega
          · cases he; exact ⟨b, o, rfl, h k _ (nums_get xs k hlt)⟩
        obtain ⟨b', o', rfl, hc'⟩ : ∃ b o, a' = some ⟨b, o, none⟩ ∧ w.cell? ⟨b, o + k, none⟩ = some (.int .u32 ys[k]) := by
          obtain ⟨_, _, _, ⟨he, hn⟩ | ⟨b, o, c, he, _, _, h⟩⟩ := HR'.out
          · omega
          · cases he; exact ⟨b, o, rfl, h k _ (nums_get ys k hlt')⟩
        have hi1 : (0 : Int) ≤ (k : Int) := by omega
        have hi2 : (k : Int) < (xs.length : Int) := by omega
        have hi3 : (k : Int) < (ys.length : Int) := by omega
        by_cases he : xs[k] = ys[k]
        · have hE : (xs[k] != ys[k]) = false := by simp [he]
          have HE := hide he
          clear he
          go_wp2_with fail
          go_quiet (fail)
          go_wp2_with fail
          go_roundw
          case rel => exact ⟨k + 1, by omega, by go_num, take_more_int HP.out HE.out, _, rfl⟩
          case measure => simp [intOf]; omega
        · have hE : (xs[k] != ys[k]) = true := by simp [he]
          have HE := hide he
          clear he
          go_wp2_with fail
          go_quiet (fail)
          go_wp2_with fail
          go_ret
          exact ⟨ret_bool (same_no HE.out).symm, below_drewN (below_drewN (Below.refl _ w) _) _⟩
      · go_wp2_with fail
        go_ret
        exact ⟨ret_bool (same_yes HL.out (by omega) HP.out).symm, below_drewN (Below.refl _ w) _⟩
  · have hlen : ((xs.length : Int) != (ys.length : Int)) = true := by simp; omega
    have hne : decide (xs = ys) = false := by simp; rintro rfl; exact hl rfl
    rw [hne]
    clear hne hl
    go_enter Try.func34, Try.ntmps34
    go_wp2_with fail
    go_ret
    exact ⟨rfl, Below.refl _ w⟩

theorem nat_xor_one (m : Nat) : m ^^^ 1 = if m % 2 = 0 then m + 1 else m - 1 := by
  have h1 : (m ^^^ 1) / 2 = m / 2 := by rw [Nat.xor_div_two]; simp
  have h2 := @Nat.xor_mod_two_eq_one m 1
  split <;> omega
theorem nat_or_bit (a b : Nat) (ha : a % 2 = 0) (hb : b < 2) : a ||| b = a + b := by
  have h1 : (a ||| b) / 2 = a / 2 := by rw [Nat.or_div_two, Nat.div_eq_of_lt hb]; simp
  have h2 := @Nat.or_mod_two_eq_one a b
  omega
theorem i64_and1 (n : Int) : bits .and .i64 n 1 = n % 2 := by
  have h1 : (BitVec.ofInt 64 1).toNat = 2 ^ 1 - 1 := by decide
  have key : (BitVec.ofInt 64 n &&& BitVec.ofInt 64 1).toNat = (n % ((2 ^ 64 : Nat) : Int)).toNat % 2 ^ 1 := by
    rw [BitVec.toNat_and, BitVec.toNat_ofInt, h1, Nat.and_two_pow_sub_one_eq_mod]
  show IntKind.i64.wrap ((BitVec.ofInt 64 n &&& BitVec.ofInt 64 1).toNat : Nat) = n % 2
  rw [key, IntKind.wrap_i64]
  omega
/-- The other end of a dart. -/
def twinOf (d : Int) : Int := if d % 2 = 0 then d + 1 else d - 1
theorem u32_xor1 (d : Int) (h0 : 0 ≤ d) (h1 : d ≤ 4294967295) : bits .xor .u32 d 1 = twinOf d := by
  rw [u32_xor d 1 h0 (by omega) (by omega) (by omega), show (1 : Int).toNat = 1 from rfl, nat_xor_one]
  unfold twinOf
  split <;> split <;> omega
theorem twinOf_bd (d : Int) (h0 : 0 ≤ d) (h1 : d ≤ 4294967295) : 0 ≤ twinOf d ∧ twinOf d ≤ 4294967295 := by
  unfold twinOf; split <;> omega
/-- The dart of an edge at an end. -/
def dartOf (id e : Int) : Int := (id * 2) % 4294967296 + e % 2
theorem u32_dart (id e : Int) (h0 : 0 ≤ id) : bits .or .u32 (id * 2 % 4294967296) (bits .and .i64 e 1 % 4294967296) = dartOf id e := by
  rw [i64_and1, u32_or _ _ (by omega) (by omega) (by omega) (by omega), nat_or_bit _ _ (by omega) (by omega)]
  unfold dartOf
  omega

set_option maxHeartbeats 400000 in
theorem of_u32 (id e : Int) (w : World) (h0 : 0 ≤ id) (h1 : id ≤ 4294967295) (h2 : -9223372036854775808 ≤ e) (h3 : e ≤ 9223372036854775807) :
    Calls Try.prog 22 #[.int .u32 id, .int .i64 e] w fun e' w' => e' = .returned (.int .u32 (dartOf id e)) ∧ w = w' := by
  go_enter Try.func22, Try.ntmps22
  go_wp2_with fail
  go_ret
  exact ⟨ret_int (u32_dart id e h0), rfl⟩
set_option maxHeartbeats 400000 in
theorem edge_u32 (d : Int) (w : World) (h0 : 0 ≤ d) (h1 : d ≤ 4294967295) :
    Calls Try.prog 23 #[.int .u32 d] w fun e' w' => e' = .returned (.int .u32 (d / 2)) ∧ w = w' := by
  go_enter Try.func23, Try.ntmps23
  go_wp2_with fail
  go_ret
  exact ⟨rfl, rfl⟩
set_option maxHeartbeats 400000 in
theorem twin_u32 (d : Int) (w : World) (h0 : 0 ≤ d) (h1 : d ≤ 4294967295) :
    Calls Try.prog 24 #[.int .u32 d] w fun e' w' => e' = .returned (.int .u32 (twinOf d)) ∧ w = w' := by
  go_enter Try.func24, Try.ntmps24
  go_wp2_with fail
  go_ret
  exact ⟨ret_int (u32_xor1 d h0 h1), rfl⟩

/-- The cells of a row, laid in a new block. -/
theorem reads_new (w : World) (xs : List Int) (e : TypeId) (hn : xs.length ≤ maxLen) : Reads (w.alloc (.cells (nums xs).toArray e)) 1 (.slice (some ⟨w.heap.size, 0, none⟩) xs.length xs.length) xs.length (nums xs) :=
  ⟨by rw [nums_length]; omega, nums_one _, hn, .inr ⟨_, _, _, rfl, Nat.le_refl _, hn, fun j u hj => by
    rw [cell_of_row _ _ _ _ _ _ (heap_alloc_new w _), Nat.zero_add]; simpa using hj⟩⟩

set_option maxHeartbeats 400000 in
set_option maxRecDepth 20000 in
theorem awake08_any (w : World) :
    Calls Try.prog 21 #[] w fun e w' => e = .returned (.bool true) ∧ Below w.heap.size w w' := by
  go_enter Try.func21, Try.ntmps21
  go_wp2_with fail
  have r1 : Reads ((w.alloc (.cells #[.int .u32 2, .int .u32 5, .int .u32 7] 28)).alloc (.cells #[.int .u32 9] 28)) 1 (.slice (some ⟨w.heap.size, 0, none⟩) 3 3) 3 (nums [2, 5, 7]) := (reads_new w [2, 5, 7] 28 (by decide)).alloc _
  have r2 : Reads ((w.alloc (.cells #[.int .u32 2, .int .u32 5, .int .u32 7] 28)).alloc (.cells #[.int .u32 9] 28)) 1 (.slice (some ⟨w.heap.size + 1, 0, none⟩) 1 1) 1 (nums [9]) := by
    have := reads_new (w.alloc (.cells #[.int .u32 2, .int .u32 5, .int .u32 7] 28)) [9] 28 (by decide)
    rw [show (w.alloc (.cells #[.int .u32 2, .int .u32 5, .int .u32 7] 28)).heap.size = w.heap.size + 1 by simp] at this
    exact this
  have h1 := insert_u32 w.heap.size 0 3 [2, 5, 7] 5 (some ⟨w.heap.size + 1, 0, none⟩) 1 [9] _ r1 r2 (by decide)
  rw [show rot (insAt [2, 5, 7] (placeOf [2, 5, 7] 5) [9]) = [2, 5, 9, 7] by decide] at h1
  have H1 := hide h1
  clear h1 r1 r2
  refine H1.out.mono ?_
  rintro e w1 ⟨⟨a1, c1, rfl, hown⟩, hb1⟩
  have hz1 := hb1.size
  have hB1 : Below w.heap.size w w1 := (((Below.refl _ w).alloc (Nat.le_refl _) _).alloc (by simp) _).trans (hb1.mono (by simp; omega))
  have HO := hide hown
  clear hown hb1 H1
  go_wp2_with fail
  have r3 : Reads (w1.alloc (.cells #[.int .u32 2, .int .u32 5, .int .u32 9, .int .u32 7] 28)) 1 (.slice (some ⟨w1.heap.size, 0, none⟩) 4 4) 4 (nums [2, 5, 9, 7]) := reads_new w1 [2, 5, 9, 7] 28 (by decide)
  have r4 : Reads (w1.alloc (.cells #[.int .u32 2, .int .u32 5, .int .u32 9, .int .u32 7] 28)) 1 (.slice a1 4 c1) 4 (nums [2, 5, 9, 7]) := (Reads.owned HO.out (nums_one _) (by decide)).alloc _
  have h2 := same_u32 _ _ 4 4 _ _ _ rfl rfl r4 r3
  rw [show decide (([2, 5, 9, 7] : List Int) = [2, 5, 9, 7]) = true by decide] at h2
  have H2 := hide h2
  clear h2 r3 r4
  refine H2.out.mono ?_
  rintro e w2 ⟨rfl, hb2⟩
  have hB2 := (hB1.alloc hB1.size _).trans (hb2.mono (by have := hB1.size; simp; omega))
  clear hb2 H2
  have hd : dartOf 3 0 = 6 := by decide
  have ht : twinOf 6 = 7 := by decide
  go_wp2_with (first
    | (go_at_call 22; refine (of_u32 3 0 _ (by decide) (by decide) (by decide) (by decide)).mono ?_; rintro e w' ⟨rfl, rfl⟩)
    | (go_at_call 24; refine (twin_u32 6 _ (by decide) (by decide)).mono ?_; rintro e w' ⟨rfl, rfl⟩))
  go_ret
  exact ⟨rfl, hB2⟩
end Go.Proofs.Ytkkfnpbbigcpbaa
