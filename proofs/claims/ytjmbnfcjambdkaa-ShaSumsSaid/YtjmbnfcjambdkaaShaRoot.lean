/- sha.below, sha.root. -/
import Derived.Test.YtjmbnfcjambdkaaShaPrimes
import Derived.Test.YtjmbnfcjambdkaaShelf
import Derived.Laws.Externs
namespace Go.Proofs.Ytjmbnfcjambdkaa
open Go.RowKit
/-- Is x, by 2 to the 32nd, below a prime's root? -/
def belowF (x p : Nat) (cube : Bool) : Bool :=
  if cube then decide (x * x % 18446744073709551616 * x / 18446744073709551616 + x * x / 18446744073709551616 * x < p * 4294967296) else decide (x * x / 18446744073709551616 < p)
def rootTo (p : Nat) (cube : Bool) : Nat → Nat
  | 0 => 0
  | k + 1 => if belowF (rootTo p cube k ||| 2 ^ (36 - k)) p cube then rootTo p cube k ||| 2 ^ (36 - k) else rootTo p cube k
def rootF (p : Nat) (cube : Bool) : UInt32 := UInt32.ofNat (rootTo p cube 37)
theorem rootTo_lt (p : Nat) (cube : Bool) : ∀ k, k ≤ 37 → rootTo p cube k < 2 ^ 37
  | 0, _ => by show 0 < _; omega
  | k + 1, h => by
    have ih := rootTo_lt p cube k (by omega)
    have h2 : rootTo p cube k ||| 2 ^ (36 - k) < 2 ^ 37 := Nat.or_lt_two_pow ih (Nat.pow_lt_pow_right (by omega) (by omega))
    unfold rootTo
    split
    · exact h2
    · exact ih
theorem run_add64At (x y : Nat) (w : World) : (callFunc 134 #[.int .u64 (x : Int), .int .u64 (y : Int), .int .u64 0]).run Try.prog w = .ok (.value (.tuple #[.int .u64 (((x + y) % 18446744073709551616 : Nat) : Int), .int .u64 (((x + y) / 18446744073709551616 : Nat) : Int)])) w := by
  rw [run_callFunc_extern Try.func134 (by kernel_rfl) (by kernel_rfl) (by kernel_rfl) (e := add64Entry) (by kernel_rfl), run_add64 x y 0 (by omega) (by omega) (by omega) (by omega)]
  simp only [Result.andThen]
  congr 5 <;> omega
set_option maxRecDepth 20000 in
theorem below_any (x p : Nat) (cube : Bool) (hx : x < 2 ^ 37) (hp : p ≤ 400) (w : World) :
    Calls Try.prog 128 #[.int .u64 (x : Int), .int .u64 (p : Int), .bool cube] w fun e w' => e = .returned (.bool (belowF x p cube)) ∧ w = w' := by
  obtain ⟨h, hh⟩ : ∃ h, Hid (x * x / 18446744073709551616 = h) := ⟨_, hide rfl⟩
  obtain ⟨l, hl⟩ : ∃ l, Hid (x * x % 18446744073709551616 = l) := ⟨_, hide rfl⟩
  have hll : l < 18446744073709551616 := by rw [← hl.out]; omega
  have hxx : x * x < 2 ^ 74 := by
    have := Nat.mul_lt_mul'' hx hx
    rw [← Nat.pow_add] at this; exact this
  have hhl : h < 1024 := by rw [← hh.out]; omega
  have M1 := hide (Try.bits_Mul64 x x (by omega) (by omega))
  have M2 := hide (Try.bits_Mul64 l x hll (by omega))
  have M3 := hide (Try.bits_Mul64 h x (by omega) (by omega))
  rw [hh.out, hl.out] at M1
  go_enter Try.func128, Try.ntmps128
  go_wp2_with fail
  refine (M1.out w).mono ?_
  rintro e1 w1 ⟨rfl, rfl⟩
  cases cube
  · have hd : belowF x p false = decide (h < p) := by unfold belowF; rw [if_neg (by decide), hh.out]
    clear M2 M3
    go_wp2_with fail
    go_ret
    exact ⟨ret_bool (by rw [hd]), rfl⟩
  · obtain ⟨h1, hh1⟩ : ∃ h1, Hid (l * x / 18446744073709551616 = h1) := ⟨_, hide rfl⟩
    have hh1l : h1 < 2 ^ 37 := by
      rw [← hh1.out]
      exact Nat.div_lt_of_lt_mul (Nat.lt_of_le_of_lt (Nat.mul_le_mul_right x (Nat.le_of_lt hll)) (Nat.mul_lt_mul_of_pos_left hx (by omega)))
    have hhx : h * x < 2 ^ 47 := by
      have := Nat.mul_lt_mul'' hhl hx
      omega
    obtain ⟨l2, hl2⟩ : ∃ l2, Hid (h * x = l2) := ⟨_, hide rfl⟩
    rw [hl2.out] at hhx
    have z0 : l2 / 18446744073709551616 = 0 := by omega
    have z1 : l2 % 18446744073709551616 = l2 := by omega
    rw [hh1.out] at M2
    rw [hl2.out, z0, z1] at M3
    have A := run_add64At h1 l2
    rw [show (h1 + l2) % 18446744073709551616 = h1 + l2 by omega, show (h1 + l2) / 18446744073709551616 = 0 by omega] at A
    have hd : belowF x p true = decide (h1 + l2 < p * 4294967296) := by unfold belowF; rw [if_pos rfl, hh.out, hl.out, hh1.out, hl2.out]
    clear z0 z1
    go_wp2_with fail
    refine (M2.out _).mono ?_
    rintro e2 w2 ⟨rfl, rfl⟩
    go_wp2_with fail
    refine (M3.out _).mono ?_
    rintro e3 w3 ⟨rfl, rfl⟩
    go_wp2_with fail
    go_ret
    exact ⟨ret_bool (by rw [hd, decide_eq_decide]; omega), rfl⟩
set_option maxRecDepth 20000 in
set_option maxHeartbeats 2000000 in
theorem root_any (p : Nat) (cube : Bool) (hp : p ≤ 400) (w : World) :
    Calls Try.prog 102 #[.int .u64 (p : Int), .bool cube] w fun e w' => e = .returned (.int .u32 ((rootF p cube).toNat : Int)) ∧ w = w' := by
  go_enter Try.func102, Try.ntmps102
  go_wp2_with fail
  go_loop [6, 5] (fun i x => ∃ k : Nat, k ≤ 37 ∧ i = .int .i64 (36 - (k : Int)) ∧ x = .int .u64 ((rootTo p cube k : Nat) : Int)) (fun i _ => (intOf i + 1).toNat)
  case atStart => exact ⟨0, by omega, rfl, rfl⟩
  case round =>
    obtain ⟨k, hk, rfl, rfl⟩ := hrel
    have hx := rootTo_lt p cube k hk
    by_cases hlt : k < 37
    · obtain ⟨j, hj⟩ : ∃ j, 36 - k = j := ⟨_, rfl⟩
      have hji : (36 : Int) - (k : Int) = (j : Int) := by omega
      have hy : rootTo p cube k ||| 2 ^ j < 2 ^ 37 := Nat.or_lt_two_pow hx (Nat.pow_lt_pow_right (by omega) (by omega))
      have hs : rootTo p cube (k + 1) = if belowF (rootTo p cube k ||| 2 ^ j) p cube then rootTo p cube k ||| 2 ^ j else rootTo p cube k := by rw [← hj]; rfl
      have HS := hide hs
      obtain ⟨X, hX⟩ : ∃ X, Hid (rootTo p cube k = X) := ⟨_, hide rfl⟩
      rw [hX.out] at hx hy HS ⊢
      rw [hji]
      have h2j : (2 : Nat) ^ j < 2 ^ 37 := Nat.pow_lt_pow_right (by omega) (by omega)
      have hor : bits .or .u64 (X : Int) ((2 : Int) ^ j) = ((X ||| 2 ^ j : Nat) : Int) := by
        have := u64_or_nat X (2 ^ j) (by omega) (by omega)
        rw [Int.natCast_pow] at this
        exact this
      have hsh : ((2 : Int) ^ j) % 18446744073709551616 = 2 ^ j := by
        have h9 : ∀ T : Nat, T < 2 ^ 37 → ((T : Nat) : Int) % 18446744073709551616 = (T : Int) := by intro T hT; omega
        have := h9 (2 ^ j) h2j
        rwa [Int.natCast_pow] at this
      have HB := hide (below_any (X ||| 2 ^ j) p cube hy hp)
      obtain ⟨Y, hY⟩ : ∃ Y, Hid (X ||| 2 ^ j = Y) := ⟨_, hide rfl⟩
      rw [hY.out] at HB HS hor
      have hj0 : (0 : Int) ≤ (j : Int) := by omega
      have hj36 : (j : Int) ≤ 36 := by omega
      clear hs hy hx h2j hj
      go_wp2_with fail
      refine (HB.out _).mono ?_
      rintro e1 w1 ⟨rfl, rfl⟩
      have hkj : (j : Int) = 36 - (k : Int) := by omega
      obtain ⟨f, hf⟩ : ∃ f, Hid (belowF Y p cube = f) := ⟨_, hide rfl⟩
      rw [hf.out] at HS ⊢
      have HKJ := hide hkj
      clear hor hsh hkj hji
      cases f
      all_goals
        go_wp2_with fail
        go_round
        case rel => exact ⟨k + 1, by omega, by have := HKJ.out; rw [this]; go_num, by rw [HS.out]; rfl⟩
        case measure => first | (simp [intOf]; done) | (have := HKJ.out; simp [intOf]; omega)
    · obtain rfl : k = 37 := by omega
      go_wp2_with fail
      go_ret
      refine ⟨?_, rfl⟩
      rw [rootF, UInt32.toNat_ofNat', Int.natCast_emod]; rfl
end Go.Proofs.Ytjmbnfcjambdkaa
