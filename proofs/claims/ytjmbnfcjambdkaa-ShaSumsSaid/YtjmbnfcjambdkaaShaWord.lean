/- Words of thirty-two bits as the walks see them; bits.RotateLeft32. -/
import Derived.Test.YtjmbnfcjambdkaaWireOwn
import Derived.Laws.BitsAllLaws
import Derived.Deep.QuietTactic
import Derived.BigQuiet
import Derived.IntWalk
namespace Go.Proofs.Ytjmbnfcjambdkaa
open Go.RowKit
/-- A word's number. -/
abbrev wn (x : UInt32) : Int := (x.toNat : Int)
theorem wn_lt (x : UInt32) : x.toNat < 4294967296 := x.toNat_lt
/-- The words' operations, under names that no rule of simp opens. -/
def wand (x y : UInt32) : UInt32 := x &&& y
def wor (x y : UInt32) : UInt32 := x ||| y
def wxor (x y : UInt32) : UInt32 := x ^^^ y
def wnot (x : UInt32) : UInt32 := ~~~x
def wadd (x y : UInt32) : UInt32 := x + y
@[go_sem] theorem w_and (x y : UInt32) : bits .and .u32 (x.toNat : Int) (y.toNat : Int) = ((wand x y).toNat : Int) := by
  rw [u32_and_nat _ _ (wn_lt x) (wn_lt y), wand, UInt32.toNat_and]
@[go_sem] theorem w_or (x y : UInt32) : bits .or .u32 (x.toNat : Int) (y.toNat : Int) = ((wor x y).toNat : Int) := by
  rw [u32_or_nat _ _ (wn_lt x) (wn_lt y), wor, UInt32.toNat_or]
@[go_sem] theorem w_xor (x y : UInt32) : bits .xor .u32 (x.toNat : Int) (y.toNat : Int) = ((wxor x y).toNat : Int) := by
  rw [u32_xor_nat _ _ (wn_lt x) (wn_lt y), wxor, UInt32.toNat_xor]
@[go_sem] theorem w_not (x : UInt32) : bits .xor .u32 4294967295 (x.toNat : Int) = ((wnot x).toNat : Int) := by
  have h := u32_xor_nat 4294967295 x.toNat (by omega) (wn_lt x)
  rw [show ((4294967295 : Nat) : Int) = 4294967295 from rfl] at h
  rw [h]
  have e : wnot x = (4294967295 : UInt32) ^^^ x := by
    unfold wnot
    apply UInt32.toBitVec_inj.1
    simp only [UInt32.toBitVec_not, UInt32.toBitVec_xor]
    show ~~~x.toBitVec = BitVec.allOnes 32 ^^^ x.toBitVec
    rw [BitVec.allOnes_xor]
  rw [e, UInt32.toNat_xor]; rfl
@[go_sem] theorem w_not' (x : UInt32) : bits .xor .u32 (if IntKind.u32.signed = true then -1 else IntKind.u32.max) (x.toNat : Int) = ((wnot x).toNat : Int) := by
  rw [show (if IntKind.u32.signed = true then (-1 : Int) else IntKind.u32.max) = 4294967295 from by decide]
  exact w_not x
@[go_sem] theorem w_add (x y : UInt32) : IntKind.u32.wrap ((x.toNat : Int) + (y.toNat : Int)) = ((wadd x y).toNat : Int) := by
  rw [wadd, UInt32.toNat_add, IntKind.wrap_u32']; omega
@[go_sem] theorem w_add' (x y : UInt32) : ((x.toNat : Int) + (y.toNat : Int)) % 4294967296 = ((wadd x y).toNat : Int) := by
  rw [wadd, UInt32.toNat_add]; omega
/-- Shifts. -/
def shl (x : UInt32) (s : Nat) : UInt32 := UInt32.ofNat (x.toNat * 2 ^ s)
def shr (x : UInt32) (s : Nat) : UInt32 := UInt32.ofNat (x.toNat / 2 ^ s)
theorem shl_nat (x : UInt32) (s : Nat) : ((shl x s).toNat : Int) = ((x.toNat : Int) * 2 ^ s) % 4294967296 := by
  unfold shl
  rw [UInt32.toNat_ofNat', Int.natCast_emod, Int.natCast_mul, Int.natCast_pow]
  rfl
theorem shr_nat (x : UInt32) (s : Nat) : ((shr x s).toNat : Int) = (x.toNat : Int) / 2 ^ s := by
  unfold shr
  rw [UInt32.toNat_ofNat', Nat.mod_eq_of_lt (Nat.lt_of_le_of_lt (Nat.div_le_self _ _) (wn_lt x)), Int.natCast_ediv, Int.natCast_pow]
  rfl
def rotl (x : UInt32) (s : Nat) : UInt32 := wor (shl x s) (shr x (32 - s))
set_option maxRecDepth 20000 in
theorem rot_any (x : UInt32) (k : Int) (s : Nat) (h1 : 1 ≤ s) (h2 : s ≤ 31) (hk : bits .and .u64 (IntKind.u64.wrap k) 31 = (s : Int)) (w : World) :
    Calls Try.prog 104 #[.int .u32 (x.toNat : Int), .int .i64 k] w fun e w' => e = .returned (.int .u32 ((rotl x s).toNat : Int)) ∧ w' = w := by
  have hl := shl_nat x s
  have hr := shr_nat x (32 - s)
  obtain ⟨t, ht⟩ : ∃ t : Nat, (32 : Int) - (s : Int) = (t : Int) ∧ 32 - s = t := ⟨32 - s, by omega, rfl⟩
  obtain ⟨ht1, ht2⟩ := ht
  go_enter Try.func104, Try.ntmps104
  go_wp2_with fail
  go_ret
  refine ⟨?_, rfl⟩
  rw [rotl, ← w_or, hl, hr, ht2]; rfl
/-- The rotations that the rounds use. -/
theorem rot_at (x : UInt32) (k : Int) (s : Nat) (h : 1 ≤ s ∧ s ≤ 31 ∧ bits .and .u64 (IntKind.u64.wrap k) 31 = (s : Int)) (w : World) :
    Calls Try.prog 104 #[.int .u32 (x.toNat : Int), .int .i64 k] w fun e w' => e = .returned (.int .u32 ((rotl x s).toNat : Int)) ∧ w' = w := rot_any x k s h.1 h.2.1 h.2.2 w
end Go.Proofs.Ytjmbnfcjambdkaa
