/- ShaSums: what it returns. -/
import Derived.Test.YtjmbnfcjambdkaaShaAwake
import Derived.Test.YtjmbnfcjambdkaaShaShort
import Derived.Test.YtjmbnfcjambdkaaShaRefSum
import Derived.Test.YtjmbnfcjambdkaaInv
import Derived.Test.YtjmbnfcjambdkaaDigEq
namespace Go.Proofs.Ytjmbnfcjambdkaa.shaSums
open Go.RowKit
/-- What a slot of the last region bears. -/
inductive Kind | val (v : Value) | row (xs : List ByteArray)
def Kind.says : Kind → Value → World → Prop
  | .val u, v, _ => v = u
  | .row xs, v, w => Reads w 1 v xs.length (strs xs)
def kinds (s t a : List UInt8) (D : Dig) (n : Int) : List Kind :=
  let S : ByteArray := ⟨s.toArray⟩
  let T : ByteArray := ⟨t.toArray⟩
  let A : ByteArray := ⟨a.toArray⟩
  let d : Kind := .val (.agg (dgst D))
  let b : Kind := .val (.bool true)
  let q : Kind := .val (.int .u64 (num (D.bytes.take 8) : Int))
  [.val (.string T), .row [T], d, d, b, b, .val (.string S), .val (.int .u8 n), .val (.int .i64 n), .val (.string A), .row [S, A], d, d, b, b, b, .val (.string T), .row [T], q, q, b, b, b]
def V (s t a : List UInt8) (D : Dig) (n : Int) (i : Nat) (v : Value) (w : World) : Prop := ∀ k, (kinds s t a D n)[i]? = some k → k.says v w
theorem V_below {s t a : List UInt8} {D : Dig} {n : Int} (i : Nat) (v : Value) (w w' : World) (h : V s t a D n i v w) (hb : Below w.heap.size w w') : V s t a D n i v w' := fun k hk => by
  have := h k hk
  cases k with
  | val u => exact this
  | row xs => exact Reads.below this hb
theorem same_dgst (d : Dig) (w : World) : (Op.equalIn 10000 24 (.agg (dgst d)) (.agg (dgst d))).run Try.prog w = .ok true w := by rw [run_equalIn_dgst]; simp
theorem row_fits (xs : List ByteArray) (T : TypeId) (w : World) (n : Nat) (hn : n = xs.length) (hx : xs.length ≤ 100) : Reads (w.alloc (.cells (strs xs).toArray T)) 1 (.slice (some ⟨w.heap.size, 0, none⟩) n n) xs.length (strs xs) := by
  subst hn
  exact reads_fresh w (strs xs) T 1 xs.length (by simp [strs]) (by intro u hu; simp only [strs, List.mem_map] at hu; obtain ⟨x, _, rfl⟩ := hu; rfl) (by unfold maxLen; omega)
theorem get_bool {l : Array Value} {t : Nat} {b : Bool} (h : l.getD t undef = .bool b) : l[t]? = some (.bool b) := by
  rw [Array.getD_eq_getD_getElem?] at h
  cases hl : l[t]? with
  | none => rw [hl] at h; cases h
  | some v => rw [hl] at h; simpa using h
theorem raw_one (s : List UInt8) : s = raw [⟨s.toArray⟩] := by simp [raw]
theorem raw_two (s a : List UInt8) : s ++ a = raw [⟨s.toArray⟩, ⟨a.toArray⟩] := by simp [raw]
theorem rep_a (c : Nat) : Lib.repeatL ([97] : List UInt8) c = List.replicate c 97 := by
  induction c with
  | zero => rfl
  | succ c ih => simp [Lib.repeatL, List.replicate_succ] at ih ⊢; exact ih
set_option maxRecDepth 20000 in
set_option maxHeartbeats 4000000 in
theorem walk (s0 : ByteArray) (n : Int) (w : World) (_hs : s0.size ≤ maxLen) (hn : (Lit.int .u8 n).wf = true) :
    Calls Try.prog 8 #[.string s0, .int .u8 n] w fun e w' => e = .returned (.bool true) ∧ Below w.heap.size w w' := by
  obtain ⟨⟨s⟩⟩ := s0
  have hn0 : 0 ≤ n ∧ n ≤ 255 := by
    have : IntKind.u8.min ≤ n ∧ n ≤ IntKind.u8.max := by simpa [Lit.wf] using hn
    simpa [IntKind.min, IntKind.max, IntKind.signed, IntKind.bits] using this
  obtain ⟨N, rfl⟩ : ∃ N : Nat, n = (N : Int) := ⟨n.toNat, by omega⟩
  have hN : N ≤ 255 := by omega
  clear hn hn0
  go_enter Try.func8, Try.ntmps8
  go_wp2_with fail
  refine (awake01_any w).mono ?_
  rintro e1 w1 ⟨rfl, hb1⟩
  have HB1 := hide hb1
  clear hb1
  have hl := ba_len' s
  by_cases hlen : 2000 < s.length
  · go_wp2_with fail
    go_ret
    exact ⟨rfl, HB1.out⟩
  · have RP := hide (fun w => Try.strings_Repeat ⟨#[97]⟩ N w (by omega) (by show 1 * N ≤ _; omega))
    rw [show Lib.repeatL (⟨#[97]⟩ : ByteArray).data.toList N = List.replicate N 97 from rep_a N] at RP
    obtain ⟨a, ha⟩ : ∃ a, Hid (List.replicate N (97 : UInt8) = a) := ⟨_, hide rfl⟩
    have hal : a.length = N := by rw [← ha.out, List.length_replicate]
    rw [ha.out] at RP
    obtain ⟨t, ht⟩ : ∃ t, Hid (s ++ a = t) := ⟨_, hide rfl⟩
    have hcat : (⟨s.toArray⟩ : ByteArray) ++ ⟨a.toArray⟩ = ⟨t.toArray⟩ := by rw [← ht.out]; exact cat_str s a
    have htl : t.length ≤ 3000 := by rw [← ht.out, List.length_append]; omega
    have hcl : ¬ 9223372036854775807 < s.length + a.length := by omega
    have R1 := hide (raw_one t)
    have R2 := hide (show t = raw [⟨s.toArray⟩, ⟨a.toArray⟩] by rw [← ht.out]; exact raw_two s a)
    have HAL := hide hal
    clear hal
    go_wp2_with fail
    refine (RP.out _).mono ?_
    rintro e2 w2 ⟨rfl, hb2⟩
    have HB2 := hide (HB1.out.trans (hb2.mono HB1.out.size))
    clear hb2
    go_wp2_with fail
    refine (refSum_any t _ (by omega)).mono ?_
    rintro e3 w3 ⟨rfl, hb3⟩
    have HB3 := hide (HB2.out.trans (hb3.mono HB2.out.size))
    clear hb3
    obtain ⟨D, hD⟩ : ∃ D, Hid (shaOf t = D) := ⟨_, hide rfl⟩
    rw [hD.out]
    have hrow : ((w3.alloc (.cells (dgst dig0) 24)).setRow w3.heap.size (dgst D)).rowCells w3.heap.size = dgst D := rowCells_setRow_same (n := 32) _ (rowOk_of 32 (heap_alloc_new w3 _))
    have hz : ((w3.alloc (.cells (dgst dig0) 24)).setRow w3.heap.size (dgst D)).heap.size = w3.heap.size + 1 := by rw [size_setRow]; simp
    have HB4 := hide (below_setRow (HB3.out.alloc HB3.out.size (.cells (dgst dig0) 24)) (g := w3.heap.size) HB3.out.size (dgst D))
    go_wp2_with fail
    have key : ∀ k, k < 32 → ((w3.alloc (.cells (dgst dig0) 24)).setRow w3.heap.size (dgst D)).cell? ⟨w3.heap.size, k, none⟩ = some (.int .u8 ((D.bytes.getD k 0).toNat : Int)) := fun k hk => cell_dgst hrow k hk
    obtain ⟨W, hW⟩ : ∃ W, (w3.alloc (.cells (dgst dig0) 24)).setRow w3.heap.size (dgst D) = W := ⟨_, rfl⟩
    rw [hW] at hrow hz HB4 key ⊢
    have KEY := hide key
    clear key hW
    go_loop [21, 7, 8] (fun i m _ => ∃ k : Nat, k ≤ 8 ∧ i = .int .i64 k ∧ m = .int .u64 (num (D.bytes.take k) : Int)) (fun i _ _ => 8 - (intOf i).toNat)
    case atStart => exact ⟨0, by omega, rfl, rfl⟩
    case round =>
      obtain ⟨k, hk, rfl, rfl⟩ := hrel
      by_cases hlt : k < 8
      · have hk32 : k < D.bytes.length := by rw [D.len]; omega
        have hcell := KEY.out k (by omega)
        obtain ⟨c, hc⟩ : ∃ c, Hid (D.bytes.getD k 0 = c) := ⟨_, hide rfl⟩
        rw [hc.out] at hcell
        have hcl := byte_le c
        have hlti : (k : Int) < 8 := by omega
        have hki : (k : Int) < 32 := by omega
        have hnum : num (D.bytes.take k) < 256 ^ 7 := num_take_lt' D.bytes k 7 (by omega)
        have HS := hide (show num (D.bytes.take (k + 1)) = num (D.bytes.take k) * 256 + c.toNat by
          rw [List.take_succ_eq_append_getElem hk32, num_snoc, ← hc.out, List.getD_eq_getElem?_getD, List.getElem?_eq_getElem hk32]; rfl)
        have hnl : (num (D.bytes.take k) : Int) < 72057594037927936 := by have : (256 : Nat) ^ 7 = 72057594037927936 := rfl
                                                                          omega
        have hn0 : (0 : Int) ≤ (num (D.bytes.take k) : Int) := by omega
        clear hnum
        go_wp2_with fail
        go_round
        case rel => exact ⟨k + 1, by omega, by go_num, by rw [HS.out]; push_cast; rfl⟩
        case measure => simp [intOf]; omega
      · have hk8 : k = 8 := by omega
        subst hk8
        have hlti : ¬ ((8 : Nat) : Int) < 8 := by omega
        go_wp2_with fail
        refine wp_region_kept (V s t a D N) (by kernel_rfl) (by kernel_rfl) (by kernel_rfl) V_below ?_ ?_
        · refine kept_steps ⟨?_, ?_, ?_, ?_, ?_, ?_, ?_, ?_, ?_, ?_, ?_, ?_, ?_, ?_, ?_, ?_, ?_, ?_, ?_, ?_, ?_, ?_, ?_, trivial⟩
          · intro b w hB hO hE K' hK
            have g5 : b.tmps.getD 5 undef = .string ⟨t.toArray⟩ := hO 5 (by kernel_rfl)
            go_simp
            exact hK _ _ (fun k hk => by cases hk; rfl) (Below.refl _ _)
          · intro b w hB hO hE K' hK
            have g32 := hE 0 32 (by kernel_rfl) _ rfl
            simp only [Kind.says] at g32
            have p32 := g32
            rw [Array.getD_eq_getD_getElem?] at p32
            go_simp
            exact hK _ _ (fun k hk => by cases hk; exact row_fits _ _ w _ rfl (by simp)) ((Below.refl _ w).alloc (Nat.le_refl _) _)
          · intro b w hB hO hE K' hK
            have g33 := hE 1 33 (by kernel_rfl) _ rfl
            obtain ⟨v, hv⟩ : ∃ v, b.tmps.getD 33 undef = v := ⟨_, rfl⟩
            have R : Reads w 1 v ([⟨t.toArray⟩] : List ByteArray).length (strs [⟨t.toArray⟩]) := hv ▸ g33
            have p33 := hv
            rw [Array.getD_eq_getD_getElem?] at p33
            have HS := hide (sum_any v [⟨t.toArray⟩] t R1.out w R (by simp) (by omega))
            rw [hD.out] at HS
            clear R g33
            go_simp
            refine HS.out.mono ?_
            rintro e' w' ⟨rfl, hb⟩
            exact hK _ _ (fun k hk => by cases hk; rfl) hb
          · intro b w hB hO hE K' hK
            have g6 : b.tmps.getD 6 undef = .pointer (some ⟨w3.heap.size, 0, none⟩) := hO 6 (by kernel_rfl)
            have r : w.rowCells w3.heap.size = dgst D := rowAt_below hB (by show w3.heap.size < W.heap.size; omega) hrow
            go_simp
            exact hK _ _ (fun k hk => by cases hk; rfl) (Below.refl _ _)
          · intro b w hB hO hE K' hK
            have g34 := hE 2 34 (by kernel_rfl) _ rfl
            simp only [Kind.says] at g34
            have g35 := hE 3 35 (by kernel_rfl) _ rfl
            simp only [Kind.says] at g35
            go_simp
            rw [same_dgst]
            exact hK _ _ (fun k hk => by cases hk; rfl) (Below.refl _ _)
          · intro b w hB hO hE K' hK
            have g36 := hE 4 36 (by kernel_rfl) _ rfl
            simp only [Kind.says] at g36
            go_simp
            exact hK _ _ (fun k hk => by cases hk; rfl) (Below.refl _ _)
          · intro b w hB hO hE K' hK
            have g0 : b.tmps.getD 0 undef = .string ⟨s.toArray⟩ := hO 0 (by kernel_rfl)
            have g37 := hE 5 37 (by kernel_rfl) _ rfl
            simp only [Kind.says] at g37
            have q := get_bool g37
            go_simp
            exact hK _ _ (fun k hk => by cases hk; rfl) (Below.refl _ _)
          · intro b w hB hO hE K' hK
            have g1 : b.tmps.getD 1 undef = .int .u8 (N : Int) := hO 1 (by kernel_rfl)
            have g37 := hE 5 37 (by kernel_rfl) _ rfl
            simp only [Kind.says] at g37
            have q := get_bool g37
            go_simp
            exact hK _ _ (fun k hk => by cases hk; rfl) (Below.refl _ _)
          · intro b w hB hO hE K' hK
            have g39 := hE 7 39 (by kernel_rfl) _ rfl
            simp only [Kind.says] at g39
            have g37 := hE 5 37 (by kernel_rfl) _ rfl
            simp only [Kind.says] at g37
            have q := get_bool g37
            have hw8 : IntKind.i64.wrap (N : Int) = (N : Int) := IntWalk.i64_in _ (by omega)
            go_simp
            exact hK _ _ (fun k hk => by cases hk; rfl) (Below.refl _ _)
          · intro b w hB hO hE K' hK
            have g40 := hE 8 40 (by kernel_rfl) _ rfl
            simp only [Kind.says] at g40
            have g37 := hE 5 37 (by kernel_rfl) _ rfl
            simp only [Kind.says] at g37
            have q := get_bool g37
            go_simp
            refine (RP.out _).mono ?_
            rintro e' w' ⟨rfl, hb⟩
            exact hK _ _ (fun k hk => by cases hk; rfl) hb
          · intro b w hB hO hE K' hK
            have g38 := hE 6 38 (by kernel_rfl) _ rfl
            simp only [Kind.says] at g38
            have g41 := hE 9 41 (by kernel_rfl) _ rfl
            simp only [Kind.says] at g41
            have g37 := hE 5 37 (by kernel_rfl) _ rfl
            simp only [Kind.says] at g37
            have q := get_bool g37
            have p38 := g38
            rw [Array.getD_eq_getD_getElem?] at p38
            have p41 := g41
            rw [Array.getD_eq_getD_getElem?] at p41
            go_simp
            exact hK _ _ (fun k hk => by cases hk; exact row_fits _ _ w _ rfl (by simp)) ((Below.refl _ w).alloc (Nat.le_refl _) _)
          · intro b w hB hO hE K' hK
            have g42 := hE 10 42 (by kernel_rfl) _ rfl
            have g37 := hE 5 37 (by kernel_rfl) _ rfl
            simp only [Kind.says] at g37
            have q := get_bool g37
            obtain ⟨v, hv⟩ : ∃ v, b.tmps.getD 42 undef = v := ⟨_, rfl⟩
            have R : Reads w 1 v ([⟨s.toArray⟩, ⟨a.toArray⟩] : List ByteArray).length (strs [⟨s.toArray⟩, ⟨a.toArray⟩]) := hv ▸ g42
            have p42 := hv
            rw [Array.getD_eq_getD_getElem?] at p42
            have HS := hide (sum_any v [⟨s.toArray⟩, ⟨a.toArray⟩] t R2.out w R (by simp) (by omega))
            rw [hD.out] at HS
            clear R g42
            go_simp
            refine HS.out.mono ?_
            rintro e' w' ⟨rfl, hb⟩
            exact hK _ _ (fun k hk => by cases hk; rfl) hb
          · intro b w hB hO hE K' hK
            have g6 : b.tmps.getD 6 undef = .pointer (some ⟨w3.heap.size, 0, none⟩) := hO 6 (by kernel_rfl)
            have g37 := hE 5 37 (by kernel_rfl) _ rfl
            simp only [Kind.says] at g37
            have q := get_bool g37
            have r : w.rowCells w3.heap.size = dgst D := rowAt_below hB (by show w3.heap.size < W.heap.size; omega) hrow
            go_simp
            exact hK _ _ (fun k hk => by cases hk; rfl) (Below.refl _ _)
          · intro b w hB hO hE K' hK
            have g43 := hE 11 43 (by kernel_rfl) _ rfl
            simp only [Kind.says] at g43
            have g44 := hE 12 44 (by kernel_rfl) _ rfl
            simp only [Kind.says] at g44
            have g37 := hE 5 37 (by kernel_rfl) _ rfl
            simp only [Kind.says] at g37
            have q := get_bool g37
            go_simp
            rw [same_dgst]
            exact hK _ _ (fun k hk => by cases hk; rfl) (Below.refl _ _)
          · intro b w hB hO hE K' hK
            have g37 := hE 5 37 (by kernel_rfl) _ rfl
            simp only [Kind.says] at g37
            have g45 := hE 13 45 (by kernel_rfl) _ rfl
            simp only [Kind.says] at g45
            go_simp
            exact hK _ _ (fun k hk => by cases hk; rfl) (Below.refl _ _)
          · intro b w hB hO hE K' hK
            have g46 := hE 14 46 (by kernel_rfl) _ rfl
            simp only [Kind.says] at g46
            go_simp
            exact hK _ _ (fun k hk => by cases hk; rfl) (Below.refl _ _)
          · intro b w hB hO hE K' hK
            have g5 : b.tmps.getD 5 undef = .string ⟨t.toArray⟩ := hO 5 (by kernel_rfl)
            have g47 := hE 15 47 (by kernel_rfl) _ rfl
            simp only [Kind.says] at g47
            have q := get_bool g47
            go_simp
            exact hK _ _ (fun k hk => by cases hk; rfl) (Below.refl _ _)
          · intro b w hB hO hE K' hK
            have g48 := hE 16 48 (by kernel_rfl) _ rfl
            simp only [Kind.says] at g48
            have g47 := hE 15 47 (by kernel_rfl) _ rfl
            simp only [Kind.says] at g47
            have q := get_bool g47
            have p48 := g48
            rw [Array.getD_eq_getD_getElem?] at p48
            go_simp
            exact hK _ _ (fun k hk => by cases hk; exact row_fits _ _ w _ rfl (by simp)) ((Below.refl _ w).alloc (Nat.le_refl _) _)
          · intro b w hB hO hE K' hK
            have g49 := hE 17 49 (by kernel_rfl) _ rfl
            have g47 := hE 15 47 (by kernel_rfl) _ rfl
            simp only [Kind.says] at g47
            have q := get_bool g47
            obtain ⟨v, hv⟩ : ∃ v, b.tmps.getD 49 undef = v := ⟨_, rfl⟩
            have R : Reads w 1 v ([⟨t.toArray⟩] : List ByteArray).length (strs [⟨t.toArray⟩]) := hv ▸ g49
            have p49 := hv
            rw [Array.getD_eq_getD_getElem?] at p49
            have HS := hide (short_any v [⟨t.toArray⟩] t R1.out w R (by simp) (by omega))
            rw [hD.out] at HS
            clear R g49
            go_simp
            refine HS.out.mono ?_
            rintro e' w' ⟨rfl, hb⟩
            exact hK _ _ (fun k hk => by cases hk; rfl) hb
          · intro b w hB hO hE K' hK
            have g7 : b.tmps.getD 7 undef = .int .u64 (num (D.bytes.take 8) : Int) := hO 7 (by kernel_rfl)
            have g47 := hE 15 47 (by kernel_rfl) _ rfl
            simp only [Kind.says] at g47
            have q := get_bool g47
            go_simp
            exact hK _ _ (fun k hk => by cases hk; rfl) (Below.refl _ _)
          · intro b w hB hO hE K' hK
            have g50 := hE 18 50 (by kernel_rfl) _ rfl
            simp only [Kind.says] at g50
            have g51 := hE 19 51 (by kernel_rfl) _ rfl
            simp only [Kind.says] at g51
            have g47 := hE 15 47 (by kernel_rfl) _ rfl
            simp only [Kind.says] at g47
            have q := get_bool g47
            go_simp
            exact hK _ _ (fun k hk => by cases hk; rfl) (Below.refl _ _)
          · intro b w hB hO hE K' hK
            have g47 := hE 15 47 (by kernel_rfl) _ rfl
            simp only [Kind.says] at g47
            have g52 := hE 20 52 (by kernel_rfl) _ rfl
            simp only [Kind.says] at g52
            go_simp
            exact hK _ _ (fun k hk => by cases hk; rfl) (Below.refl _ _)
          · intro b w hB hO hE K' hK
            have g53 := hE 21 53 (by kernel_rfl) _ rfl
            simp only [Kind.says] at g53
            go_simp
            exact hK _ _ (fun k hk => by cases hk; rfl) (Below.refl _ _)
        · intro listed a' w' hk hall
          have h4 := hk.done 22 _ 4 rfl (hall 22 (by decide)) rfl _ rfl
          have h4 : a'.tmps.getD 4 undef = .bool true := h4
          have hd := hk.defers
          have hB := hk.below
          have HB := hide (HB4.out.trans ((show Below W.heap.size W w' from ⟨hB.os, hB.tape, hB.output, hB.size, hB.block⟩).mono HB4.out.size))
          clear hB hk hall
          obtain ⟨tm, df⟩ := a'
          go_wp2_with fail
          go_ret
          exact ⟨by simpa using h4, HB.out⟩
end Go.Proofs.Ytjmbnfcjambdkaa.shaSums
