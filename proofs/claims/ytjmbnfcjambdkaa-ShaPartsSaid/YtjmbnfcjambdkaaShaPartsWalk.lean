/- ShaParts: what it returns. -/
import Derived.Test.YtjmbnfcjambdkaaShaAwake
import Derived.Test.YtjmbnfcjambdkaaInv
import Derived.Test.YtjmbnfcjambdkaaDigEq
import Derived.Test.YtjmbnfcjambdkaaShaPartsNum
namespace Go.Proofs.Ytjmbnfcjambdkaa.shaParts
open Go.RowKit
/-- What a slot of the last region bears. -/
inductive Kind | val (v : Value) | row (xs : List ByteArray)
def Kind.says : Kind → Value → World → Prop
  | .val u, v, _ => v = u
  | .row xs, v, w => Reads w 1 v xs.length (strs xs)
def kinds (s : List UInt8) (I K : Nat) : List Kind :=
  let S : ByteArray := ⟨s.toArray⟩
  let d : Kind := .val (.agg (dgst (shaOf s)))
  let z : Kind := .val (.agg (dgst (shaOf [])))
  let s1 : ByteArray := ⟨(s.take I).toArray⟩
  let s2 : ByteArray := ⟨((s.drop I).take (K - I)).toArray⟩
  let s3 : ByteArray := ⟨(s.drop K).toArray⟩
  let e : ByteArray := ⟨#[]⟩
  let t : Kind := .val (.bool true)
  [.val (.string S), .val (.int .i64 I), .val (.string s1), .val (.string S), .val (.int .i64 I), .val (.int .i64 K), .val (.string s2), .val (.string S), .val (.int .i64 K), .val (.string s3),
   .row [s1, s2, s3], d, .val (.string S), .row [S], d, t, t, z, .row [e], z, t, t, t, .val (.string S), .row [S, e], d, .val (.string S), .row [S], d, t, t, t]
def V (s : List UInt8) (I K : Nat) (i : Nat) (v : Value) (w : World) : Prop := ∀ k, (kinds s I K)[i]? = some k → k.says v w
theorem V_below {s : List UInt8} {I K : Nat} (i : Nat) (v : Value) (w w' : World) (h : V s I K i v w) (hb : Below w.heap.size w w') : V s I K i v w' := fun k hk => by
  have := h k hk
  cases k with
  | val u => exact this
  | row xs => exact Reads.below this hb
theorem same_dgst (d : Dig) (w : World) : (Op.equalIn 10000 24 (.agg (dgst d)) (.agg (dgst d))).run Try.prog w = .ok true w := by rw [run_equalIn_dgst]; simp
theorem row_fits (xs : List ByteArray) (T : TypeId) (w : World) (n : Nat) (hn : n = xs.length) (hx : xs.length ≤ 100) : Reads (w.alloc (.cells (strs xs).toArray T)) 1 (.slice (some ⟨w.heap.size, 0, none⟩) n n) xs.length (strs xs) := by
  subst hn
  exact reads_fresh w (strs xs) T 1 xs.length (by simp [strs]) (by intro u hu; simp only [strs, List.mem_map] at hu; obtain ⟨x, _, rfl⟩ := hu; rfl) (by unfold maxLen; omega)
theorem get_bool {l : Array Value} {t : Nat} {b : Bool} (h : l.getD t undef = .bool b) : l[t]? = some (.bool b) := by
  rw [Array.getD_eq_getD_getElem?] at h
  cases hl : l[t]? with
  | none => rw [hl] at h; cases h
  | some v => rw [hl] at h; simpa using h
theorem raw_one (s : List UInt8) : s = raw [⟨s.toArray⟩] := by simp [raw]
theorem raw_two (s : List UInt8) : s = raw [⟨s.toArray⟩, ⟨#[]⟩] := by simp [raw]
theorem raw_three (s : List UInt8) (I K : Nat) (h : I ≤ K) : s = raw [⟨(s.take I).toArray⟩, ⟨((s.drop I).take (K - I)).toArray⟩, ⟨(s.drop K).toArray⟩] := by
  have h1 : s.drop K = (s.drop I).drop (K - I) := by rw [List.drop_drop]; congr 1; omega
  simp only [raw, List.flatMap_cons, List.flatMap_nil, List.append_nil]
  rw [h1, List.take_append_drop, List.take_append_drop]
theorem slice_mid (s : List UInt8) (n m : Nat) : (⟨s.toArray⟩ : ByteArray).extract n m = ⟨((s.drop n).take (m - n)).toArray⟩ := by
  apply ByteArray.ext
  rw [ByteArray.data_extract]
  apply Array.ext'
  simp [List.extract_eq_take_drop]
set_option maxRecDepth 20000 in
set_option maxHeartbeats 2000000 in
theorem walk_list (s : List UInt8) (a b : Int) (w : World) (ha : (Lit.int .i64 a).wf = true) (hb : (Lit.int .i64 b).wf = true) :
    Calls Try.prog 7 #[.string ⟨s.toArray⟩, .int .i64 a, .int .i64 b] w fun e w' => e = .returned (.bool true) ∧ Below w.heap.size w w' := by
  go_enter Try.func7, Try.ntmps7
  go_wp2_with fail
  refine (awake01_any w).mono ?_
  rintro e1 w1 ⟨rfl, hb1⟩
  have HB1 := hide hb1
  clear hb1
  have hl := ba_len' s
  by_cases hlen : 2000 < s.length
  · go_wp2_with fail
    go_ret
    exact ⟨rfl, HB1.out⟩
  · obtain ⟨I, hI, hIl⟩ := shaPartsP.rest_nat a s.length (by omega)
    obtain ⟨J, hJ, hJl⟩ := shaPartsP.rest_nat b (s.length - I) (by omega)
    rw [show ((s.length - I : Nat) : Int) = (s.length : Int) - I by omega] at hJ
    obtain ⟨K, hK⟩ : ∃ K : Nat, K = I + J := ⟨_, rfl⟩
    obtain ⟨f1, f2, f3, f4, f5, f6⟩ := shaPartsP.facts s.length I J K (by omega) hIl hJl hK
    have HK := hide hK
    clear hK
    have e8 : (I : Int) + J = K := by rw [HK.out]; omega
    go_wp2_with fail
    simp only [hI, e8]
    clear hI hJ f1 f2 f3 f4 f5 f6 e8
    have R1 := hide (raw_one s)
    have R2 := hide (raw_two s)
    have R3 := hide (raw_three s I K (by have := HK.out; omega))
    refine wp_region_kept (V s I K) (by kernel_rfl) (by kernel_rfl) (by kernel_rfl) V_below ?_ ?_
    · refine kept_steps ⟨?_, ?_, ?_, ?_, ?_, ?_, ?_, ?_, ?_, ?_, ?_, ?_, ?_, ?_, ?_, ?_, ?_, ?_, ?_, ?_, ?_, ?_, ?_, ?_, ?_, ?_, ?_, ?_, ?_, ?_, ?_, ?_, trivial⟩
      · intro a w hB hO hE K' hK
        have g0 : a.tmps.getD 0 undef = .string ⟨s.toArray⟩ := hO 0 (by kernel_rfl)
        go_simp
        exact hK _ _ (fun k hk => by cases hk; rfl) (Below.refl _ _)
      · intro a w hB hO hE K' hK
        have g7 : a.tmps.getD 7 undef = .int .i64 I := hO 7 (by kernel_rfl)
        go_simp
        exact hK _ _ (fun k hk => by cases hk; rfl) (Below.refl _ _)
      · intro a w hB hO hE K' hK
        have g34 := hE 0 34 (by kernel_rfl) _ rfl
        simp only [Kind.says] at g34
        have g35 := hE 1 35 (by kernel_rfl) _ rfl
        simp only [Kind.says] at g35
        have hIK : I ≤ K := by have := HK.out; omega
        have hKl : K ≤ s.length := by have := HK.out; omega
        have hcut := slice_front s I
        go_simp
        exact hK _ _ (fun k hk => by cases hk; rfl) (Below.refl _ _)
      · intro a w hB hO hE K' hK
        have g0 : a.tmps.getD 0 undef = .string ⟨s.toArray⟩ := hO 0 (by kernel_rfl)
        go_simp
        exact hK _ _ (fun k hk => by cases hk; rfl) (Below.refl _ _)
      · intro a w hB hO hE K' hK
        have g7 : a.tmps.getD 7 undef = .int .i64 I := hO 7 (by kernel_rfl)
        go_simp
        exact hK _ _ (fun k hk => by cases hk; rfl) (Below.refl _ _)
      · intro a w hB hO hE K' hK
        have g8 : a.tmps.getD 8 undef = .int .i64 K := hO 8 (by kernel_rfl)
        go_simp
        exact hK _ _ (fun k hk => by cases hk; rfl) (Below.refl _ _)
      · intro a w hB hO hE K' hK
        have g37 := hE 3 37 (by kernel_rfl) _ rfl
        simp only [Kind.says] at g37
        have g38 := hE 4 38 (by kernel_rfl) _ rfl
        simp only [Kind.says] at g38
        have g39 := hE 5 39 (by kernel_rfl) _ rfl
        simp only [Kind.says] at g39
        have hIK : I ≤ K := by have := HK.out; omega
        have hKl : K ≤ s.length := by have := HK.out; omega
        have hcut := slice_mid s I K
        go_simp
        exact hK _ _ (fun k hk => by cases hk; rfl) (Below.refl _ _)
      · intro a w hB hO hE K' hK
        have g0 : a.tmps.getD 0 undef = .string ⟨s.toArray⟩ := hO 0 (by kernel_rfl)
        go_simp
        exact hK _ _ (fun k hk => by cases hk; rfl) (Below.refl _ _)
      · intro a w hB hO hE K' hK
        have g8 : a.tmps.getD 8 undef = .int .i64 K := hO 8 (by kernel_rfl)
        go_simp
        exact hK _ _ (fun k hk => by cases hk; rfl) (Below.refl _ _)
      · intro a w hB hO hE K' hK
        have g41 := hE 7 41 (by kernel_rfl) _ rfl
        simp only [Kind.says] at g41
        have g42 := hE 8 42 (by kernel_rfl) _ rfl
        simp only [Kind.says] at g42
        have hIK : I ≤ K := by have := HK.out; omega
        have hKl : K ≤ s.length := by have := HK.out; omega
        have hcut := slice_back s K
        go_simp
        exact hK _ _ (fun k hk => by cases hk; rfl) (Below.refl _ _)
      · intro a w hB hO hE K' hK
        have g36 := hE 2 36 (by kernel_rfl) _ rfl
        simp only [Kind.says] at g36
        have g40 := hE 6 40 (by kernel_rfl) _ rfl
        simp only [Kind.says] at g40
        have g43 := hE 9 43 (by kernel_rfl) _ rfl
        simp only [Kind.says] at g43
        have p36 := g36
        rw [Array.getD_eq_getD_getElem?] at p36
        have p40 := g40
        rw [Array.getD_eq_getD_getElem?] at p40
        have p43 := g43
        rw [Array.getD_eq_getD_getElem?] at p43
        go_simp
        exact hK _ _ (fun k hk => by cases hk; exact row_fits _ _ w _ rfl (by simp)) ((Below.refl _ w).alloc (Nat.le_refl _) _)
      · intro a w hB hO hE K' hK
        have g44 := hE 10 44 (by kernel_rfl) _ rfl
        obtain ⟨v, hv⟩ : ∃ v, a.tmps.getD 44 undef = v := ⟨_, rfl⟩
        have R : Reads w 1 v ([⟨(s.take I).toArray⟩, ⟨((s.drop I).take (K - I)).toArray⟩, ⟨(s.drop K).toArray⟩] : List ByteArray).length (strs [⟨(s.take I).toArray⟩, ⟨((s.drop I).take (K - I)).toArray⟩, ⟨(s.drop K).toArray⟩]) := hv ▸ g44
        have p44 := hv
        rw [Array.getD_eq_getD_getElem?] at p44
        have HS := hide (sum_any v [⟨(s.take I).toArray⟩, ⟨((s.drop I).take (K - I)).toArray⟩, ⟨(s.drop K).toArray⟩] s R3.out w R (by simp) (by first | omega | (simp; done)))
        clear R g44
        go_simp
        refine HS.out.mono ?_
        rintro e' w' ⟨rfl, hb⟩
        exact hK _ _ (fun k hk => by cases hk; rfl) hb
      · intro a w hB hO hE K' hK
        have g0 : a.tmps.getD 0 undef = .string ⟨s.toArray⟩ := hO 0 (by kernel_rfl)
        go_simp
        exact hK _ _ (fun k hk => by cases hk; rfl) (Below.refl _ _)
      · intro a w hB hO hE K' hK
        have g46 := hE 12 46 (by kernel_rfl) _ rfl
        simp only [Kind.says] at g46
        have p46 := g46
        rw [Array.getD_eq_getD_getElem?] at p46
        go_simp
        exact hK _ _ (fun k hk => by cases hk; exact row_fits _ _ w _ rfl (by simp)) ((Below.refl _ w).alloc (Nat.le_refl _) _)
      · intro a w hB hO hE K' hK
        have g47 := hE 13 47 (by kernel_rfl) _ rfl
        obtain ⟨v, hv⟩ : ∃ v, a.tmps.getD 47 undef = v := ⟨_, rfl⟩
        have R : Reads w 1 v ([⟨s.toArray⟩] : List ByteArray).length (strs [⟨s.toArray⟩]) := hv ▸ g47
        have p47 := hv
        rw [Array.getD_eq_getD_getElem?] at p47
        have HS := hide (sum_any v [⟨s.toArray⟩] s R1.out w R (by simp) (by first | omega | (simp; done)))
        clear R g47
        go_simp
        refine HS.out.mono ?_
        rintro e' w' ⟨rfl, hb⟩
        exact hK _ _ (fun k hk => by cases hk; rfl) hb
      · intro a w hB hO hE K' hK
        have g45 := hE 11 45 (by kernel_rfl) _ rfl
        simp only [Kind.says] at g45
        have g48 := hE 14 48 (by kernel_rfl) _ rfl
        simp only [Kind.says] at g48
        go_simp
        rw [same_dgst]
        exact hK _ _ (fun k hk => by cases hk; rfl) (Below.refl _ _)
      · intro a w hB hO hE K' hK
        have g49 := hE 15 49 (by kernel_rfl) _ rfl
        simp only [Kind.says] at g49
        go_simp
        exact hK _ _ (fun k hk => by cases hk; rfl) (Below.refl _ _)
      · intro a w hB hO hE K' hK
        have g50 := hE 16 50 (by kernel_rfl) _ rfl
        simp only [Kind.says] at g50
        have q := get_bool g50
        have HS := hide (sum_any (.slice none 0 0) [] [] rfl w (Reads.nil w 1) (by simp) (by simp))
        go_simp
        refine HS.out.mono ?_
        rintro e' w' ⟨rfl, hb⟩
        exact hK _ _ (fun k hk => by cases hk; rfl) hb
      · intro a w hB hO hE K' hK
        have g50 := hE 16 50 (by kernel_rfl) _ rfl
        simp only [Kind.says] at g50
        have q := get_bool g50
        go_simp
        exact hK _ _ (fun k hk => by cases hk; exact row_fits _ _ w _ rfl (by simp)) ((Below.refl _ w).alloc (Nat.le_refl _) _)
      · intro a w hB hO hE K' hK
        have g52 := hE 18 52 (by kernel_rfl) _ rfl
        have g50 := hE 16 50 (by kernel_rfl) _ rfl
        simp only [Kind.says] at g50
        have q := get_bool g50
        obtain ⟨v, hv⟩ : ∃ v, a.tmps.getD 52 undef = v := ⟨_, rfl⟩
        have R : Reads w 1 v ([⟨#[]⟩] : List ByteArray).length (strs [⟨#[]⟩]) := hv ▸ g52
        have p52 := hv
        rw [Array.getD_eq_getD_getElem?] at p52
        have HS := hide (sum_any v [⟨#[]⟩] [] rfl w R (by simp) (by first | omega | (simp; done)))
        clear R g52
        go_simp
        refine HS.out.mono ?_
        rintro e' w' ⟨rfl, hb⟩
        exact hK _ _ (fun k hk => by cases hk; rfl) hb
      · intro a w hB hO hE K' hK
        have g51 := hE 17 51 (by kernel_rfl) _ rfl
        simp only [Kind.says] at g51
        have g53 := hE 19 53 (by kernel_rfl) _ rfl
        simp only [Kind.says] at g53
        have g50 := hE 16 50 (by kernel_rfl) _ rfl
        simp only [Kind.says] at g50
        have q := get_bool g50
        go_simp
        rw [same_dgst]
        exact hK _ _ (fun k hk => by cases hk; rfl) (Below.refl _ _)
      · intro a w hB hO hE K' hK
        have g50 := hE 16 50 (by kernel_rfl) _ rfl
        simp only [Kind.says] at g50
        have g54 := hE 20 54 (by kernel_rfl) _ rfl
        simp only [Kind.says] at g54
        go_simp
        exact hK _ _ (fun k hk => by cases hk; rfl) (Below.refl _ _)
      · intro a w hB hO hE K' hK
        have g55 := hE 21 55 (by kernel_rfl) _ rfl
        simp only [Kind.says] at g55
        go_simp
        exact hK _ _ (fun k hk => by cases hk; rfl) (Below.refl _ _)
      · intro a w hB hO hE K' hK
        have g0 : a.tmps.getD 0 undef = .string ⟨s.toArray⟩ := hO 0 (by kernel_rfl)
        have g56 := hE 22 56 (by kernel_rfl) _ rfl
        simp only [Kind.says] at g56
        have q := get_bool g56
        go_simp
        exact hK _ _ (fun k hk => by cases hk; rfl) (Below.refl _ _)
      · intro a w hB hO hE K' hK
        have g57 := hE 23 57 (by kernel_rfl) _ rfl
        simp only [Kind.says] at g57
        have g56 := hE 22 56 (by kernel_rfl) _ rfl
        simp only [Kind.says] at g56
        have q := get_bool g56
        have p57 := g57
        rw [Array.getD_eq_getD_getElem?] at p57
        go_simp
        exact hK _ _ (fun k hk => by cases hk; exact row_fits _ _ w _ rfl (by simp)) ((Below.refl _ w).alloc (Nat.le_refl _) _)
      · intro a w hB hO hE K' hK
        have g58 := hE 24 58 (by kernel_rfl) _ rfl
        have g56 := hE 22 56 (by kernel_rfl) _ rfl
        simp only [Kind.says] at g56
        have q := get_bool g56
        obtain ⟨v, hv⟩ : ∃ v, a.tmps.getD 58 undef = v := ⟨_, rfl⟩
        have R : Reads w 1 v ([⟨s.toArray⟩, ⟨#[]⟩] : List ByteArray).length (strs [⟨s.toArray⟩, ⟨#[]⟩]) := hv ▸ g58
        have p58 := hv
        rw [Array.getD_eq_getD_getElem?] at p58
        have HS := hide (sum_any v [⟨s.toArray⟩, ⟨#[]⟩] s R2.out w R (by simp) (by first | omega | (simp; done)))
        clear R g58
        go_simp
        refine HS.out.mono ?_
        rintro e' w' ⟨rfl, hb⟩
        exact hK _ _ (fun k hk => by cases hk; rfl) hb
      · intro a w hB hO hE K' hK
        have g0 : a.tmps.getD 0 undef = .string ⟨s.toArray⟩ := hO 0 (by kernel_rfl)
        have g56 := hE 22 56 (by kernel_rfl) _ rfl
        simp only [Kind.says] at g56
        have q := get_bool g56
        go_simp
        exact hK _ _ (fun k hk => by cases hk; rfl) (Below.refl _ _)
      · intro a w hB hO hE K' hK
        have g60 := hE 26 60 (by kernel_rfl) _ rfl
        simp only [Kind.says] at g60
        have g56 := hE 22 56 (by kernel_rfl) _ rfl
        simp only [Kind.says] at g56
        have q := get_bool g56
        have p60 := g60
        rw [Array.getD_eq_getD_getElem?] at p60
        go_simp
        exact hK _ _ (fun k hk => by cases hk; exact row_fits _ _ w _ rfl (by simp)) ((Below.refl _ w).alloc (Nat.le_refl _) _)
      · intro a w hB hO hE K' hK
        have g61 := hE 27 61 (by kernel_rfl) _ rfl
        have g56 := hE 22 56 (by kernel_rfl) _ rfl
        simp only [Kind.says] at g56
        have q := get_bool g56
        obtain ⟨v, hv⟩ : ∃ v, a.tmps.getD 61 undef = v := ⟨_, rfl⟩
        have R : Reads w 1 v ([⟨s.toArray⟩] : List ByteArray).length (strs [⟨s.toArray⟩]) := hv ▸ g61
        have p61 := hv
        rw [Array.getD_eq_getD_getElem?] at p61
        have HS := hide (sum_any v [⟨s.toArray⟩] s R1.out w R (by simp) (by first | omega | (simp; done)))
        clear R g61
        go_simp
        refine HS.out.mono ?_
        rintro e' w' ⟨rfl, hb⟩
        exact hK _ _ (fun k hk => by cases hk; rfl) hb
      · intro a w hB hO hE K' hK
        have g59 := hE 25 59 (by kernel_rfl) _ rfl
        simp only [Kind.says] at g59
        have g62 := hE 28 62 (by kernel_rfl) _ rfl
        simp only [Kind.says] at g62
        have g56 := hE 22 56 (by kernel_rfl) _ rfl
        simp only [Kind.says] at g56
        have q := get_bool g56
        go_simp
        rw [same_dgst]
        exact hK _ _ (fun k hk => by cases hk; rfl) (Below.refl _ _)
      · intro a w hB hO hE K' hK
        have g56 := hE 22 56 (by kernel_rfl) _ rfl
        simp only [Kind.says] at g56
        have g63 := hE 29 63 (by kernel_rfl) _ rfl
        simp only [Kind.says] at g63
        go_simp
        exact hK _ _ (fun k hk => by cases hk; rfl) (Below.refl _ _)
      · intro a w hB hO hE K' hK
        have g64 := hE 30 64 (by kernel_rfl) _ rfl
        simp only [Kind.says] at g64
        go_simp
        exact hK _ _ (fun k hk => by cases hk; rfl) (Below.refl _ _)
    · intro listed a' w' hk hall
      have h6 := hk.done 31 _ 6 rfl (hall 31 (by decide)) rfl _ rfl
      have h6 : a'.tmps.getD 6 undef = .bool true := h6
      have hd := hk.defers
      have hB := hk.below
      have HB := hide (HB1.out.trans ((show Below w1.heap.size w1 w' from ⟨hB.os, hB.tape, hB.output, hB.size, hB.block⟩).mono HB1.out.size))
      clear hB hk hall
      obtain ⟨tm, df⟩ := a'
      go_wp2_with fail
      go_ret
      exact ⟨by simpa using h6, HB.out⟩
theorem walk (s : ByteArray) (a b : Int) (w : World) (_hs : s.size ≤ maxLen) (ha : (Lit.int .i64 a).wf = true) (hb : (Lit.int .i64 b).wf = true) :
    Calls Try.prog 7 #[.string s, .int .i64 a, .int .i64 b] w fun e w' => e = .returned (.bool true) ∧ Below w.heap.size w w' := by
  obtain ⟨⟨l⟩⟩ := s
  exact walk_list l a b w ha hb
end Go.Proofs.Ytjmbnfcjambdkaa.shaParts
