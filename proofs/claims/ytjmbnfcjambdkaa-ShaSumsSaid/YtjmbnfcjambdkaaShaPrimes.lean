/- sha.primes. -/
import Derived.Test.YtjmbnfcjambdkaaShaWord
namespace Go.Proofs.Ytjmbnfcjambdkaa
open Go.RowKit
/-- One more number is looked at. -/
def primeStep (k : Nat) (out : List Nat) : List Nat := if out.all (fun p => k % p != 0) then out ++ [k] else out
/-- The primes among 2, 3 .. of so many numbers. -/
def primesTo : Nat → List Nat
  | 0 => []
  | j + 1 => primeStep (j + 2) (primesTo j)
/-- The first primes. -/
def primeList : List Nat := primesTo 310
theorem primesTo_mono (j i : Nat) : ∃ t, primesTo (j + i) = primesTo j ++ t := by
  induction i with
  | zero => exact ⟨[], by simp⟩
  | succ i ih =>
    obtain ⟨t, ht⟩ := ih
    show ∃ u, primeStep (j + i + 2) (primesTo (j + i)) = _
    unfold primeStep
    split
    · exact ⟨t ++ [j + i + 2], by rw [ht, List.append_assoc]⟩
    · exact ⟨t, ht⟩
theorem primeList_length : primeList.length = 64 := by decide +kernel
theorem primeList_bound : ∀ p ∈ primeList, 2 ≤ p ∧ p ≤ 311 := by decide +kernel
theorem primesTo_pre (j : Nat) (h : j ≤ 310) : ∃ t, primeList = primesTo j ++ t := by
  have := primesTo_mono j (310 - j)
  rwa [show j + (310 - j) = 310 by omega] at this
theorem primesTo_le (j : Nat) (h : j ≤ 310) : (primesTo j).length ≤ 64 := by
  obtain ⟨t, ht⟩ := primesTo_pre j h
  have := congrArg List.length ht
  rw [primeList_length, List.length_append] at this; omega
theorem primesTo_mem (j : Nat) (h : j ≤ 310) (p : Nat) (hp : p ∈ primesTo j) : 2 ≤ p ∧ p ≤ 311 := by
  obtain ⟨t, ht⟩ := primesTo_pre j h
  exact primeList_bound p (by rw [ht]; exact List.mem_append.2 (.inl hp))
theorem primesTo_lt (j : Nat) (h : j ≤ 310) (hl : (primesTo j).length < 64) : j < 310 := by
  by_cases hj : j = 310
  · subst hj; have := primeList_length; unfold primeList at this; omega
  · omega
/-- A row of numbers as cells. -/
def nums64 (l : List Nat) : List Value := l.map fun p : Nat => Value.int .u64 (p : Int)
theorem nums64_length (l : List Nat) : (nums64 l).length = l.length := by simp [nums64]
theorem nums64_one (l : List Nat) : ∀ u ∈ nums64 l, u.oneCell' = true := by
  intro u hu
  obtain ⟨x, _, rfl⟩ := List.mem_map.1 hu
  rfl
theorem nums64_get (l : List Nat) (k : Nat) (p : Nat) (h : l[k]? = some p) : (nums64 l)[k]? = some (.int .u64 (p : Int)) := by simp [nums64, h]
theorem info_u64 : (Try.prog.info? 27).map (fun i => (i.zero, i.size, i.bytes)) = some (some (.int .u64 0), 1, 8) := by kernel_rfl
set_option maxRecDepth 20000 in
set_option maxHeartbeats 4000000 in
theorem primes_any (n : Nat) (hn : n ≤ 64) (w : World) :
    Calls Try.prog 101 #[.int .i64 (n : Int)] w fun e w' => (∃ a c, e = .returned (.slice a n c) ∧ w'.ownsRow w.heap.size 27 1 (.slice a n c) n (nums64 (primeList.take n))) ∧ Below w.heap.size w w' := by
  obtain ⟨i0, hi, hz0, hz1, hz2⟩ := info_parts info_u64
  have HI := hide hi
  have Hz0 := hide hz0
  have Hz1 := hide hz1
  have Hz2 := hide hz2
  clear hi hz0 hz1 hz2
  go_enter Try.func101, Try.ntmps101
  go_wp2_with fail
  go_loopw [3, 4] (fun v k wr => ∃ j : Nat, j ≤ 310 ∧ (primesTo j).length ≤ n ∧ k = .int .u64 ((j : Int) + 2) ∧ (∃ a c, v = .slice a (primesTo j).length c) ∧ wr.ownsRow w.heap.size 27 1 v (primesTo j).length (nums64 (primesTo j)) ∧ Below w.heap.size w wr) (fun _ k _ => 312 - (intOf k).toNat)
  case atStart => exact ⟨0, by omega, by simp [primesTo], rfl, ⟨none, 0, rfl⟩, World.ownsRow_nil _ _ _ _, Below.refl _ _⟩
  case round =>
    obtain ⟨j, hj, hjn, rfl, ⟨a, c, rfl⟩, hown, hb⟩ := hrel
    have HO := hide hown
    have HB := hide hb
    clear hown hb
    obtain ⟨P, hP⟩ : ∃ P, Hid (primesTo j = P) := ⟨_, hide rfl⟩
    have hjl := primesTo_le j hj
    have hlt := primesTo_lt j hj
    have HM := hide (primesTo_mem j hj)
    rw [hP.out] at HO hjn hjl hlt HM ⊢
    by_cases hln : P.length < n
    · have hj2 := hlt (by omega)
      clear hlt
      have HR := hide (Reads.owned HO.out (nums64_one P) (by unfold maxLen; omega))
      have hln2 : (P.length : Int) < (n : Int) := by omega
      obtain ⟨wo, rfl⟩ : ∃ wo : World, wo = wr := ⟨_, rfl⟩
      go_wp2_with fail
      go_loop [16, 5] (fun i b => ∃ m : Nat, m ≤ P.length ∧ i = .int .i64 m ∧ b = .bool ((P.take m).all (fun p => (j + 2) % p != 0))) (fun i _ => P.length - (intOf i).toNat)
      case atStart => exact ⟨0, by omega, rfl, rfl⟩
      case round =>
        obtain ⟨m, hm, rfl, rfl⟩ := hrel
        by_cases hml : m < P.length
        · obtain ⟨b, o, c2, hv⟩ := HR.out.isRow (by omega)
          cases hv
          obtain ⟨p, hp⟩ : ∃ p, Hid (P[m] = p) := ⟨_, hide rfl⟩
          have hcell := HR.out.cellAt m _ (nums64_get P m p (by rw [List.getElem?_eq_getElem hml, hp.out]))
          obtain ⟨hp1, hp2⟩ := HM.out P[m] (List.getElem_mem hml)
          rw [hp.out] at hp1 hp2
          have hall := hide (show (P.take (m + 1)).all (fun p => (j + 2) % p != 0) = ((P.take m).all (fun p => (j + 2) % p != 0) && ((j + 2) % p != 0)) by
            rw [List.take_succ_eq_append_getElem hml, List.all_append, hp.out]; simp)
          obtain ⟨r, hr⟩ : ∃ r, (j + 2) % p = r := ⟨_, rfl⟩
          have hr2 : ((j : Int) + 2) % (p : Int) = (r : Int) := by rw [← hr, Int.natCast_emod]; rfl
          have HALL := hide (hr ▸ hall.out)
          have q0 : (0 : Int) ≤ (j : Int) + 2 := by omega
          have q1 : (0 : Int) < (p : Int) := by omega
          have q2 : ¬ (p : Int) = 0 := by omega
          have q3 : (j : Int) + 2 ≤ 400 := by omega
          obtain ⟨f, hf⟩ : ∃ f, Hid ((P.take m).all (fun p => (j + 2) % p != 0) = f) := ⟨_, hide rfl⟩
          rw [hf.out] at HALL ⊢
          clear hall hr hm
          cases f
          · go_wp2_with fail
            go_round
            case rel => exact ⟨m + 1, by omega, by go_num, by rw [HALL.out]; rfl⟩
            case measure => simp [intOf]; omega
          · by_cases h0 : r = 0
            · subst h0
              go_wp2_with fail
              go_round
              case rel => exact ⟨m + 1, by omega, by go_num, by rw [HALL.out]; rfl⟩
              case measure => simp [intOf]; omega
            · have h0i : ¬ (r : Int) = 0 := by omega
              have h0b : ((r : Int) != 0) = true := by simpa using h0
              have h0c : (r != 0) = true := by simpa using h0
              rw [h0c] at HALL
              go_wp2_with fail
              go_round
              case rel => exact ⟨m + 1, by omega, by go_num, by rw [HALL.out]; rfl⟩
              case measure => simp [intOf]; omega
        · obtain rfl : m = P.length := by omega
          rw [List.take_length]
          have hsucc : primesTo (j + 1) = if P.all (fun p => (j + 2) % p != 0) then P ++ [j + 2] else P := by
            show primeStep (j + 2) (primesTo j) = _
            rw [hP.out]; rfl
          obtain ⟨f, hf⟩ : ∃ f, Hid (P.all (fun p => (j + 2) % p != 0) = f) := ⟨_, hide rfl⟩
          rw [hf.out] at hsucc ⊢
          have HS := hide hsucc
          clear hsucc
          cases f
          · go_wp2_with fail
            go_roundw
            case rel =>
              refine ⟨j + 1, by omega, by rw [HS.out]; exact hjn, by go_num, ?_, ?_, HB.out⟩
              · rw [HS.out]; exact ⟨a, c, rfl⟩
              · rw [HS.out]; exact HO.out
            case measure => simp [intOf]; omega
          · have C1 := hide (show P.length + 1 ≤ maxLen by unfold maxLen; omega)
            go_wp2_with (at_builtin; refine wpList_append_reads rfl _ _ 152 rfl w.heap.size 27 i0 (.int .u64 0) 1 8 Try.underlying152 HI.out Hz0.out Hz1.out Hz2.out rfl (by decide) _ P.length (nums64 P) rfl (HO.out.alloc _) _ 1 [.int .u64 ((j : Int) + 2)] rfl (reads_fresh _ [.int .u64 ((j : Int) + 2)] 27 1 1 rfl (by simp [Value.oneCell']) (by unfold maxLen; omega)) C1.out (by omega) (by have := HB.out.size; simp; omega) ?_; intro a' c' w3 hown3 hg3)
            go_roundw
            case rel =>
              have e : nums64 (P ++ [j + 2]) = nums64 P ++ [.int .u64 ((j : Int) + 2)] := by simp [nums64]
              refine ⟨j + 1, by omega, by rw [HS.out, if_pos rfl, List.length_append]; simp; omega, by go_num, ?_, ?_, (HB.out.alloc HB.out.size _).grown hg3 (by have := HB.out.size; simp; omega) (fun k hk => owned_ge HO.out k hk)⟩
              · rw [HS.out, if_pos rfl, List.length_append]; exact ⟨a', c', rfl⟩
              · rw [HS.out, if_pos rfl, List.length_append, e]; exact hown3
            case measure => simp [intOf]; omega
    · have hnl : P.length = n := by omega
      have hge : ¬ (P.length : Int) < (n : Int) := by omega
      have HPL := hide (show primeList.take n = P by
        obtain ⟨t, ht⟩ := primesTo_pre j hj
        rw [ht, hP.out, ← hnl, List.take_left])
      have HNL := hide hnl
      clear hnl hlt hln
      go_wp2_with fail
      go_ret
      have h5 := HO.out
      rw [HNL.out] at h5
      exact ⟨⟨a, c, by rw [← HNL.out]; rfl, by rw [HPL.out]; exact h5⟩, HB.out⟩
end Go.Proofs.Ytjmbnfcjambdkaa
