/- delta.Make. -/
import Derived.Test.YtjmbnfcjambdkaaDeltaApply
import Derived.Deep.DeepCutAuto
import Derived.Deep.CutBlock
namespace Go.Proofs.Ytjmbnfcjambdkaa
open Go.RowKit
def part1 (a b : List UInt8) : List Pt := if 0 < frontOf a b then [⟨0, 0, frontOf a b, []⟩] else []
def part2 (a b : List UInt8) : List Pt := part1 a b ++ if midOf a b ≠ [] then [⟨1, 0, 0, midOf a b⟩] else []
theorem part3 (a b : List UInt8) : partsOf a b = part2 a b ++ if 0 < backOf a b then [⟨0, a.length - backOf a b, backOf a b, []⟩] else [] := rfl
def Own (B : Nat) (L : List Pt) (s : Value) (w : World) : Prop := ∃ a c, s = .slice a L.length c ∧ w.ownsRow B 78 4 (.slice a L.length c) L.length (ptCells L)
theorem own_nil (w : World) (B : Nat) : Own B [] (.slice none 0 0) w := ⟨none, 0, rfl, World.ownsRow_nil _ _ _ _⟩
theorem parts_le (a b : List UInt8) : (part1 a b).length ≤ 1 ∧ (part2 a b).length ≤ 2 ∧ (partsOf a b).length ≤ 3 := by
  have h1 : (part1 a b).length ≤ 1 := by unfold part1; split <;> simp
  have h2 : (part2 a b).length ≤ 2 := by unfold part2; rw [List.length_append]; split <;> simp <;> omega
  refine ⟨h1, h2, ?_⟩
  rw [part3, List.length_append]; split <;> simp <;> omega
theorem parts_plain (a b : List UInt8) (ha : a.length ≤ 32768) (hb : b.length ≤ 32768) : ∀ p ∈ partsOf a b, p.plain ∧ (p.kind = 0 → p.at' + p.ln ≤ a.length) := by
  have h1 := back_le a b
  have h2 := mid_length a b
  intro p hp
  simp only [partsOf, List.mem_append] at hp
  rcases hp with (hp | hp) | hp
  · split at hp
    · rw [List.mem_singleton.1 hp]
      exact ⟨⟨⟨by simp, by simp, by show frontOf a b < _; omega, by simp⟩, by simp, .inl ⟨rfl, rfl⟩⟩, fun _ => by show 0 + frontOf a b ≤ _; omega⟩
    · cases hp
  · split at hp
    · rw [List.mem_singleton.1 hp]
      exact ⟨⟨⟨by simp, by simp, by simp, by show (midOf a b).length ≤ _; omega⟩, by show (midOf a b).length ≤ _; omega, .inr ⟨rfl, rfl, rfl⟩⟩, fun h => by cases h⟩
    · cases hp
  · split at hp
    · rw [List.mem_singleton.1 hp]
      exact ⟨⟨⟨by simp, by show a.length - backOf a b < _; omega, by show backOf a b < _; omega, by simp⟩, by simp, .inl ⟨rfl, rfl⟩⟩, fun _ => by show a.length - backOf a b + backOf a b ≤ _; omega⟩
    · cases hp
/-- A text comes back out of its parts. -/
theorem text_back (a b : List UInt8) : textOf a (partsOf a b) = b := by
  have h1 := back_le a b
  have h2 := mid_length a b
  have e1 : textOf a (part1 a b) = b.take (frontOf a b) := by
    unfold part1
    split
    · simp only [textOf, List.flatMap_cons, List.flatMap_nil, List.append_nil, Pt.over, if_true, List.drop_zero]
      exact cp_take a b
    · rw [show frontOf a b = 0 by omega]; rfl
  have e2 : textOf a (if midOf a b ≠ [] then [(⟨1, 0, 0, midOf a b⟩ : Pt)] else []) = midOf a b := by
    split
    · simp [textOf, Pt.over]
    · rename_i h; have : midOf a b = [] := by simpa using h
      rw [this]; rfl
  have e3 : textOf a (if 0 < backOf a b then [(⟨0, a.length - backOf a b, backOf a b, []⟩ : Pt)] else []) = b.drop (b.length - backOf a b) := by
    split
    · simp only [textOf, List.flatMap_cons, List.flatMap_nil, List.append_nil, Pt.over, if_true]
      rw [back_same, List.take_of_length_le (by rw [List.length_drop]; omega)]
    · rw [show backOf a b = 0 by omega, Nat.sub_zero, List.drop_length]; rfl
  have e : textOf a (partsOf a b) = (textOf a (part1 a b) ++ textOf a (if midOf a b ≠ [] then [(⟨1, 0, 0, midOf a b⟩ : Pt)] else [])) ++ textOf a (if 0 < backOf a b then [(⟨0, a.length - backOf a b, backOf a b, []⟩ : Pt)] else []) := by
    unfold textOf; rw [← List.flatMap_append, ← List.flatMap_append]; rfl
  rw [e, e1, e2, e3]
  unfold midOf
  have s1 : b.take (frontOf a b) ++ (b.drop (frontOf a b)).take (b.length - backOf a b - frontOf a b) = b.take (b.length - backOf a b) := by
    have := List.take_add (l := b) (i := frontOf a b) (j := b.length - backOf a b - frontOf a b)
    rw [← this]; congr 1; omega
  rw [s1, List.take_append_drop]
theorem slice_mid (s : List UInt8) (n m : Nat) : (⟨s.toArray⟩ : ByteArray).extract n m = ⟨((s.drop n).take (m - n)).toArray⟩ := by
  apply ByteArray.ext
  rw [ByteArray.data_extract]
  apply Array.ext'
  simp [List.extract_eq_take_drop]
set_option maxRecDepth 20000 in
set_option maxHeartbeats 4000000 in
theorem make_any (a b : List UInt8) (w : World) (ha : a.length ≤ 32768) (hb : b.length ≤ 32768) :
    Calls Try.prog 19 #[.string ⟨a.toArray⟩, .string ⟨b.toArray⟩] w fun q w' => q = .returned (.string ⟨(deltaOf a.length b.length (partsOf a b)).toArray⟩) ∧ Below w.heap.size w w' := by
  obtain ⟨i0, hi, hz0, hz1, hz2⟩ := info_parts info_pt
  have HI := hide hi
  have Hz0 := hide hz0
  have Hz1 := hide hz1
  have Hz2 := hide hz2
  have hal := ba_len a
  have hbl := ba_len b
  have hbk := back_le a b
  obtain ⟨hbk1, hbk2⟩ := hbk
  obtain ⟨hp1, hp2, hp3⟩ := parts_le a b
  have HPL := hide (parts_plain a b ha hb)
  have HML := hide (mid_length a b)
  have HSM := hide (show (⟨b.toArray⟩ : ByteArray).extract (frontOf a b) (b.length - backOf a b) = ⟨(midOf a b).toArray⟩ from slice_mid b _ _)
  have P1 := hide (show part1 a b = if 0 < frontOf a b then [⟨0, 0, frontOf a b, []⟩] else [] from rfl)
  have P2 := hide (show part2 a b = part1 a b ++ if midOf a b ≠ [] then [⟨1, 0, 0, midOf a b⟩] else [] from rfl)
  have P3 := hide (part3 a b)
  obtain ⟨n, hn⟩ : ∃ n, frontOf a b = n := ⟨_, rfl⟩
  obtain ⟨m, hm⟩ : ∃ m, backOf a b = m := ⟨_, rfl⟩
  have HAL := hide (alike_any a b w (by omega) (by omega))
  rw [hn, hm] at HAL
  rw [hn, hm] at HML HSM hbk1 hbk2
  rw [hn] at P1
  rw [hm] at P3
  clear hi hz0 hz1 hz2 hn hm
  go_enter Try.func19, Try.ntmps19
  go_upto_if 16 with (go_at_call 17; refine HAL.out.mono ?_; rintro e w' ⟨rfl, q, rfl⟩)
  go_cut [7] (fun s wx => Own w.heap.size (part1 a b) s wx ∧ Below w.heap.size w wx)
  case first =>
    by_cases h1 : 0 < n
    · have h1i : (0 : Int) < (n : Int) := by omega
      have HO := hide (World.ownsRow_nil (w.drewN q) w.heap.size 78 4)
      have HZ := hide (show w.heap.size ≤ ((w.drewN q).alloc (.cells #[.int .u8 0, .int .i64 0, .int .i64 (n : Int), .string ⟨#[]⟩] 78)).heap.size by simp)
      go_wp2_with (at_builtin; refine wpList_append_reads rfl _ _ 76 rfl w.heap.size 78 i0 (.agg #[.int .u8 0, .int .i64 0, .int .i64 0, .string ⟨#[]⟩]) 4 40 Try.underlying76 HI.out Hz0.out Hz1.out Hz2.out rfl (by decide) _ _ _ rfl (HO.out.alloc _) _ 1 [.int .u8 0, .int .i64 0, .int .i64 (n : Int), .string ⟨#[]⟩] rfl (reads_fresh _ [.int .u8 0, .int .i64 0, .int .i64 (n : Int), .string ⟨#[]⟩] 78 4 1 rfl (by simp [Value.oneCell']) (by unfold maxLen; omega)) (by unfold maxLen; omega) (by omega) HZ.out ?_; intro a' c' w3 hown3 hg3)
      go_meet
      case rel =>
        rw [P1.out, if_pos h1]
        exact ⟨⟨a', c', rfl, hown3⟩, ((show Below w.heap.size w (w.drewN q) from ⟨rfl, rfl, rfl, Nat.le_refl _, fun _ _ => rfl⟩).alloc (by simp) _).grown hg3 HZ.out (fun j hj => by cases hj)⟩
    · have h1i : ¬ (0 : Int) < (n : Int) := by omega
      go_wp2_with fail
      go_meet
      case rel =>
        rw [P1.out, if_neg h1]
        exact ⟨own_nil _ _, ⟨rfl, rfl, rfl, Nat.le_refl _, fun _ _ => rfl⟩⟩
  case rest =>
    obtain ⟨⟨al, cl, rfl, ho⟩, hb1⟩ := hcut
    have HO := hide ho
    have HB := hide hb1
    clear ho hb1
    obtain ⟨M, hM⟩ : ∃ M, midOf a b = M := ⟨_, rfl⟩
    rw [hM] at HSM P2
    clear hM
    have hMl := ba_len M
    obtain ⟨l1, hl1⟩ : ∃ l1, Hid ((part1 a b).length = l1) := ⟨_, hide rfl⟩
    rw [hl1.out] at HO hp1 ⊢
    have hsm := HSM.out
    go_upto_if 30 with fail
    clear hsm
    go_cut [7] (fun s wx => Own w.heap.size (part2 a b) s wx ∧ Below w.heap.size w wx)
    case first =>
      by_cases h1 : M ≠ []
      · have HZ := hide (show w.heap.size ≤ (wc.alloc (.cells #[.int .u8 1, .int .i64 0, .int .i64 0, .string ⟨M.toArray⟩] 78)).heap.size by have := HB.out.size; simp; omega)
        have hE := emp_false ⟨M.toArray⟩ (by rw [hMl]; exact List.length_pos_iff.2 h1)
        have hE2 : M.isEmpty = false := by simpa using h1
        have hE3 : (!M.isEmpty) = true := by rw [hE2]; rfl
        rw [hE3]
        clear hE hE3
        have H1 := hide h1
        clear h1
        go_wp2_with (at_builtin; refine wpList_append_reads rfl _ _ 76 rfl w.heap.size 78 i0 (.agg #[.int .u8 0, .int .i64 0, .int .i64 0, .string ⟨#[]⟩]) 4 40 Try.underlying76 HI.out Hz0.out Hz1.out Hz2.out rfl (by decide) _ _ _ rfl (HO.out.alloc _) _ 1 [.int .u8 1, .int .i64 0, .int .i64 0, .string ⟨M.toArray⟩] rfl (reads_fresh _ [.int .u8 1, .int .i64 0, .int .i64 0, .string ⟨M.toArray⟩] 78 4 1 rfl (by simp [Value.oneCell']) (by unfold maxLen; omega)) (by unfold maxLen; omega) (by omega) HZ.out ?_; intro a' c' w3 hown3 hg3)
        go_meet
        case rel =>
          rw [P2.out, if_pos H1.out]
          refine ⟨⟨a', c', ?_, ?_⟩, (HB.out.alloc HB.out.size _).grown hg3 HZ.out (fun j hj => owned_ge HO.out j hj)⟩
          · rw [List.length_append, hl1.out]; rfl
          · rw [List.length_append, hl1.out, ptCells_snoc]; exact hown3
      · have hM0 : M = [] := by simpa using h1
        subst hM0
        have hE := emp_true ⟨([] : List UInt8).toArray⟩ rfl
        clear h1
        go_wp2_with fail
        go_meet
        case rel =>
          rw [P2.out, if_neg (by simp), List.append_nil]
          exact ⟨⟨al, cl, by rw [hl1.out], by rw [hl1.out]; exact HO.out⟩, HB.out⟩
    case rest =>
      obtain ⟨⟨al2, cl2, rfl, ho⟩, hb1⟩ := hcut
      clear HO HB
      have HO := hide ho
      have HB := hide hb1
      clear ho hb1
      obtain ⟨l2, hl2⟩ : ∃ l2, Hid ((part2 a b).length = l2) := ⟨_, hide rfl⟩
      rw [hl2.out] at HO hp2 ⊢
      go_upto_if 37 with fail
      go_cut [7] (fun s wx => Own w.heap.size (partsOf a b) s wx ∧ Below w.heap.size w wx)
      case first =>
        by_cases h1 : 0 < m
        · have h1i : (0 : Int) < (m : Int) := by omega
          have HZ := hide (show w.heap.size ≤ (wc.alloc (.cells #[.int .u8 0, .int .i64 ((a.length : Int) - (m : Int)), .int .i64 (m : Int), .string ⟨#[]⟩] 78)).heap.size by have := HB.out.size; simp; omega)
          have hcast := hide (show ((a.length - m : Nat) : Int) = (a.length : Int) - (m : Int) by omega)
          go_wp2_with (at_builtin; refine wpList_append_reads rfl _ _ 76 rfl w.heap.size 78 i0 (.agg #[.int .u8 0, .int .i64 0, .int .i64 0, .string ⟨#[]⟩]) 4 40 Try.underlying76 HI.out Hz0.out Hz1.out Hz2.out rfl (by decide) _ _ _ rfl (HO.out.alloc _) _ 1 [.int .u8 0, .int .i64 ((a.length : Int) - (m : Int)), .int .i64 (m : Int), .string ⟨#[]⟩] rfl (reads_fresh _ [.int .u8 0, .int .i64 ((a.length : Int) - (m : Int)), .int .i64 (m : Int), .string ⟨#[]⟩] 78 4 1 rfl (by simp [Value.oneCell']) (by unfold maxLen; omega)) (by unfold maxLen; omega) (by omega) HZ.out ?_; intro a' c' w3 hown3 hg3)
          go_meet
          case rel =>
            rw [P3.out, if_pos h1]
            refine ⟨⟨a', c', ?_, ?_⟩, (HB.out.alloc HB.out.size _).grown hg3 HZ.out (fun j hj => owned_ge HO.out j hj)⟩
            · rw [List.length_append, hl2.out]; rfl
            · rw [List.length_append, hl2.out, ptCells_snoc, Pt.cells]
              simp only [hcast.out]
              exact hown3
        · have h1i : ¬ (0 : Int) < (m : Int) := by omega
          go_wp2_with fail
          go_meet
          case rel =>
            rw [P3.out, if_neg h1, List.append_nil]
            exact ⟨⟨al2, cl2, by rw [hl2.out], by rw [hl2.out]; exact HO.out⟩, HB.out⟩
      case rest =>
        obtain ⟨⟨al3, cl3, rfl, ho⟩, hb1⟩ := hcut
        clear HO HB
        have HO := hide ho
        have HB := hide hb1
        clear ho hb1
        obtain ⟨Z, hZ⟩ : ∃ Z, Hid (Z = ([] : List UInt8) ++ (be 4 a.length ++ be 4 b.length)) := ⟨_, hide rfl⟩
        obtain ⟨l3, hl3⟩ : ∃ l3, Hid ((partsOf a b).length = l3) := ⟨_, hide rfl⟩
        have HR := hide (Reads.owned HO.out (ptCells_one _) (by unfold maxLen; omega))
        go_wp2_with fail
        refine (outFour2 [] a.length b.length _ Z hZ.out _ (reads_fresh _ [.int .u32 (a.length : Int), .int .u32 (b.length : Int)] 83 1 2 rfl (by simp [Value.oneCell']) (by unfold maxLen; omega)) (by omega) (by omega) (by simp)).mono ?_
        rintro e4 w4 ⟨rfl, hb4⟩
        have HB4 := hide ((HB.out.alloc HB.out.size _).trans (hb4.mono (by have := HB.out.size; simp; omega)))
        have HR4 := hide ((HR.out.alloc _).below hb4)
        clear hb4
        go_wp2_with fail
        refine (rowPt_any Z _ (partsOf a b) (deltaOf a.length b.length (partsOf a b)) (by rw [hZ.out]; simp [deltaOf]) _ HR4.out (by omega) (fun p hp => (HPL.out p hp).1.1) (by rw [hZ.out]; simp [be_length])).mono ?_
        rintro e5 w5 ⟨rfl, hb5⟩
        have HB5 := hide (HB4.out.trans (hb5.mono HB4.out.size))
        clear hb5
        go_wp2_with fail
        refine (outString' _ _).mono ?_
        rintro e6 w6 ⟨rfl, hb6⟩
        have HB6 := hide (HB5.out.trans (hb6.mono HB5.out.size))
        clear hb6
        go_wp2_with fail
        go_ret
        exact ⟨rfl, HB6.out⟩
end Go.Proofs.Ytjmbnfcjambdkaa
