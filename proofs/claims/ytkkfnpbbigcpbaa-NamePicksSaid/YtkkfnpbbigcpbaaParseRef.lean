/- The document's Parse: what a file's name is of; it is as the code's. -/
import Derived.Test.YtkkfnpbbigcpbaaParseName
namespace Go.Proofs.Ytkkfnpbbigcpbaa
open Go.RowKit

theorem nib_cases (c : UInt8) : (48 ≤ (c.toNat : Int) ∧ (c.toNat : Int) ≤ 57 ∧ ((nib c).toNat : Int) = (c.toNat : Int) - 48) ∨ (97 ≤ (c.toNat : Int) ∧ (c.toNat : Int) ≤ 102 ∧ ((nib c).toNat : Int) = (c.toNat : Int) - 97 + 10) ∨ (¬ (48 ≤ (c.toNat : Int) ∧ (c.toNat : Int) ≤ 57) ∧ ¬ (97 ≤ (c.toNat : Int) ∧ (c.toNat : Int) ≤ 102) ∧ ((nib c).toNat : Int) = 16) := by
  revert c
  apply each_byte
  set_option maxRecDepth 10000 in decide
set_option maxHeartbeats 400000 in
theorem nibble_any (c : UInt8) (w : World) :
    Calls Try.prog 106 #[.int .u8 (c.toNat : Int)] w fun e w' => e = .returned (.int .u8 ((nib c).toNat : Int)) ∧ w = w' := by
  have hc := byte_le c
  rcases nib_cases c with ⟨h1, h2, h3⟩ | ⟨h1, h2, h3⟩ | ⟨h1, h2, h3⟩
  all_goals
    rw [h3]
    clear h3
    go_enter Try.func106, Try.ntmps106
    go_wp2
    all_goals first
      | (go_ret; exact ⟨by first | rfl | (apply ret_int; simp; omega), rfl⟩)
      | (exfalso; simp at *; omega)
      | skip

theorem nameOf_two (k d : UInt8) (r : List UInt8) : nameOf (k :: d :: r) = if d = 46 ∧ kindOk k = true then (unhex r).map fun x => (k, x) else none := by
  by_cases hd : d = 46
  · subst hd
    by_cases hk : kindOk k = true
    · simp [nameOf, hk]
    · simp [nameOf, hk]
  · rw [if_neg (fun h => hd h.1)]
    unfold nameOf; split
    · rename_i h; injection h with h1 h2; injection h2 with h2 h3; exact absurd h2 hd
    · rfl
theorem unhex_length {r : List UInt8} (h : r.length ≠ 64) : unhex r = none := by rw [unhex, if_neg]; intro hh; exact h hh.1
theorem unhex_digit {r : List UInt8} (j : Nat) (hj : j < r.length) (h : nib (r.getD j 0) = 16) : unhex r = none := by
  rw [unhex, if_neg]
  intro hh
  have := List.all_eq_true.1 hh.2 (r[j]) (List.getElem_mem hj)
  rw [List.getD_eq_getElem?_getD, List.getElem?_eq_getElem hj, Option.getD_some] at h
  simp [isDigit, h] at this
theorem unhex_ref {r : List UInt8} (hl : r.length = 64) (ha : (r.take (2 * 32)).all isDigit = true) : unhex r = some (refAt r 32) := by
  have h2 : r.all isDigit = true := by rw [List.take_of_length_le (by omega)] at ha; exact ha
  have h3 : ∀ n, n = 2 * 32 → digAt r n = refAt r 32 := by
    intro n hn; subst hn; exact digAt_refAt r 32 (Nat.le_refl _) (by omega) ha
  rw [unhex, if_pos ⟨hl, h2⟩, h3 64 rfl]
/-- A text of at least two bytes. -/
theorem two_of (s : ByteArray) (h : 2 ≤ s.size) : s.data.toList = s[0] :: s[1] :: s.data.toList.drop 2 := by
  have hl : s.data.toList.length = s.size := by simp
  apply List.ext_getElem (by simp; omega)
  intro n h1 h2
  match n with
  | 0 => simp [ByteArray.getElem_eq_getElem_data]
  | 1 => simp [ByteArray.getElem_eq_getElem_data]
  | n + 2 => simp [Nat.add_comm]
theorem rest_get (s : ByteArray) (j : Nat) (h : 2 + j < s.size) : (s.data.toList.drop 2).getD j 0 = s[2 + j] := by
  rw [List.getD_eq_getElem?_getD, List.getElem?_drop, List.getElem?_eq_getElem (by simpa using h), Option.getD_some, Array.getElem_toList]
  rfl
theorem nameOf_size {s : ByteArray} (h : s.size ≠ 66) : nameOf s.data.toList = none := by
  by_cases h2 : 2 ≤ s.size
  · rw [two_of s h2, nameOf_two, unhex_length (by simp; omega)]; simp
  · have hl : s.data.toList.length = s.size := by simp
    generalize s.data.toList = l at *
    match l with
    | [] => rfl
    | [_] => rfl
    | _ :: _ :: _ => simp at hl; omega
theorem nameOf_dot {s : ByteArray} (h2 : 2 ≤ s.size) (h : s[1] ≠ 46) : nameOf s.data.toList = none := by
  rw [two_of s h2, nameOf_two, if_neg (fun hh => h hh.1)]
theorem nameOf_knd {s : ByteArray} (h2 : 2 ≤ s.size) (h : kindOk s[0] = false) : nameOf s.data.toList = none := by
  rw [two_of s h2, nameOf_two, if_neg (fun hh => by rw [h] at hh; cases hh.2)]
theorem nameOf_digit {s : ByteArray} (h2 : 2 ≤ s.size) (j : Nat) (hj : 2 + j < s.size) (h : nib s[2 + j] = 16) : nameOf s.data.toList = none := by
  rw [two_of s h2, nameOf_two, unhex_digit j (by simp; omega) (by rw [rest_get s j hj]; exact h)]; simp
theorem nameOf_ref {s : ByteArray} (h : s.size = 66) (h1 : s[1] = 46) (h0 : kindOk s[0] = true) (ha : ((s.data.toList.drop 2).take (2 * 32)).all isDigit = true) : nameOf s.data.toList = some (s[0], refAt (s.data.toList.drop 2) 32) := by
  rw [two_of s (by omega), nameOf_two, if_pos ⟨h1, h0⟩, ← two_of s (by omega), unhex_ref (by simp; omega) ha]; rfl

theorem nameOf_digit1 {s : ByteArray} (h2 : 2 ≤ s.size) (k : Nat) (hj : 3 + 2 * k < s.size) (h : nib s[3 + 2 * k] = 16) : nameOf s.data.toList = none := by
  refine nameOf_digit h2 (2 * k + 1) (by omega) ?_
  have g2 : s[2 + (2 * k + 1)] = s[3 + 2 * k] := by congr 1; omega
  rw [g2]; exact h
theorem take_two (l : List UInt8) (k : Nat) (h : 2 * k + 1 < l.length) : l.take (2 * (k + 1)) = l.take (2 * k) ++ [l.getD (2 * k) 0] ++ [l.getD (2 * k + 1) 0] := by
  have e : 2 * (k + 1) = (2 * k + 1) + 1 := by omega
  rw [e, List.take_succ_eq_append_getElem h, List.take_succ_eq_append_getElem (by omega : 2 * k < l.length)]
  simp [List.getD_eq_getElem?_getD, List.getElem?_eq_getElem h, List.getElem?_eq_getElem (by omega : 2 * k < l.length)]
theorem two_digits {s : ByteArray} (k : Nat) (h0 : 2 + 2 * k < s.size) (h1 : 3 + 2 * k < s.size) (a : (nib s[2 + 2 * k]).toNat < 16) (b : (nib s[3 + 2 * k]).toNat < 16) (hall : ((s.data.toList.drop 2).take (2 * k)).all isDigit = true) :
    ((s.data.toList.drop 2).take (2 * (k + 1))).all isDigit = true ∧ refAt (s.data.toList.drop 2) (k + 1) = (refAt (s.data.toList.drop 2) k).set k (16 * nib s[2 + 2 * k] + nib s[3 + 2 * k]) := by
  have hd : ∀ c, (nib c).toNat < 16 → isDigit c = true := fun c hc => by
    rw [isDigit, bne_iff_ne]; intro h; rw [h] at hc; simp at hc
  have g0 := rest_get s (2 * k) h0
  have g1 := rest_get s (2 * k + 1) (by omega)
  have g2 : s[2 + (2 * k + 1)] = s[3 + 2 * k] := by congr 1; omega
  rw [g2] at g1
  refine ⟨?_, by rw [refAt, g0, g1]⟩
  rw [take_two _ k (by simp; omega), g0, g1, List.all_append, List.all_append, hall]
  simp [hd _ a, hd _ b]
theorem two_val (a b : UInt8) (ha : a.toNat < 16) (hb : b.toNat < 16) : (16 * (a.toNat : Int) + (b.toNat : Int)) = ((16 * a + b).toNat : Int) := by
  simp; omega
set_option maxRecDepth 4000 in
set_option maxHeartbeats 3200000 in
theorem refParse_any (s : ByteArray) (w : World) (hs : s.size ≤ maxLen) :
    Calls Try.prog 72 #[.string s] w fun e w' => e = .returned (nameVal (nameOf s.data.toList)) ∧ Below w.heap.size w w' := by
  unfold maxLen at hs
  by_cases h66 : s.size = 66
  rotate_left
  · rw [nameOf_size h66]
    go_enter Try.func72, Try.ntmps72
    go_wp2
    go_region
    go_wp2
    refine ret_tmp_dig_tmp rfl w.heap.size dig0 rfl (rowCells_setRow_same _ (n := 32) (by simp [go_sem])) rfl ?_
    exact ⟨rfl, below_setRow (((Below.refl _ w).alloc (Nat.le_refl _) _).alloc (by simp) _).drew (Nat.le_refl _) _⟩
  have hi0 : (0 : Nat) < s.size := by omega
  have hi1 : (1 : Nat) < s.size := by omega
  by_cases hd : s[1] = 46
  rotate_left
  · rw [nameOf_dot (by omega) hd]
    have ht : ((s[1].toNat : Int) != 46) = true := by
      rw [bne_iff_ne]; intro h
      exact hd (UInt8.toNat_inj.1 (by simpa using (by omega : s[1].toNat = 46)))
    have hsz : (s.size : Int) = 66 := by omega
    have hsb : ((s.size : Int) != 66) = false := by rw [hsz]; rfl
    go_enter Try.func72, Try.ntmps72
    go_wp2
    go_region
    go_wp2
    refine ret_tmp_dig_tmp rfl w.heap.size dig0 rfl (rowCells_setRow_same _ (n := 32) (by simp [go_sem])) rfl ?_
    exact ⟨rfl, below_setRow (((Below.refl _ w).alloc (Nat.le_refl _) _).alloc (by simp) _).drew (Nat.le_refl _) _⟩
  have ht : ((s[1].toNat : Int) != 46) = false := by rw [hd]; rfl
  have hd1 := hd
  have hsz : (s.size : Int) = 66 := by omega
  have hsb : ((s.size : Int) != 66) = false := by rw [hsz]; rfl
  cases hk : kindOk s[0]
  · rw [nameOf_knd (by omega) hk]
    have hk1 : ((s[0].toNat : Int) != 111) = true := by
      rw [bne_iff_ne]; intro h
      have : s[0] = 111 := UInt8.toNat_inj.1 (by simpa using (by omega : s[0].toNat = 111))
      rw [this] at hk; cases hk
    have hk2 : ((s[0].toNat : Int) != 112) = true := by
      rw [bne_iff_ne]; intro h
      have : s[0] = 112 := UInt8.toNat_inj.1 (by simpa using (by omega : s[0].toNat = 112))
      rw [this] at hk; cases hk
    go_enter Try.func72, Try.ntmps72
    go_wp2
    go_region
    go_wp2
    refine ret_tmp_dig_tmp rfl w.heap.size dig0 rfl (rowCells_setRow_same _ (n := 32) (by simp [go_sem])) rfl ?_
    exact ⟨rfl, below_setRow (((Below.refl _ w).alloc (Nat.le_refl _) _).alloc (by simp) _).drew (Nat.le_refl _) _⟩
  have hkk := hk
  have hk4 : ((s[0].toNat : Int) != 111) = false ∨ ((s[0].toNat : Int) != 111) = true ∧ ((s[0].toNat : Int) != 112) = false := by
    have hk3 : s[0] = 111 ∨ s[0] = 112 := by simpa [kindOk] using hk
    rcases hk3 with h | h
    · rw [h]; exact Or.inl rfl
    · rw [h]; exact Or.inr ⟨rfl, rfl⟩
  go_enter Try.func72, Try.ntmps72
  rcases hk4 with hk4 | ⟨hk4, hk5⟩
  all_goals
    go_wp2
    go_loopw [6, 7, 8] (fun i _ _ wr => ∃ k : Nat, k ≤ 32 ∧ i = .int .i64 k ∧ ((s.data.toList.drop 2).take (2 * k)).all isDigit = true ∧ wr.heap[w.heap.size]? = some (.cells (dgst dig0) 25 (0, 0)) ∧ wr.heap[w.heap.size + 1]? = some (.cells (dgst (refAt (s.data.toList.drop 2) k)) 25 (0, 0)) ∧ Below w.heap.size w wr) (fun i _ _ _ => 32 - (intOf i).toNat)
    case atStart =>
      refine ⟨0, by omega, rfl, rfl, ?_, ?_, ((Below.refl _ w).alloc (Nat.le_refl _) _).alloc (by simp) _⟩
      · rw [heap_alloc_old _ _ (by simp), heap_alloc_new]
      · have := heap_alloc_new (w.alloc (.cells (dgst dig0) 25)) (.cells (dgst dig0) 25)
        rw [World.size_alloc] at this
        exact this
    case round =>
      obtain ⟨k, hk, rfl, hall, hr, hd, hb⟩ := hrel
      have HA := hide hall
      clear hall
      have hcr := rowCells_of hr
      have hcd := rowCells_of hd
      have hor := rowOk_of 32 hr
      have hod := rowOk_of 32 hd
      have HR := hide hr
      have HD := hide hd
      clear hr hd
      rw [dgst_size] at hor hod
      replace hor : wr.rowOk w.heap.size 32 = true := hor
      replace hod : wr.rowOk (w.heap.size + 1) 32 = true := hod
      by_cases hlt : k < 32
      · have hj0 : 2 + 2 * k < s.size := by omega
        have hj1 : 3 + 2 * k < s.size := by omega
        have hfz := frozen_of_row wr (w.heap.size + 1) k _ _ HD.out
        have hcell := cell_dgst hcd k (by omega)
        have q1 : (0 : Int) ≤ 2 + 2 * (k : Int) ∧ (2 : Int) + 2 * (k : Int) < 66 := by omega
        have q2 : (0 : Int) ≤ 3 + 2 * (k : Int) ∧ (3 : Int) + 2 * (k : Int) < 66 := by omega
        have q3 : IntKind.i64.wrap (2 * (k : Int)) = 2 * (k : Int) := by rw [IntKind.wrap_i64]; omega
        have q4 : IntKind.i64.wrap (2 + 2 * (k : Int)) = 2 + 2 * (k : Int) := by rw [IntKind.wrap_i64]; omega
        have q5 : IntKind.i64.wrap (3 + 2 * (k : Int)) = 3 + 2 * (k : Int) := by rw [IntKind.wrap_i64]; omega
        go_wp2_with fail
        go_big_quiet ((go_at_call 106; exact Calls.quiet_of_same ((nibble_any _ _).mono fun e w' h => ⟨h.1, h.2.symm⟩)))
        have hn0 := nib_le (s[2 + 2 * k]'hj0)
        have hn1 := nib_le (s[3 + 2 * k]'hj1)
        have B0 := hide (nameOf_digit (s := s) (by omega) (2 * k) hj0)
        have B1 := hide (nameOf_digit1 (s := s) (by omega) k hj1)
        by_cases ha : 15 < ((nib (s[2 + 2 * k]'hj0)).toNat : Int)
        · have hab : decide (15 < ((nib (s[2 + 2 * k]'hj0)).toNat : Int)) = true := decide_eq_true ha
          have hbn := below_drewN hb nq
          clear hb
          go_wp2
          refine ret_tmp_dig_tmp rfl w.heap.size dig0 rfl (rowCells_setRow_same _ (n := 32) hor) rfl ?_
          rw [B0.out (UInt8.toNat_inj.1 (by simp; omega))]
          exact ⟨rfl, below_setRow hbn (Nat.le_refl _) _⟩
        have hab : decide (15 < ((nib (s[2 + 2 * k]'hj0)).toNat : Int)) = false := decide_eq_false ha
        by_cases hb' : 15 < ((nib (s[3 + 2 * k]'hj1)).toNat : Int)
        · have hbb : decide (15 < ((nib (s[3 + 2 * k]'hj1)).toNat : Int)) = true := decide_eq_true hb'
          have hbn := below_drewN hb nq
          clear hb
          go_wp2
          refine ret_tmp_dig_tmp rfl w.heap.size dig0 rfl (rowCells_setRow_same _ (n := 32) hor) rfl ?_
          rw [B1.out (UInt8.toNat_inj.1 (by simp; omega))]
          exact ⟨rfl, below_setRow hbn (Nat.le_refl _) _⟩
        have hbb : decide (15 < ((nib (s[3 + 2 * k]'hj1)).toNat : Int)) = false := decide_eq_false hb'
        have ST := hide (two_digits k hj0 hj1 (by omega) (by omega) HA.out)
        have VL := hide (two_val (nib (s[2 + 2 * k]'hj0)) (nib (s[3 + 2 * k]'hj1)) (by omega) (by omega))
        go_wp2
        go_roundw
        case rel =>
          rw [VL.out]
          refine ⟨k + 1, by omega, by go_num, ST.out.1, ?_, ?_, ?_⟩
          · rw [heap_setCell_other _ _ _ _ (by simp)]; exact HR.out
          · rw [ST.out.2]; exact row_set (w := wr.drewN nq) HD.out k _
          · exact (below_drewN hb nq).setCell (by simp) _
        case measure => simp [intOf]; omega
      · have hk32 : k = 32 := by omega
        subst hk32
        have NR := hide (nameOf_ref h66 hd1 hkk HA.out)
        go_wp2
        go_region
        go_wp2
        refine ret_tmp_dig_tmp rfl w.heap.size (refAt (s.data.toList.drop 2) 32) rfl (rowCells_setRow_same _ (n := 32) hor) rfl ?_
        rw [NR.out]
        exact ⟨rfl, below_setRow hb.drew (Nat.le_refl _) _⟩
end Go.Proofs.Ytkkfnpbbigcpbaa
