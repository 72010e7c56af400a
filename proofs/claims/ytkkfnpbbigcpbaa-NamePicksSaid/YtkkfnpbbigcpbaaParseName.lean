/- name.Parse: what a file's name is of. -/
import Derived.Test.YtkkfnpbbigcpbaaParseSha
import Derived.Test.YtkkfnpbbigcpbaaCutDot
namespace Go.Proofs.Ytkkfnpbbigcpbaa
open Go.RowKit

/-- Is it a kind? -/
def kindOk (k : UInt8) : Bool := k == 111 || k == 112
/-- The kind and the digest that a file's name is of. -/
def nameOf (s : List UInt8) : Option (UInt8 × Dig) :=
  match s with
  | k :: 46 :: r => if kindOk k then (unhex r).map fun d => (k, d) else none
  | _ => none
def nameVal (o : Option (UInt8 × Dig)) : Value := match o with
  | some (k, d) => .tuple #[.int .u8 (k.toNat : Int), .agg (dgst d), .bool true]
  | none => .tuple #[.int .u8 0, .agg (dgst dig0), .bool false]
@[go_sem] theorem nameVal_none : nameVal none = .tuple #[.int .u8 0, .agg (dgst dig0), .bool false] := rfl
@[go_sem] theorem nameVal_some (k : UInt8) (d : Dig) : nameVal (some (k, d)) = .tuple #[.int .u8 (k.toNat : Int), .agg (dgst d), .bool true] := rfl
theorem nameOf_cut (l : List UInt8) : nameOf l = match cutAt 46 l with
    | ([k], r, true) => if kindOk k then (unhex r).map fun d => (k, d) else none
    | _ => none := by
  match l with
  | [] => rfl
  | [a] =>
    by_cases ha : (a == 46) = true
    · simp [nameOf, cutAt, ha]
    · simp [nameOf, cutAt, ha]
  | a :: b :: r =>
    by_cases ha : (a == 46) = true
    · have : a = 46 := by simpa using ha
      subst this
      simp only [cutAt, if_pos rfl]
      by_cases hb : b = 46
      · subst hb; rfl
      · unfold nameOf; split
        · rename_i h; injection h with h1 h2; injection h2 with h2 h3; exact absurd h2 hb
        · rfl
    · by_cases hb : (b == 46) = true
      · have : b = 46 := by simpa using hb
        subst this
        simp only [cutAt, if_neg ha, if_pos hb]
        rfl
      · simp only [cutAt, if_neg ha, if_neg hb]
        unfold nameOf; split
        · rename_i h; injection h with h1 h2; injection h2 with h2 h3; subst h2; exact absurd rfl hb
        · rfl
theorem nameOf_nocut {l pre rest : List UInt8} (h : cutAt 46 l = (pre, rest, false)) : nameOf l = none := by
  rw [nameOf_cut, h]
  split
  · rename_i h; injection h with h1 h2; injection h2 with h2 h3; cases h3
  · rfl
theorem nameOf_long {l pre rest : List UInt8} {b : Bool} (h : cutAt 46 l = (pre, rest, b)) (hp : pre.length ≠ 1) : nameOf l = none := by
  rw [nameOf_cut, h]
  match pre, b with
  | [], _ => rfl
  | [a], _ => exact absurd rfl hp
  | _ :: _ :: _, _ => rfl
theorem nameOf_kind {l rest : List UInt8} {k : UInt8} (h : cutAt 46 l = ([k], rest, true)) (hk : kindOk k = false) : nameOf l = none := by
  rw [nameOf_cut, h]; simp [hk]
theorem nameOf_yes {l rest : List UInt8} {k : UInt8} (h : cutAt 46 l = ([k], rest, true)) (hk : kindOk k = true) : nameOf l = (unhex rest).map fun d => (k, d) := by
  rw [nameOf_cut, h]; simp [hk]
theorem cutAt_len (c : UInt8) (l : List UInt8) : (cutAt c l).1.length ≤ l.length ∧ (cutAt c l).2.1.length ≤ l.length := by
  induction l with
  | nil => simp [cutAt]
  | cons b l ih =>
    unfold cutAt
    split
    · simp
    · simp; omega
theorem len_str (l : List UInt8) : (⟨l.toArray⟩ : ByteArray).size = l.length := by simp [ByteArray.size]
set_option maxRecDepth 4000 in
set_option maxHeartbeats 800000 in
theorem nameParse_any (s : ByteArray) (w : World) (hs : s.size ≤ maxLen) :
    Calls Try.prog 71 #[.string s] w fun e w' => e = .returned (nameVal (nameOf s.data.toList)) ∧ Below w.heap.size w w' := by
  generalize hc : cutAt 46 s.data.toList = r
  have hln := cutAt_len 46 s.data.toList
  rw [hc] at hln
  obtain ⟨pre, rest, has⟩ := r
  have HC := hide hc
  clear hc
  cases has
  · rw [nameOf_nocut HC.out]
    go_enter Try.func71, Try.ntmps71
    go_wp2_with (go_at_call 104; refine (cut_one s 46 _ hs).mono ?_; rw [HC.out]; rintro e wx ⟨rfl, hb⟩; have hor := rowOk_below hb (b := w.heap.size) (by simp) 32; rw [rowOk_new] at hor; have hz := hb.size; rw [World.size_alloc] at hz)
    refine ret_tmp_dig_tmp rfl w.heap.size dig0 rfl (rowCells_setRow_same _ (n := 32) (by rw [hor]; rfl)) rfl ?_
    exact ⟨rfl, below_setRow (((Below.refl _ w).alloc (Nat.le_refl _) _).trans (hb.mono (by simp))) (Nat.le_refl _) _⟩
  by_cases hp : pre.length = 1
  · obtain ⟨k, rfl⟩ : ∃ k, pre = [k] := by
      match pre, hp with
      | [k], _ => exact ⟨k, rfl⟩
    have hs1 : (⟨[k].toArray⟩ : ByteArray).size = 1 := rfl
    have hg : (⟨[k].toArray⟩ : ByteArray)[0] = k := rfl
    have hkb := byte_le k
    have hsr : (⟨rest.toArray⟩ : ByteArray).size ≤ maxLen := by rw [len_str]; have := hln.2; simp at this; omega
    cases hk : kindOk k
    · have hk1 : ((k.toNat : Int) != 111) = true := by
        rw [bne_iff_ne]; intro h
        have : k = 111 := UInt8.toNat_inj.1 (by simpa using (by omega : k.toNat = 111))
        subst this; cases hk
      have hk2 : ((k.toNat : Int) != 112) = true := by
        rw [bne_iff_ne]; intro h
        have : k = 112 := UInt8.toNat_inj.1 (by simpa using (by omega : k.toNat = 112))
        subst this; cases hk
      rw [nameOf_kind HC.out hk]
      go_enter Try.func71, Try.ntmps71
      go_wp2_with (go_at_call 104; refine (cut_one s 46 _ hs).mono ?_; rw [HC.out]; rintro e wx ⟨rfl, hb⟩; have hor := rowOk_below hb (b := w.heap.size) (by simp) 32; rw [rowOk_new] at hor; have hz := hb.size; rw [World.size_alloc] at hz)
      refine ret_tmp_dig_tmp rfl w.heap.size dig0 rfl (rowCells_setRow_same _ (n := 32) (by rw [hor]; rfl)) rfl ?_
      exact ⟨rfl, below_setRow (((Below.refl _ w).alloc (Nat.le_refl _) _).trans (hb.mono (by simp))) (Nat.le_refl _) _⟩
    · rw [nameOf_yes HC.out hk]
      have hk3 : k = 111 ∨ k = 112 := by simpa [kindOk] using hk
      have hp := parse_any ⟨rest.toArray⟩
      rw [show (⟨rest.toArray⟩ : ByteArray).data.toList = rest from rfl] at hp
      cases hu : unhex rest with
      | none =>
        rw [hu] at hp
        have hk4 : ((k.toNat : Int) != 111) = false ∨ ((k.toNat : Int) != 111) = true ∧ ((k.toNat : Int) != 112) = false := by
          rcases hk3 with rfl | rfl
          · exact Or.inl rfl
          · exact Or.inr ⟨rfl, rfl⟩
        clear hk3
        go_enter Try.func71, Try.ntmps71
        rcases hk4 with hk4 | ⟨hk4, hk5⟩
        · go_wp2_with (go_at_call 104; refine (cut_one s 46 _ hs).mono ?_; rw [HC.out]; rintro e wx ⟨rfl, hb⟩; have hor := rowOk_below hb (b := w.heap.size) (by simp) 32; rw [rowOk_new] at hor; have hz := hb.size; rw [World.size_alloc] at hz)
          go_wp2_with (go_at_call 105; fail)
          refine (hp _ hsr).mono ?_; rintro e wy ⟨rfl, hb2⟩; have hz2 := hb2.size; have hB := (((Below.refl w.heap.size w).alloc (Nat.le_refl _) (.cells (dgst dig0) 25)).trans (hb.mono (by simp))).trans (hb2.mono (by omega : w.heap.size ≤ wx.heap.size)); have hor2 : wy.rowOk w.heap.size 32 = true := by simp [rowOk_below hb2 (b := w.heap.size) (by omega) 32, hor]
          clear hor
          have hlt : w.heap.size < wy.heap.size := by omega
          have hne : w.heap.size ≠ wy.heap.size := by omega
          go_wp2; go_region; go_wp2
          refine ret_tmp_dig_tmp rfl w.heap.size dig0 rfl (rowCells_setRow_same _ (n := 32) (rowOk_through hor2 (by omega))) rfl ?_
          exact ⟨rfl, below_setRow (below_setRow (hB.alloc (by omega) _) (g := wy.heap.size) (by omega) _).drew (Nat.le_refl _) _⟩
        · go_wp2_with (go_at_call 104; refine (cut_one s 46 _ hs).mono ?_; rw [HC.out]; rintro e wx ⟨rfl, hb⟩; have hor := rowOk_below hb (b := w.heap.size) (by simp) 32; rw [rowOk_new] at hor; have hz := hb.size; rw [World.size_alloc] at hz)
          go_wp2_with (go_at_call 105; fail)
          refine (hp _ hsr).mono ?_; rintro e wy ⟨rfl, hb2⟩; have hz2 := hb2.size; have hB := (((Below.refl w.heap.size w).alloc (Nat.le_refl _) (.cells (dgst dig0) 25)).trans (hb.mono (by simp))).trans (hb2.mono (by omega : w.heap.size ≤ wx.heap.size)); have hor2 : wy.rowOk w.heap.size 32 = true := by simp [rowOk_below hb2 (b := w.heap.size) (by omega) 32, hor]
          clear hor
          have hlt : w.heap.size < wy.heap.size := by omega
          have hne : w.heap.size ≠ wy.heap.size := by omega
          go_wp2; go_region; go_wp2
          refine ret_tmp_dig_tmp rfl w.heap.size dig0 rfl (rowCells_setRow_same _ (n := 32) (rowOk_through hor2 (by omega))) rfl ?_
          exact ⟨rfl, below_setRow (below_setRow (hB.alloc (by omega) _) (g := wy.heap.size) (by omega) _).drew (Nat.le_refl _) _⟩
      | some d =>
        rw [hu] at hp
        have hk4 : ((k.toNat : Int) != 111) = false ∨ ((k.toNat : Int) != 111) = true ∧ ((k.toNat : Int) != 112) = false := by
          rcases hk3 with rfl | rfl
          · exact Or.inl rfl
          · exact Or.inr ⟨rfl, rfl⟩
        clear hk3
        go_enter Try.func71, Try.ntmps71
        rcases hk4 with hk4 | ⟨hk4, hk5⟩
        · go_wp2_with (go_at_call 104; refine (cut_one s 46 _ hs).mono ?_; rw [HC.out]; rintro e wx ⟨rfl, hb⟩; have hor := rowOk_below hb (b := w.heap.size) (by simp) 32; rw [rowOk_new] at hor; have hz := hb.size; rw [World.size_alloc] at hz)
          go_wp2_with (go_at_call 105; fail)
          refine (hp _ hsr).mono ?_; rintro e wy ⟨rfl, hb2⟩; have hz2 := hb2.size; have hB := (((Below.refl w.heap.size w).alloc (Nat.le_refl _) (.cells (dgst dig0) 25)).trans (hb.mono (by simp))).trans (hb2.mono (by omega : w.heap.size ≤ wx.heap.size)); have hor2 : wy.rowOk w.heap.size 32 = true := by simp [rowOk_below hb2 (b := w.heap.size) (by omega) 32, hor]
          clear hor
          have hlt : w.heap.size < wy.heap.size := by omega
          have hne : w.heap.size ≠ wy.heap.size := by omega
          go_wp2; go_region; go_wp2
          refine ret_tmp_dig_tmp rfl w.heap.size d rfl (rowCells_setRow_same _ (n := 32) (rowOk_through hor2 (by omega))) rfl ?_
          exact ⟨rfl, below_setRow (below_setRow (hB.alloc (by omega) _) (g := wy.heap.size) (by omega) _).drew (Nat.le_refl _) _⟩
        · go_wp2_with (go_at_call 104; refine (cut_one s 46 _ hs).mono ?_; rw [HC.out]; rintro e wx ⟨rfl, hb⟩; have hor := rowOk_below hb (b := w.heap.size) (by simp) 32; rw [rowOk_new] at hor; have hz := hb.size; rw [World.size_alloc] at hz)
          go_wp2_with (go_at_call 105; fail)
          refine (hp _ hsr).mono ?_; rintro e wy ⟨rfl, hb2⟩; have hz2 := hb2.size; have hB := (((Below.refl w.heap.size w).alloc (Nat.le_refl _) (.cells (dgst dig0) 25)).trans (hb.mono (by simp))).trans (hb2.mono (by omega : w.heap.size ≤ wx.heap.size)); have hor2 : wy.rowOk w.heap.size 32 = true := by simp [rowOk_below hb2 (b := w.heap.size) (by omega) 32, hor]
          clear hor
          have hlt : w.heap.size < wy.heap.size := by omega
          have hne : w.heap.size ≠ wy.heap.size := by omega
          go_wp2; go_region; go_wp2
          refine ret_tmp_dig_tmp rfl w.heap.size d rfl (rowCells_setRow_same _ (n := 32) (rowOk_through hor2 (by omega))) rfl ?_
          exact ⟨rfl, below_setRow (below_setRow (hB.alloc (by omega) _) (g := wy.heap.size) (by omega) _).drew (Nat.le_refl _) _⟩
  · rw [nameOf_long HC.out hp]
    have hs1 : ¬ (⟨pre.toArray⟩ : ByteArray).size = 1 := by rw [len_str]; exact hp
    go_enter Try.func71, Try.ntmps71
    go_wp2_with (go_at_call 104; refine (cut_one s 46 _ hs).mono ?_; rw [HC.out]; rintro e wx ⟨rfl, hb⟩; have hor := rowOk_below hb (b := w.heap.size) (by simp) 32; rw [rowOk_new] at hor; have hz := hb.size; rw [World.size_alloc] at hz)
    refine ret_tmp_dig_tmp rfl w.heap.size dig0 rfl (rowCells_setRow_same _ (n := 32) (by rw [hor]; rfl)) rfl ?_
    exact ⟨rfl, below_setRow (((Below.refl _ w).alloc (Nat.le_refl _) _).trans (hb.mono (by simp))) (Nat.le_refl _) _⟩
end Go.Proofs.Ytkkfnpbbigcpbaa
