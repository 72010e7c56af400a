/- name.Pick: the digests of a kind among files' names. -/
import Derived.Test.YtkkfnpbbigcpbaaParseName
import Derived.Test.YtkkfnpbbigcpbaaDigSl
namespace Go.Proofs.Ytkkfnpbbigcpbaa
open Go.RowKit

def strs (L : List ByteArray) : List Value := L.map Value.string
theorem strs_get (L : List ByteArray) (k : Nat) (h : k < L.length) : (strs L)[k]? = some (.string L[k]) := by simp [strs, h]
/-- The digest that a name is of, at that kind. -/
def pickOne (k : UInt8) (s : ByteArray) : List Dig := match nameOf s.data.toList with
  | some (c, d) => if c = k then [d] else []
  | none => []
def picks (k : UInt8) (L : List ByteArray) : List Dig := L.flatMap (pickOne k)
theorem picks_succ (k : UInt8) (L : List ByteArray) (j : Nat) (h : j < L.length) : picks k (L.take (j + 1)) = picks k (L.take j) ++ pickOne k L[j] := by
  rw [List.take_succ_eq_append_getElem h, picks, List.flatMap_append]; simp [picks]
theorem pickOne_len (k : UInt8) (s : ByteArray) : (pickOne k s).length ≤ 1 := by
  unfold pickOne; split
  · split <;> simp
  · simp
theorem picks_len (k : UInt8) (L : List ByteArray) : (picks k L).length ≤ L.length := by
  induction L with
  | nil => simp [picks]
  | cons s L ih =>
    have := pickOne_len k s
    simp only [picks, List.flatMap_cons, List.length_append, List.length_cons] at *
    omega
theorem Reads.cellAt {w : World} {b o c n : Nat} {cs : List Value} (h : Reads w 1 (.slice (some ⟨b, o, none⟩) n c) n cs) (j : Nat) (u : Value) (hj : cs[j]? = some u) : w.cell? ⟨b, o + j, none⟩ = some u := by
  obtain ⟨_, _, _, ⟨h, _⟩ | ⟨b', o', c', h, _, _, h4⟩⟩ := h
  · cases h
  · cases h; exact h4 j u hj
theorem Reads.form {w : World} {size n : Nat} {v : Value} {cs : List Value} (h : Reads w size v n cs) : (v = .slice none 0 0 ∧ n = 0) ∨ ∃ b o c, v = .slice (some ⟨b, o, none⟩) n c := by
  obtain ⟨_, _, _, h | ⟨b, o, c, h, _⟩⟩ := h
  · exact .inl h
  · exact .inr ⟨b, o, c, h⟩

theorem Reads.shape {w : World} {size n : Nat} {v : Value} {cs : List Value} (h : Reads w size v n cs) : ∃ a c, v = .slice a n c := by
  rcases h.form with ⟨rfl, rfl⟩ | ⟨b, o, c, rfl⟩
  · exact ⟨none, 0, rfl⟩
  · exact ⟨_, c, rfl⟩
theorem owned_below {w w' : World} {base size n : Nat} {e : TypeId} {v : Value} {cs : List Value} (h : w.ownsRow base e size v n cs) (hb : Below w.heap.size w w') : w'.ownsRow base e size v n cs := by
  obtain ⟨h1, h2 | ⟨g, cap, cur, e1, hg, hc, h3⟩⟩ := h
  · exact ⟨h1, .inl h2⟩
  · refine ⟨h1, .inr ⟨g, cap, cur, e1, hg, ?_, h3⟩⟩
    rw [hb.block g (by
      by_cases hh : g < w.heap.size
      · exact hh
      · rw [Array.getElem?_eq_none (by omega)] at hc; cases hc)]
    exact hc
theorem owned_setRow {w : World} {base size n g : Nat} {e : TypeId} {v : Value} {cs : List Value} (h : w.ownsRow base e size v n cs) (hg : v.ownBlock ≠ some g) (ds : Array Value) : (w.setRow g ds).ownsRow base e size v n cs := by
  obtain ⟨h1, h2 | ⟨b, cap, cur, rfl, hb, hc, h3⟩⟩ := h
  · exact ⟨h1, .inl h2⟩
  · refine ⟨h1, .inr ⟨b, cap, cur, rfl, hb, ?_, h3⟩⟩
    rw [setRow_other w g b ds (fun e => hg (by rw [← e]; rfl))]
    exact hc
set_option maxRecDepth 20000 in
set_option maxHeartbeats 1600000 in
theorem pick_any (k : UInt8) (v : Value) (L : List ByteArray) (w : World) (hr : Reads w 1 v L.length (strs L)) (hs : ∀ s ∈ L, s.size ≤ maxLen) (hx : L.length ≤ 1000000) :
    Calls Try.prog 75 #[.int .u8 (k.toNat : Int), v] w fun e w' => (∃ a c, e = .returned (.slice a (picks k L).length c) ∧ w'.ownsRow w.heap.size 25 32 (.slice a (picks k L).length c) (picks k L).length (dcells (picks k L))) ∧ Below w.heap.size w w' := by
  obtain ⟨i0, hi, hz0, hz1, hz2⟩ := info_parts info_dgst_parts
  have HI := hide hi
  have Hz0 := hide hz0
  have Hz1 := hide hz1
  have Hz2 := hide hz2
  have HS := hide hs
  have HRd := hide hr
  clear hi hz0 hz1 hz2 hs
  have hkb := byte_le k
  obtain ⟨a0, c, rfl⟩ := hr.shape
  clear hr
  go_enter Try.func75, Try.ntmps75
  go_wp2
  go_loopw [13, 5, 7, 8, 9, 10] (fun i v _ _ _ _ wr => ∃ (j : Nat) (a : Option Addr) (c : Nat), j ≤ L.length ∧ i = .int .i64 j ∧ v = .slice a (picks k (L.take j)).length c ∧ wr.ownsRow w.heap.size 25 32 (.slice a (picks k (L.take j)).length c) (picks k (L.take j)).length (dcells (picks k (L.take j))) ∧ Below w.heap.size w wr) (fun i _ _ _ _ _ _ => L.length - (intOf i).toNat)
  case atStart => exact ⟨0, none, 0, by omega, rfl, rfl, World.ownsRow_nil _ _ _ _, Below.refl _ _⟩
  case round =>
    obtain ⟨j, a, c', hj, rfl, rfl, hown, hb⟩ := hrel
    have HO := hide hown
    have HB := hide hb
    clear hown hb
    by_cases hlt : j < L.length
    · have hform := HRd.out.form
      rcases hform with ⟨_, h0⟩ | ⟨b, o, c2, hform⟩
      · omega
      cases hform
      have hcell : wr.cell? ⟨b, o + j, none⟩ = some (.string L[j]) := by
        have h := HRd.out.cellAt j _ (strs_get L j hlt)
        rw [HB.out.cell (p := ⟨b, o + j, none⟩) (block_lt_of_cell h)]; exact h
      have HP := hide (nameParse_any L[j] wr (HS.out _ (List.getElem_mem hlt)))
      have HK := hide (picks_succ k L j hlt)
      have HLN := hide (picks_len k (L.take j))
      cases hq : nameOf L[j].data.toList with
      | none =>
        have hz : pickOne k L[j] = [] := by simp [pickOne, hq]
        rw [hq] at HP
        have HZ := hide hz
        clear hz hq
        go_wp2_with (go_at_call 71; fail)
        refine HP.out.mono ?_
        rintro e w1 ⟨rfl, hb1⟩
        have hz1 := hb1.size
        have hW := HB.out.size
        have hown1 := owned_below HO.out hb1
        have hlt1 := World.ownsRow.lt hown1
        have HO2 := hide (owned_setRow (hown1.alloc (.cells (dgst dig0) 25)) (g := w1.heap.size) (fun h => by have := (hlt1 _ h).2; omega) (dgst dig0))
        have HB2 := hide (below_setRow ((HB.out.trans (hb1.mono hW)).alloc (Nat.le_trans hW hz1) (.cells (dgst dig0) 25)) (g := w1.heap.size) (Nat.le_trans hW hz1) (dgst dig0))
        clear hown1 hlt1
        go_wp2_with fail
        go_roundw
        case rel =>
          have hp : picks k (L.take (j + 1)) = picks k (L.take j) := by rw [HK.out, HZ.out, List.append_nil]
          exact ⟨j + 1, a, c', by omega, by go_num, by rw [hp], by rw [hp]; exact HO2.out, HB2.out⟩
        case measure => simp [intOf]; omega
      | some p =>
        obtain ⟨k1, d⟩ := p
        rw [hq] at HP
        have hkb1 := byte_le k1
        by_cases hkk : k1 = k
        · have HZ := hide (show pickOne k L[j] = [d] by simp [pickOne, hq, hkk])
          subst hkk
          clear hq
          go_wp2_with (go_at_call 71; fail)
          refine HP.out.mono ?_
          rintro e w1 ⟨rfl, hb1⟩
          have hz1 := hb1.size
          have hW := HB.out.size
          have hown1 := owned_below HO.out hb1
          have hlt1 := World.ownsRow.lt hown1
          have HO2 := hide ((owned_setRow (hown1.alloc (.cells (dgst dig0) 25)) (g := w1.heap.size) (fun h => by have := (hlt1 _ h).2; omega) (dgst d)).alloc (.cells (dgst d) 25))
          have HB2 := hide ((below_setRow ((HB.out.trans (hb1.mono hW)).alloc (Nat.le_trans hW hz1) (.cells (dgst dig0) 25)) (g := w1.heap.size) (Nat.le_trans hW hz1) (dgst d)).alloc (by simp [go_sem]; omega) (.cells (dgst d) 25))
          have HR2 := hide (reads_dgst (w := ((w1.alloc (.cells (dgst dig0) 25)).setRow w1.heap.size (dgst d)).alloc (.cells (dgst d) 25)) (b := w1.heap.size + 1) (d := d) (by simp [go_sem]))
          have hLn := HLN.out
          rw [List.length_take] at hLn
          have C1 := hide (show (picks k1 (L.take j)).length + 1 ≤ maxLen by unfold maxLen; omega)
          have C2 := hide (show ((picks k1 (L.take j)).length + 1) * 32 ≤ 140737488355328 by omega)
          clear hown1 hlt1 hLn
          go_wp2_with (at_builtin; refine wpList_append_reads rfl _ _ 76 rfl w.heap.size 25 i0 (.agg (dgst dig0)) 32 32 Try.underlying76 HI.out Hz0.out Hz1.out Hz2.out (dgst_size _) (by decide) _ (picks k1 (L.take j)).length (dcells (picks k1 (L.take j))) rfl HO2.out _ 1 (dcells [d]) rfl HR2.out C1.out C2.out HB2.out.size ?_; intro a' c'' w' hown' hg)
          go_roundw
          case rel =>
            have hl : (picks k1 (L.take (j + 1))).length = (picks k1 (L.take j)).length + 1 := by rw [HK.out, List.length_append, HZ.out]; rfl
            refine ⟨j + 1, a', c'', by omega, by go_num, by rw [hl], ?_, HB2.out.grown hg HB2.out.size (owned_ge HO2.out)⟩
            rw [hl, HK.out, HZ.out, dcells_append]
            exact hown'
          case measure => simp [intOf]; omega
        · have HZ := hide (show pickOne k L[j] = [] by simp [pickOne, hq, hkk])
          have hne : ((k1.toNat : Int) == (k.toNat : Int)) = false := by
            rw [beq_eq_false_iff_ne]; intro h; exact hkk (UInt8.toNat_inj.1 (by omega))
          clear hq
          go_wp2_with (go_at_call 71; fail)
          refine HP.out.mono ?_
          rintro e w1 ⟨rfl, hb1⟩
          have hz1 := hb1.size
          have hW := HB.out.size
          have hown1 := owned_below HO.out hb1
          have hlt1 := World.ownsRow.lt hown1
          have HO2 := hide (owned_setRow (hown1.alloc (.cells (dgst dig0) 25)) (g := w1.heap.size) (fun h => by have := (hlt1 _ h).2; omega) (dgst d))
          have HB2 := hide (below_setRow ((HB.out.trans (hb1.mono hW)).alloc (Nat.le_trans hW hz1) (.cells (dgst dig0) 25)) (g := w1.heap.size) (Nat.le_trans hW hz1) (dgst d))
          clear hown1 hlt1
          go_wp2_with fail
          go_roundw
          case rel =>
            have hp : picks k (L.take (j + 1)) = picks k (L.take j) := by rw [HK.out, HZ.out, List.append_nil]
            exact ⟨j + 1, a, c', by omega, by go_num, by rw [hp], by rw [hp]; exact HO2.out, HB2.out⟩
          case measure => simp [intOf]; omega
    · go_wp2_with fail
      go_ret
      obtain rfl : j = L.length := by omega
      rw [List.take_length] at *
      exact ⟨⟨a, c', rfl, HO.out⟩, HB.out⟩
end Go.Proofs.Ytkkfnpbbigcpbaa
