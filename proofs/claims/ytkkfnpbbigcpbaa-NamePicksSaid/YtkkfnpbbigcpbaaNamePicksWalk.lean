/- NamePicks: what it returns of any digests and kinds. -/
import Derived.Test.YtkkfnpbbigcpbaaNameLaw
import Derived.Test.YtkkfnpbbigcpbaaOrder
import Derived.Test.YtkkfnpbbigcpbaaPick
import Derived.Test.YtkkfnpbbigcpbaaParseRef
import Derived.Deep.DeepCutAuto
import Derived.Deep.CutBlock
namespace Go.Proofs.Ytkkfnpbbigcpbaa.namePicks
open Go.RowKit

def isPack (ks : List Bool) (i : Nat) : Bool := ks.getD i false
def objOf (d : Dig) : ByteArray := ⟨(fileText 111 d).toArray⟩
def packOf (d : Dig) : ByteArray := ⟨(fileText 112 d).toArray⟩
def oxText : ByteArray := ⟨#[111, 46, 120]⟩
def allOf (p : Bool) (d : Dig) : List ByteArray := if p then [packOf d] else [objOf d, oxText]
def wantOf (p : Bool) (d : Dig) : List Dig := if p then [] else [d]
def allTo (L : List Dig) (ks : List Bool) : Nat → List ByteArray
  | 0 => []
  | i + 1 => allTo L ks i ++ (match L[i]? with | some d => allOf (isPack ks i) d | none => [])
def wantTo (L : List Dig) (ks : List Bool) : Nat → List Dig
  | 0 => []
  | i + 1 => wantTo L ks i ++ (match L[i]? with | some d => wantOf (isPack ks i) d | none => [])
theorem allTo_succ (L : List Dig) (ks : List Bool) (i : Nat) (h : i < L.length) : allTo L ks (i + 1) = allTo L ks i ++ allOf (isPack ks i) L[i] := by rw [allTo, List.getElem?_eq_getElem h]
theorem wantTo_succ (L : List Dig) (ks : List Bool) (i : Nat) (h : i < L.length) : wantTo L ks (i + 1) = wantTo L ks i ++ wantOf (isPack ks i) L[i] := by rw [wantTo, List.getElem?_eq_getElem h]
theorem allTo_len (L : List Dig) (ks : List Bool) (i : Nat) : (allTo L ks i).length ≤ 2 * i ∧ (wantTo L ks i).length ≤ i := by
  induction i with
  | zero => simp [allTo, wantTo]
  | succ i ih =>
    simp only [allTo, wantTo, List.length_append]
    cases L[i]? with
    | none => simp; omega
    | some d => cases isPack ks i <;> simp [allOf, wantOf] <;> omega
theorem pickOne_file (k c : UInt8) (d : Dig) (hc : kindOk c = true) : pickOne k ⟨(fileText c d).toArray⟩ = if c = k then [d] else [] := by
  unfold pickOne
  have : nameOf (⟨(fileText c d).toArray⟩ : ByteArray).data.toList = some (c, d) := by
    show nameOf (c :: 46 :: hexText d.bytes) = _
    rw [nameOf_two, if_pos ⟨rfl, hc⟩, unhex_hex]; rfl
  rw [this]
theorem pickOne_ox (k : UInt8) : pickOne k oxText = [] := rfl
theorem picks_allOf (k : UInt8) (p : Bool) (d : Dig) : picks k (allOf p d) = if k = 111 then wantOf p d else if k = 112 then (if p then [d] else []) else [] := by
  by_cases h1 : k = 111
  · subst h1
    cases p <;> simp [picks, allOf, wantOf, packOf, objOf, pickOne_file _ _ _ (show kindOk 111 = true from rfl), pickOne_file _ _ _ (show kindOk 112 = true from rfl), pickOne_ox]
  · by_cases h2 : k = 112
    · subst h2
      cases p <;> simp [picks, allOf, packOf, objOf, pickOne_file _ _ _ (show kindOk 111 = true from rfl), pickOne_file _ _ _ (show kindOk 112 = true from rfl), pickOne_ox]
    · have e1 : ¬ 111 = k := fun h => h1 h.symm
      have e2 : ¬ 112 = k := fun h => h2 h.symm
      cases p <;> simp [picks, allOf, packOf, objOf, pickOne_file _ _ _ (show kindOk 111 = true from rfl), pickOne_file _ _ _ (show kindOk 112 = true from rfl), pickOne_ox, h1, h2, e1, e2]
theorem picks_append (k : UInt8) (A B : List ByteArray) : picks k (A ++ B) = picks k A ++ picks k B := by simp [picks]
theorem picks_want (L : List Dig) (ks : List Bool) (i : Nat) : picks 111 (allTo L ks i) = wantTo L ks i := by
  induction i with
  | zero => rfl
  | succ i ih =>
    rw [allTo, wantTo, picks_append, ih]
    cases L[i]? with
    | none => rfl
    | some d => rw [picks_allOf, if_pos rfl]
theorem picks_x (L : List Dig) (ks : List Bool) (i : Nat) : picks 120 (allTo L ks i) = [] := by
  induction i with
  | zero => rfl
  | succ i ih =>
    rw [allTo, picks_append, ih]
    cases L[i]? with
    | none => rfl
    | some d => rw [picks_allOf]; rfl
theorem picks_p (L : List Dig) (ks : List Bool) (i : Nat) (hi : i ≤ L.length) : (picks 112 (allTo L ks i)).length + (wantTo L ks i).length = i := by
  induction i with
  | zero => rfl
  | succ i ih =>
    rw [allTo_succ L ks i (by omega), wantTo_succ L ks i (by omega), picks_append, List.length_append, List.length_append, picks_allOf, if_neg (by decide), if_pos rfl]
    have := ih (by omega)
    cases isPack ks i <;> simp [wantOf] <;> omega
theorem allTo_size (L : List Dig) (ks : List Bool) (i : Nat) : ∀ s ∈ allTo L ks i, s.size ≤ maxLen := by
  induction i with
  | zero => simp [allTo]
  | succ i ih =>
    intro s hs
    rw [allTo, List.mem_append] at hs
    rcases hs with hs | hs
    · exact ih s hs
    · cases hq : L[i]? with
      | none => rw [hq] at hs; cases hs
      | some d =>
        rw [hq] at hs
        have h1 : (objOf d).size = 66 := by rw [objOf, len_str, fileText_length]
        have h2 : (packOf d).size = 66 := by rw [packOf, len_str, fileText_length]
        have h3 : oxText.size = 3 := rfl
        cases hp : isPack ks i <;> simp [hp, allOf] at hs
        · rcases hs with rfl | rfl <;> unfold maxLen <;> omega
        · subst hs; unfold maxLen; omega
theorem owned_apart {w : World} {base base' size size' n n' : Nat} {e e' : TypeId} {v v' : Value} {xs xs' : List Value} (h : w.ownsRow base e size v n xs) (h' : w.ownsRow base' e' size' v' n' xs') (he : e ≠ e') : v.ownBlock = none ∨ v.ownBlock ≠ v'.ownBlock := by
  obtain ⟨_, ⟨rfl, _⟩ | ⟨g, cap, cur, rfl, _, hg, _⟩⟩ := h
  · exact .inl rfl
  · right
    obtain ⟨_, ⟨rfl, _⟩ | ⟨g', cap', cur', rfl, _, hg', _⟩⟩ := h'
    · simp [Value.ownBlock]
    · intro hh
      simp only [Value.ownBlock, Option.some.injEq] at hh
      subst hh
      rw [hg] at hg'
      cases hg'
      exact he rfl
theorem reads_fresh (w : World) (cs : List Value) (T : TypeId) (size m : Nat) (hl : cs.length = m * size) (h1 : ∀ u ∈ cs, u.oneCell' = true) (hm : m ≤ maxLen) : Reads (w.alloc (.cells cs.toArray T)) size (.slice (some ⟨w.heap.size, 0, none⟩) m m) m cs := by
  refine ⟨hl, h1, hm, .inr ⟨_, 0, m, rfl, Nat.le_refl _, hm, fun j u hj => ?_⟩⟩
  rw [cell_of_row _ _ _ _ _ _ (heap_alloc_new w _), Nat.zero_add]
  simpa using hj

theorem info_str_parts : (Try.prog.info? 9).map (fun i => (i.zero, i.size, i.bytes)) = some (some (.string ByteArray.empty), 1, 16) := by kernel_rfl
theorem pack_is (d : Dig) (w : World) : Calls Try.prog 20 #[.agg (dgst d)] w fun e w' => e = .returned (.string (packOf d)) ∧ Below w.heap.size w w' := pack_any d w
theorem object_is (d : Dig) (w : World) : Calls Try.prog 19 #[.agg (dgst d)] w fun e w' => e = .returned (.string (objOf d)) ∧ Below w.heap.size w w' := object_any d w

set_option maxHeartbeats 1600000 in
set_option maxRecDepth 100000 in
theorem walk (v0 : Value) (L : List Dig) (v1 : Value) (ks : List Bool) (w : World) (h0 : Reads w 32 v0 L.length (dcells L)) (h1 : Reads w 1 v1 ks.length (ks.map Value.bool)) :
    Calls Try.prog 14 #[v0, v1] w fun e w' => e = .returned (.bool true) ∧ Below w.heap.size w w' := by
  obtain ⟨a0, c0, rfl⟩ := h0.shape
  obtain ⟨a1, c1, rfl⟩ := h1.shape
  obtain ⟨i0, hi, hz0, hz1, hz2⟩ := info_parts info_dgst_parts
  have HI := hide hi
  have Hz0 := hide hz0
  have Hz1 := hide hz1
  have Hz2 := hide hz2
  clear hi hz0 hz1 hz2
  obtain ⟨s0, hi, hz0, hz1, hz2⟩ := info_parts info_str_parts
  have SI := hide hi
  have Sz0 := hide hz0
  have Sz1 := hide hz1
  have Sz2 := hide hz2
  clear hi hz0 hz1 hz2
  have HL := hide h0
  have HK := hide h1
  have hm0 := h0.2.2.1
  have hm1 := h1.2.2.1
  unfold maxLen at hm0 hm1
  clear h0 h1
  by_cases h40 : 40 < L.length
  · go_enter Try.func14, Try.ntmps14
    go_wp2_with (go_at_call 16; refine (awake07_any _).mono ?_; rintro e w' ⟨rfl, hb⟩)
    go_ret
    exact ⟨rfl, hb⟩
  go_enter Try.func14, Try.ntmps14
  go_wp2_with fail
  refine (awake07_any _).mono ?_
  rintro e1 w1 ⟨rfl, hb1⟩
  go_upto_block 0 with fail
  go_cut [5, 6] (fun s5 s6 wx => ∃ (a : Option Addr) (c : Nat) (a' : Option Addr) (c' : Nat), s5 = .slice a (allTo L ks L.length).length c ∧ s6 = .slice a' (wantTo L ks L.length).length c' ∧ wx.ownsRow w.heap.size 9 1 (.slice a (allTo L ks L.length).length c) (allTo L ks L.length).length (strs (allTo L ks L.length)) ∧ wx.ownsRow w.heap.size 25 32 (.slice a' (wantTo L ks L.length).length c') (wantTo L ks L.length).length (dcells (wantTo L ks L.length)) ∧ Below w.heap.size w wx)
  case first =>
    go_wp2_with fail
    go_loopw [18, 5, 6, 7, 8] (fun i s5 s6 _ _ wr => ∃ (j : Nat) (a : Option Addr) (c : Nat) (a' : Option Addr) (c' : Nat), j ≤ L.length ∧ i = .int .i64 j ∧ s5 = .slice a (allTo L ks j).length c ∧ s6 = .slice a' (wantTo L ks j).length c' ∧ wr.ownsRow w.heap.size 9 1 (.slice a (allTo L ks j).length c) (allTo L ks j).length (strs (allTo L ks j)) ∧ wr.ownsRow w.heap.size 25 32 (.slice a' (wantTo L ks j).length c') (wantTo L ks j).length (dcells (wantTo L ks j)) ∧ Below w.heap.size w wr) (fun i _ _ _ _ _ => L.length - (intOf i).toNat)
    case atStart => exact ⟨0, none, 0, none, 0, by omega, rfl, rfl, rfl, World.ownsRow_nil _ _ _ _, World.ownsRow_nil _ _ _ _, hb1⟩
    case round =>
      obtain ⟨j, a, c, a', c', hj, rfl, rfl, rfl, hown, hown', hb⟩ := hrel
      have HA := hide hown
      have HW := hide hown'
      have HB := hide hb
      clear hown hown' hb hb1
      by_cases hlt : j < L.length
      · rcases HL.out.form with ⟨_, hn0⟩ | ⟨b, o, c2, hform⟩
        · omega
        cases hform
        have hspan : wr.spanAt b (o + j * 32) 32 = some (dgst L[j]) := by
          have hc : ∀ (r : Nat) (u : Value), (dgst L[j])[r]? = some u → w.cell? ⟨b, o + j * 32 + r, none⟩ = some u := fun r u hr => by
            have hr32 : r < 32 := by have := (Array.getElem?_eq_some_iff.1 hr).1; simpa using this
            obtain ⟨_, _, _, ⟨h, _⟩ | ⟨b', o', c', h, _, _, h4⟩⟩ := HL.out
            · cases h
            · cases h
              rw [Nat.add_assoc]
              exact h4 _ _ (by rw [dcells_get L j r hlt hr32]; exact hr)
          have := spanAt_cells (cs := dgst L[j]) (by simp) hc
          rw [dgst_size] at this
          rw [span_below HB.out]
          · exact this
          · have h := hc 0 _ (Array.getElem?_eq_getElem (by simp))
            exact block_lt_of_cell h
        go_upto_region 10 with fail
        have hW := HB.out.size
        have HA9 := hide (owned_setRow (HA.out.alloc (.cells (dgst dig0) 25)) (g := wr.heap.size) (fun h => by have := (World.ownsRow.lt HA.out _ h).2; omega) (dgst L[j]))
        have HW9 := hide (owned_setRow (HW.out.alloc (.cells (dgst dig0) 25)) (g := wr.heap.size) (fun h => by have := (World.ownsRow.lt HW.out _ h).2; omega) (dgst L[j]))
        have HB9 := hide (below_setRow (HB.out.alloc hW (.cells (dgst dig0) 25)) (g := wr.heap.size) hW (dgst L[j]))
        have hr9 : ((wr.alloc (.cells (dgst dig0) 25)).setRow wr.heap.size (dgst L[j])).rowCells wr.heap.size = dgst L[j] := rowCells_setRow_same (n := 32) _ (by simp [go_sem])
        have hz9 : wr.heap.size < ((wr.alloc (.cells (dgst dig0) 25)).setRow wr.heap.size (dgst L[j])).heap.size := by simp [go_sem]
        have hnG : ∀ k, (Value.slice a (allTo L ks j).length c).ownBlock = some k → k < wr.heap.size := fun k h => (World.ownsRow.lt HA.out k h).2
        generalize hG : wr.heap.size = G at *
        generalize (wr.alloc (.cells (dgst dig0) 25)).setRow G (dgst L[j]) = w9 at *
        clear HA HW HB hspan hG
        have hcase : ((ks.length : Int) ≤ (j : Int) ∧ isPack ks j = false) ∨ ((j : Int) < (ks.length : Int) ∧ ∃ b1 o1, a1 = some ⟨b1, o1, none⟩ ∧ w.cell? ⟨b1, o1 + j, none⟩ = some (.bool (isPack ks j))) := by
          by_cases hk : j < ks.length
          · right
            refine ⟨by omega, ?_⟩
            rcases HK.out.form with ⟨_, hn0⟩ | ⟨b1, o1, c2, hform⟩
            · omega
            cases hform
            refine ⟨b1, o1, rfl, ?_⟩
            have := HK.out.cellAt j (.bool ks[j]) (by simp [hk])
            rw [this, isPack, List.getD_eq_getElem?_getD, List.getElem?_eq_getElem hk]; rfl
          · left
            exact ⟨by omega, by rw [isPack, List.getD_eq_getElem?_getD, List.getElem?_eq_none (by omega)]; rfl⟩
        have HSA := hide (allTo_succ L ks j hlt)
        have HSW := hide (wantTo_succ L ks j hlt)
        have hln := allTo_len L ks j
        cases hp : isPack ks j
        · rw [hp] at hcase HSA HSW
          have hcase2 : ((ks.length : Int) ≤ (j : Int)) ∨ ((j : Int) < (ks.length : Int) ∧ ∃ b1 o1, a1 = some ⟨b1, o1, none⟩ ∧ w9.cell? ⟨b1, o1 + j, none⟩ = some (.bool false)) := by
            rcases hcase with h | ⟨h, b1, o1, e, hc⟩
            · exact .inl h.1
            · exact .inr ⟨h, b1, o1, e, by rw [HB9.out.cell (p := ⟨b1, o1 + j, none⟩) (block_lt_of_cell hc)]; exact hc⟩
          clear hcase
          rcases hcase2 with hk | ⟨hk, b1, o1, rfl, hkc⟩
          all_goals
            go_wp2_with fail
            refine (object_is L[j] w9).mono ?_
            rintro e2 w10 ⟨rfl, hb10⟩
            have hz10 := hb10.size
            have hW9 := HB9.out.size
            have hr10 := rowAt_below hb10 hz9 hr9
            have HA10 := hide ((owned_below HA9.out hb10).alloc (.cells #[.string (objOf L[j]), .string oxText] 9))
            have HW10 := hide ((owned_below HW9.out hb10).alloc (.cells #[.string (objOf L[j]), .string oxText] 9))
            have HB10 := hide ((HB9.out.trans (hb10.mono hW9)).alloc (Nat.le_trans hW9 hz10) (.cells #[.string (objOf L[j]), .string oxText] 9))
            have HR10 := hide (reads_fresh w10 [.string (objOf L[j]), .string oxText] 9 1 2 rfl (by simp [Value.oneCell']) (by unfold maxLen; omega))
            have hr10' : (w10.alloc (.cells #[.string (objOf L[j]), .string oxText] 9)).rowCells G = dgst L[j] := by rw [rowCells_old _ _ _ (by omega)]; exact hr10
            have HG10 := hide hr10'
            have hg10 : G < (w10.alloc (.cells #[.string (objOf L[j]), .string oxText] 9)).heap.size := by simp; omega
            have C1 := hide (show (allTo L ks j).length + 2 ≤ maxLen by unfold maxLen; omega)
            have C2 := hide (show ((allTo L ks j).length + 2) * 16 ≤ 140737488355328 by omega)
            clear HA9 HW9 HB9 hr9 hr10' hr10
            have hkeep : ∀ w11, (w10.alloc (.cells #[.string (objOf L[j]), .string oxText] 9)).grownBy w11 (Value.slice a (allTo L ks j).length c).ownBlock → w11.rowCells G = dgst L[j] ∧ w11.ownsRow w.heap.size 25 32 (.slice a' (wantTo L ks j).length c') (wantTo L ks j).length (dcells (wantTo L ks j)) ∧ Below w.heap.size w w11 := by
              intro w11 hg
              refine ⟨?_, HW10.out.kept hg (owned_apart HW10.out HA10.out (by decide)), HB10.out.grown hg HB10.out.size (owned_ge HA10.out)⟩
              have hh := hg.block G hg10 (fun h => Nat.lt_irrefl G (hnG G h.symm))
              have h2 : w11.rowCells G = (w10.alloc (.cells #[.string (objOf L[j]), .string oxText] 9)).rowCells G := by simp only [World.rowCells, hh]
              exact h2.trans HG10.out
            have D1 := hide (show (wantTo L ks j).length + 1 ≤ maxLen by unfold maxLen; omega)
            have D2 := hide (show ((wantTo L ks j).length + 1) * 32 ≤ 140737488355328 by omega)
            have HKP := hide hkeep
            clear hkeep
            go_wp2_with (first
              | (at_builtin; refine wpList_append_reads rfl _ _ 75 rfl w.heap.size 9 s0 (.string ByteArray.empty) 1 16 Try.underlying75 SI.out Sz0.out Sz1.out Sz2.out rfl (by decide) _ (allTo L ks j).length (strs (allTo L ks j)) rfl HA10.out _ 2 [.string (objOf L[j]), .string oxText] rfl HR10.out C1.out C2.out HB10.out.size ?_; intro a2 c2' w11 hown11 hg; obtain ⟨hr11, hW11, hB11⟩ := HKP.out w11 hg; clear hg)
              | (at_builtin; refine wpList_append_reads rfl _ _ 76 rfl w.heap.size 25 i0 (.agg (dgst dig0)) 32 32 Try.underlying76 HI.out Hz0.out Hz1.out Hz2.out (dgst_size _) (by decide) _ (wantTo L ks j).length (dcells (wantTo L ks j)) rfl (World.ownsRow.alloc hW11 _) _ 1 (dcells [L[j]]) rfl (reads_dgst (rowCells_new _ _ _ _)) D1.out D2.out (Nat.le_trans hB11.size (Nat.le_of_lt (by simp))) ?_; intro a3 c3 w12 hown12 hg))
            go_roundw
            case rel =>
              have hl : (allTo L ks (j + 1)).length = (allTo L ks j).length + 2 := by rw [HSA.out, List.length_append]; rfl
              have hl2 : (wantTo L ks (j + 1)).length = (wantTo L ks j).length + 1 := by rw [HSW.out, List.length_append]; rfl
              have hA11 : (w11.alloc (.cells (dgst L[j]) 25)).ownsRow w.heap.size 9 1 (.slice a2 ((allTo L ks j).length + 2) c2') ((allTo L ks j).length + 2) (strs (allTo L ks j) ++ [.string (objOf L[j]), .string oxText]) := hown11.alloc _
              have hW12 := hW11.alloc (.cells (dgst L[j]) 25)
              have hB12 := hB11.alloc hB11.size (.cells (dgst L[j]) 25)
              refine ⟨j + 1, a2, c2', a3, c3, by omega, by go_num, by rw [hl], by rw [hl2], ?_, ?_, hB12.grown hg hB12.size (owned_ge hW12)⟩
              · rw [hl, HSA.out]
                have := hA11.kept hg (owned_apart hA11 hW12 (by decide))
                simpa [strs, allOf] using this
              · rw [hl2, HSW.out, dcells_append]
                exact hown12
            case measure => simp [intOf]; omega
        · rw [hp] at hcase HSA HSW
          rcases hcase with ⟨_, h⟩ | ⟨hk, b1, o1, rfl, hc⟩
          · cases h
          have hkc : w9.cell? ⟨b1, o1 + j, none⟩ = some (.bool true) := by rw [HB9.out.cell (p := ⟨b1, o1 + j, none⟩) (block_lt_of_cell hc)]; exact hc
          clear hc
          go_wp2_with fail
          refine (pack_is L[j] w9).mono ?_
          rintro e2 w10 ⟨rfl, hb10⟩
          have hz10 := hb10.size
          have hW9 := HB9.out.size
          have HA10 := hide ((owned_below HA9.out hb10).alloc (.cells #[.string (packOf L[j])] 9))
          have HW10 := hide ((owned_below HW9.out hb10).alloc (.cells #[.string (packOf L[j])] 9))
          have HB10 := hide ((HB9.out.trans (hb10.mono hW9)).alloc (Nat.le_trans hW9 hz10) (.cells #[.string (packOf L[j])] 9))
          have HR10 := hide (reads_fresh w10 [.string (packOf L[j])] 9 1 1 rfl (by simp [Value.oneCell']) (by unfold maxLen; omega))
          have C1 := hide (show (allTo L ks j).length + 1 ≤ maxLen by unfold maxLen; omega)
          have C2 := hide (show ((allTo L ks j).length + 1) * 16 ≤ 140737488355328 by omega)
          clear HA9 HW9 HB9 hr9 hkc
          go_wp2_with (at_builtin; refine wpList_append_reads rfl _ _ 75 rfl w.heap.size 9 s0 (.string ByteArray.empty) 1 16 Try.underlying75 SI.out Sz0.out Sz1.out Sz2.out rfl (by decide) _ (allTo L ks j).length (strs (allTo L ks j)) rfl HA10.out _ 1 [.string (packOf L[j])] rfl HR10.out C1.out C2.out HB10.out.size ?_; intro a2 c2' w11 hown11 hg)
          go_roundw
          case rel =>
            have hl : (allTo L ks (j + 1)).length = (allTo L ks j).length + 1 := by rw [HSA.out, List.length_append]; rfl
            have hl2 : wantTo L ks (j + 1) = wantTo L ks j := by rw [HSW.out]; simp [wantOf]
            refine ⟨j + 1, a2, c2', a', c', by omega, by go_num, by rw [hl], by rw [hl2], ?_, by rw [hl2]; exact HW10.out.kept hg (owned_apart HW10.out HA10.out (by decide)), HB10.out.grown hg HB10.out.size (owned_ge HA10.out)⟩
            rw [hl, HSA.out]
            simpa [strs, allOf] using hown11
          case measure => simp [intOf]; omega
      · go_wp2_with fail
        go_meet
        obtain rfl : j = L.length := by omega
        exact ⟨a, c, a', c', rfl, rfl, HA.out, HW.out, HB.out⟩
  case rest =>
    obtain ⟨a, c, a', c', rfl, rfl, hown, hown', hb⟩ := hcut
    have hln := allTo_len L ks L.length
    have hpw := picks_want L ks L.length
    have hpx := picks_x L ks L.length
    have hpp := picks_p L ks L.length (Nat.le_refl _)
    have hsz := allTo_size L ks L.length
    generalize allTo L ks L.length = A at *
    generalize wantTo L ks L.length = B at *
    have hstr : ∀ u ∈ strs A, u.oneCell' = true := by
      intro u hu
      simp only [strs, List.mem_map] at hu
      obtain ⟨x, _, rfl⟩ := hu
      rfl
    have RA := hide (Reads.owned hown hstr (by unfold maxLen; omega))
    have RB := hide (Reads.owned hown' (dcells_cell _) (by unfold maxLen; omega))
    have HB := hide hb
    clear hown hown' hb hstr
    go_wp2_with fail
    refine (pick_any 111 _ A _ RA.out hsz (by omega)).mono ?_
    rintro e2 w2 ⟨⟨ag, cg, rfl, howng⟩, hb2⟩
    rw [hpw] at howng ⊢
    have RG := hide (Reads.owned howng (dcells_cell _) (by unfold maxLen; omega))
    have RA2 := hide (RA.out.below hb2)
    have RB2 := hide (RB.out.below hb2)
    have HB2 := hide (HB.out.trans (hb2.mono HB.out.size))
    clear RA RB HB hb2 howng
    go_wp2_with fail
    go_loopw [52, 10] (fun i _ wr => ∃ k m : Nat, k ≤ B.length ∧ i = .int .i64 k ∧ wr = w2.drewN m) (fun i _ _ => B.length - (intOf i).toNat)
    case atStart => exact ⟨0, 0, by omega, rfl, rfl⟩
    case round =>
      obtain ⟨k, m, hk, rfl, rfl⟩ := hrel
      by_cases hlt : k < B.length
      · rcases RG.out.form with ⟨_, hn0⟩ | ⟨bg, og, c2, hform⟩
        · omega
        cases hform
        rcases RB2.out.form with ⟨_, hn0⟩ | ⟨bb, ob, c2, hform⟩
        · omega
        cases hform
        have sg := reads_span RG.out k hlt
        have sb := reads_span RB2.out k hlt
        have hq : ∀ w, (Op.equalIn 10000 25 (.agg (dgst B[k])) (.agg (dgst B[k]))).run Try.prog w = .ok true w := fun w => by
          rw [run_equalIn_dgst _ _ w, beq_self_eq_true]
        go_wp2_with fail
        go_quiet (fail)
        go_wp2_with fail
        go_roundw
        case rel => exact ⟨k + 1, m + nq, by omega, by go_num, rfl⟩
        case measure => simp [intOf]; omega
      · go_wp2_with fail
        have RA3 := hide (RA2.out.below (below_drewN (Below.refl _ w2) m))
        have HB3 := hide (HB2.out.trans ((below_drewN (Below.refl _ w2) m).mono HB2.out.size))
        refine (pick_any 120 _ A _ RA3.out hsz (by omega)).mono ?_
        rintro e3 w3 ⟨⟨a3, c3, rfl, _⟩, hb3⟩
        rw [hpx]
        have RA4 := hide (RA3.out.below hb3)
        have HB4 := hide (HB3.out.trans (hb3.mono HB3.out.size))
        clear RA3 HB3 hb3
        go_wp2_with fail
        refine (pick_any 112 _ A _ RA4.out hsz (by omega)).mono ?_
        rintro e4 w4 ⟨⟨a4, c4, rfl, _⟩, hb4⟩
        have hwr : IntKind.i64.wrap ((L.length : Int) - (B.length : Int)) = ((picks 112 A).length : Int) := by rw [IntKind.wrap_i64]; omega
        go_wp2_with fail
        go_ret
        exact ⟨rfl, HB4.out.trans (hb4.mono HB4.out.size)⟩
end Go.Proofs.Ytkkfnpbbigcpbaa.namePicks
