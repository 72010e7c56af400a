/- slices.Insert at rows of refs: in the middle. -/
import Derived.Test.YtjmbnfcjambdkaaRefsIns
namespace Go.Proofs.Ytjmbnfcjambdkaa
open Go.RowKit
theorem step_copy_known {P : Program} {ops : Array Oper} {o : Oper} {a : Act} {w : World} {K : Act → World → Prop} {Q : Exit → Act → World → Prop} {E : Prop} (hg : o.guard = none) (d s : Operand) (t t' : TypeId)
    (ho : o.op = .call { callee := .builtin .copy, args := #[d, s], argTypes := #[t, t'] }) (v u : Value) (hd : a.eval d = v) (hs : a.eval s = u) {v' : Value} {w' : World}
    (hr : (Builtin.copy_ #[t, t'] o.type #[v, u]).run P w = .ok v' w') (h : K (a.put o.dst v') w') : if Region.wanted o (yielded ops a.tmps) = true then Oper.wp P o a w K Q else E := by
  have hw : Region.wanted o (yielded ops a.tmps) = true := by simp [Region.wanted, hg]
  rw [if_pos hw]
  exact wp_copy_known w d s t t' ho v u hd hs hr h
theorem wpList_copy_known {P : Program} {w : World} {ops : Array Oper} {rest : List Oper} {o : Oper} {a : Act} {Q : Exit → Act → World → Prop} (hgd : o.guard = none) (d s : Operand) (t t' : TypeId)
    (ho : o.op = .call { callee := .builtin .copy, args := #[d, s], argTypes := #[t, t'] }) (v u : Value) (hd : a.eval d = v) (hs : a.eval s = u) {v' : Value} {w' : World}
    (hr : (Builtin.copy_ #[t, t'] o.type #[v, u]).run P w = .ok v' w') (h : wpList P ops Q rest (a.put o.dst v') w') : wpList P ops Q (o :: rest) a w :=
  wpList_plain hgd fun _ hK => wp_copy_known w d s t t' ho v u hd hs hr (hK _ _ h)
/-- A row with one more in its place, by two copies: the new one first. -/
theorem two_copies (olds Z x y : List Value) (h : x.length + y.length ≤ Z.length) :
    let A1 := (olds ++ Z).take olds.length ++ x ++ (olds ++ Z).drop (olds.length + x.length)
    let A2 := A1.take (olds.length + x.length) ++ y ++ A1.drop (olds.length + x.length + y.length)
    A2.take (olds.length + x.length + y.length) = olds ++ x ++ y ∧ A2.length = olds.length + Z.length := by
  intro A1 A2
  have e1 : A1 = olds ++ x ++ Z.drop x.length := by
    show (olds ++ Z).take olds.length ++ x ++ (olds ++ Z).drop (olds.length + x.length) = _
    rw [List.take_left, List.drop_append, List.drop_of_length_le (by omega), Nat.add_sub_cancel_left, List.nil_append]
  have e2 : A1.take (olds.length + x.length) = olds ++ x := by
    rw [e1, ← List.length_append, List.take_left]
  have hA : A2 = olds ++ x ++ y ++ A1.drop (olds.length + x.length + y.length) := by
    show A1.take (olds.length + x.length) ++ y ++ A1.drop (olds.length + x.length + y.length) = _
    rw [e2]
  constructor
  · rw [hA, show olds.length + x.length + y.length = (olds ++ x ++ y).length by simp [Nat.add_assoc], List.take_left]
  · rw [hA, List.length_append, List.length_drop, e1]
    simp only [List.length_append, List.length_drop]
    omega
/-- The same, what stood there first. -/
theorem two_copies' (C x y : List Value) (a : Nat) (hx : a + x.length + y.length ≤ C.length) :
    let A1 := C.take (a + x.length) ++ y ++ C.drop (a + x.length + y.length)
    let A2 := A1.take a ++ x ++ A1.drop (a + x.length)
    A2.take (a + x.length + y.length) = C.take a ++ x ++ y ∧ A2.length = C.length := by
  intro A1 A2
  have hlt : (C.take (a + x.length)).length = a + x.length := by rw [List.length_take]; omega
  have e1 : A1.take a = C.take a := by
    show (C.take (a + x.length) ++ y ++ C.drop (a + x.length + y.length)).take a = _
    rw [List.append_assoc, List.take_append_of_le_length (by omega), List.take_take, Nat.min_eq_left (by omega)]
  have e2 : A1.drop (a + x.length) = y ++ C.drop (a + x.length + y.length) := by
    show (C.take (a + x.length) ++ y ++ C.drop (a + x.length + y.length)).drop (a + x.length) = _
    rw [List.append_assoc, List.drop_append, List.drop_of_length_le (by omega), hlt, Nat.sub_self, List.drop_zero, List.nil_append]
  have hA : A2 = C.take a ++ x ++ y ++ C.drop (a + x.length + y.length) := by
    show A1.take a ++ x ++ A1.drop (a + x.length) = _
    rw [e1, e2, ← List.append_assoc]
  have hl3 : (C.take a ++ x ++ y).length = a + x.length + y.length := by simp; omega
  constructor
  · rw [hA, List.take_append_of_le_length (by omega), List.take_of_length_le (by omega)]
  · rw [hA, List.length_append, hl3, List.length_drop]; omega
set_option maxRecDepth 20000 in
set_option maxHeartbeats 4000000 in
theorem insert_grow (B g c : Nat) (cur : Array Value) (L : List RefT) (r : RefT) (i gv : Nat) (w : World) (hcur : w.heap[g]? = some (.cells cur 75 (0, 0))) (hnc : L.length ≤ c) (hread : cur.toList.take (L.length * 33) = refCells L) (hcs : cur.size = c * 33)
    (hv : w.heap[gv]? = some (.cells (refA r) 75 (0, 0))) (hi : i < L.length) (hc : c < L.length + 1) (hl : L.length ≤ 100) (hB : B ≤ w.heap.size) :
    Calls Try.prog 90 #[.slice (some ⟨g, 0, none⟩) L.length c, .int .i64 (i : Int), .slice (some ⟨gv, 0, none⟩) 1 1] w fun e w' => (∃ a c, e = .returned (.slice a (L.length + 1) c) ∧ w'.ownsRow B 75 33 (.slice a (L.length + 1) c) (L.length + 1) (refCells (L.take i ++ [r] ++ L.drop i))) ∧ Below B w w' := by
  obtain ⟨i0, hi0, hz0, hz1, hz2⟩ := info_parts info_refApp
  obtain rfl : c = L.length := by omega
  have hcell : ∀ (j : Nat) (u : Value), (refCells L)[j]? = some u → w.cell? ⟨g, j, none⟩ = some u := fun j u hj => by
    rw [cell_of_row w g j _ _ _ hcur]
    rw [← hread, List.getElem?_take] at hj
    split at hj
    · simpa using hj
    · cases hj
  have hcv : ∀ (j : Nat) (u : Value), (refL r)[j]? = some u → w.cell? ⟨gv, j, none⟩ = some u := fun j u hj => by
    rw [cell_of_row w gv j _ _ _ hv]; simpa [refA] using hj
  have hgl := lt_of_heap hcur
  have hgvl := lt_of_heap hv
  obtain ⟨n, hn⟩ : ∃ n, L.length = n := ⟨_, rfl⟩
  obtain ⟨k, hk⟩ : ∃ k, n + 1 - i = k := ⟨_, rfl⟩
  have hold : ∀ (j : Nat) (u : Value), (refCells (L.take i))[j]? = some u → w.cell? ⟨g, j, none⟩ = some u := fun j u hj => hcell j u (by
    rw [← refCells_take, List.getElem?_take] at hj
    split at hj
    · exact hj
    · cases hj)
  have hdrop : ∀ (j : Nat) (u : Value), (refCells (L.drop i))[j]? = some u → w.cell? ⟨g, i * 33 + j, none⟩ = some u := fun j u hj => hcell _ u (by rw [← refCells_drop, List.getElem?_drop] at hj; exact hj)
  have holdl : (refCells (L.take i)).length = i * 33 := by rw [refCells_length, List.length_take]; congr 1; omega
  have hdropl : (refCells (L.drop i)).length = (n - i) * 33 := by rw [refCells_length, List.length_drop, hn]
  obtain ⟨cap2, hcap2⟩ : ∃ cap2, grownCap w (i + k) n 75 = cap2 := ⟨_, rfl⟩
  have hge := grownCap_ge w (i + k) n 75
  have hgm := grownCap_le_maxLen w (i + k) n 75 (by unfold maxLen; omega)
  rw [hcap2] at hge hgm
  have happ : ∀ ty : TypeId, (Builtin.append_ #[70, 3] ty #[.slice (some ⟨g, 0, none⟩) i n, .int .i64 (k : Int)]).run Try.prog w = .ok (.slice (some ⟨w.heap.size, 0, none⟩) (i + k) cap2)
      (w.drew.alloc (.cells ((refCells (L.take i)).toArray ++ Builtin.zeroCells (Value.agg (refA ([], dig0))).cells k ++ Builtin.zeroCells (Value.agg (refA ([], dig0))).cells (cap2 - (i + k))) 75)) := fun ty => by
    rw [← hcap2]
    refine Lib.run_append_grow_zeros (P := Try.prog) w 70 3 ty 75 i0 (.agg (refA ([], dig0))) .i64 .i64 Try.underlying70 Try.underlying3 hi0 hz0 (some ⟨g, 0, none⟩) i n (refCells (L.take i)) ?_ k (by omega) (by rw [hz1]; decide) (by omega) (by omega) (by rw [hz2]; omega) ?_
    · rw [hz1]
      exact run_firstCells_some (P := Try.prog) w.drew 33 i ⟨g, 0, none⟩ i n (refCells (L.take i)) holdl (fun j u hj => by rw [Addr.add_lit, Nat.zero_add]; exact hold j u hj)
    · rw [hz2]
      have : Builtin.nextslicecap (i + k) n ≤ 2 * n + (i + k) := by unfold Builtin.nextslicecap; split; omega; rw [if_pos (by omega)]; omega
      omega
  have hzl : ∀ m, (Builtin.zeroCells (Value.agg (refA ([], dig0))).cells m).toList.length = m * 33 := fun m => by simp [Builtin.zeroCells, zero_cells]
  obtain ⟨Zs, hZs⟩ : ∃ Zs : List Value, (Builtin.zeroCells (Value.agg (refA ([], dig0))).cells k).toList ++ (Builtin.zeroCells (Value.agg (refA ([], dig0))).cells (cap2 - (i + k))).toList = Zs := ⟨_, rfl⟩
  have hZl : Zs.length = (cap2 - i) * 33 := by rw [← hZs, List.length_append, hzl, hzl, ← Nat.add_mul]; congr 1; omega
  have harr : ((refCells (L.take i)).toArray ++ Builtin.zeroCells (Value.agg (refA ([], dig0))).cells k ++ Builtin.zeroCells (Value.agg (refA ([], dig0))).cells (cap2 - (i + k))) = (refCells (L.take i) ++ Zs).toArray := by
    rw [← hZs]; apply Array.toList_inj.1; simp
  rw [harr] at happ
  clear harr hZs hzl
  obtain ⟨W, hW⟩ : ∃ W, w.drew.alloc (.cells (refCells (L.take i) ++ Zs).toArray 75) = W := ⟨_, rfl⟩
  have hWn : W.heap[w.heap.size]? = some (.cells (refCells (L.take i) ++ Zs).toArray 75 (0, 0)) := by rw [← hW]; exact heap_alloc_new w.drew _
  have hWB : Below w.heap.size w W := by rw [← hW]; exact ((Below.refl _ w).drew).alloc (Nat.le_refl _) _
  rw [hW] at happ
  rw [show i + k = n + 1 by omega] at happ
  clear hW
  have hgne : gv ≠ w.heap.size := by omega
  have hk33 : 33 ≤ (cap2 - i) * 33 := by omega
  have hcp1 : ∀ ty dc, (Builtin.copy_ #[70, 26] ty #[.slice (some ⟨w.heap.size, i * 33, none⟩) k dc, .slice (some ⟨gv, 0, none⟩) 1 1]).run Try.prog W = .ok (goInt 1) (W.setRow w.heap.size ((refCells (L.take i) ++ Zs).take (refCells (L.take i)).length ++ refL r ++ (refCells (L.take i) ++ Zs).drop ((refCells (L.take i)).length + (refL r).length)).toArray) := fun ty dc => by
    have := run_copy_row (P := Try.prog) W 70 26 ty 75 33 w.heap.size (i * 33) k dc ⟨gv, 0, none⟩ 1 1 1 (refL r) 75 (refCells (L.take i) ++ Zs).toArray Try.underlying70 info_ref (by simp only [Nat.min_def]; split <;> omega) (by rw [refL_length])
      (fun j u hj => by rw [Addr.add_lit, Nat.zero_add, hWB.cell (p := ⟨gv, j, none⟩) hgvl]; exact hcv j u hj) hWn (by rw [List.size_toArray, List.length_append, refL_length, holdl, hZl]; omega) (refL_one r)
    rw [holdl]; simpa using this
  obtain ⟨A1, hA1⟩ : ∃ A1 : List Value, (refCells (L.take i) ++ Zs).take (refCells (L.take i)).length ++ refL r ++ (refCells (L.take i) ++ Zs).drop ((refCells (L.take i)).length + (refL r).length) = A1 := ⟨_, rfl⟩
  have hA1l : A1.length = cap2 * 33 := by
    rw [← hA1]
    simp only [List.length_append, List.length_take, List.length_drop, refL_length, holdl, hZl]
    omega
  rw [hA1] at hcp1
  obtain ⟨W1, hW1⟩ : ∃ W1, W.setRow w.heap.size A1.toArray = W1 := ⟨_, rfl⟩
  have hW1n : W1.heap[w.heap.size]? = some (.cells A1.toArray 75 (0, 0)) := by rw [← hW1]; exact setRow_heap W w.heap.size _ _ _ _ hWn
  have hW1B : Below w.heap.size w W1 := by rw [← hW1]; exact below_setRow hWB (Nat.le_refl _) _
  rw [hW1] at hcp1
  clear hW1
  have hcp2 : ∀ ty dc sc, (Builtin.copy_ #[70, 70] ty #[.slice (some ⟨w.heap.size, (i + 1) * 33, none⟩) (n - i) dc, .slice (some ⟨g, i * 33, none⟩) (n - i) sc]).run Try.prog W1.drew = .ok (goInt ((n - i : Nat) : Int)) (W1.drew.setRow w.heap.size (A1.take ((refCells (L.take i)).length + (refL r).length) ++ refCells (L.drop i) ++ A1.drop ((refCells (L.take i)).length + (refL r).length + (refCells (L.drop i)).length)).toArray) := fun ty dc sc => by
    have := run_copy_row (P := Try.prog) W1.drew 70 70 ty 75 33 w.heap.size ((i + 1) * 33) (n - i) dc ⟨g, i * 33, none⟩ (n - i) sc (n - i) (refCells (L.drop i)) 75 A1.toArray Try.underlying70 info_ref (by simp only [Nat.min_def]; split <;> omega) hdropl
      (fun j u hj => by rw [Addr.add_lit]; show W1.cell? _ = _; rw [hW1B.cell (p := ⟨g, i * 33 + j, none⟩) hgl]; exact hdrop j u hj) hW1n (by rw [List.size_toArray, hdropl, hA1l]; omega) (refCells_one _)
    rw [holdl, refL_length, show i * 33 + 33 = (i + 1) * 33 by omega]; simpa using this
  have hfin := two_copies (refCells (L.take i)) Zs (refL r) (refCells (L.drop i)) (by rw [refL_length, hdropl, hZl]; omega)
  simp only [hA1] at hfin
  obtain ⟨A2, hA2⟩ : ∃ A2 : List Value, A1.take ((refCells (L.take i)).length + (refL r).length) ++ refCells (L.drop i) ++ A1.drop ((refCells (L.take i)).length + (refL r).length + (refCells (L.drop i)).length) = A2 := ⟨_, rfl⟩
  rw [hA2] at hfin hcp2
  obtain ⟨hf1, hf2⟩ := hfin
  rw [holdl, hZl] at hf2
  have HOWN := hide (show A2.take ((n + 1) * 33) = refCells (L.take i ++ [r] ++ L.drop i) by
    rw [refCells_append, refCells_append, refCells_single, ← hf1, holdl, refL_length, hdropl]; congr 1; omega)
  have hA2l : A2.length = cap2 * 33 := by rw [hf2]; omega
  have HB1 := hide hW1B
  have HN1 := hide hW1n
  have hgv1 : ¬ ((n : Int) + 1 ≤ n) := by omega
  have hii : (i : Int) < (n : Int) := by omega
  have hnn : (n : Int) ≤ 100 := by omega
  have hki : (n : Int) + 1 - (i : Int) = (k : Int) := by omega
  have hne1 : ¬ (i : Int) = (n : Int) := by omega
  have wi1 : IntKind.i64.wrap ((i : Int) + 1) = (i : Int) + 1 := IntWalk.i64_in _ (by omega)
  have bi1 : (0 : Int) ≤ (i : Int) + 1 := by omega
  have bi2 : (i : Int) + 1 ≤ (n : Int) + 1 := by omega
  have bi3 : ((i : Int) + 1).toNat = i + 1 := by omega
  have bi4 : ¬ cap2 = i + 1 := by omega
  have bi5 : ¬ n = i := by omega
  have bi6 : i ≤ n := by omega
  rw [hn]
  clear hW1n hW1B hWn hWB hA2 hA1 hf1 hf2 hcap2 hread hcell hcv hold hdrop
  go_enter Try.func90, Try.ntmps90
  go_wp2_with (first
    | (at_builtin; refine Lib.wpList_append_run _ rfl _ _ 70 3 rfl _ _ rfl rfl _ _ (happ _) ?_)
    | (at_builtin; refine wpList_copy_known rfl _ _ 70 26 rfl _ _ rfl rfl (hcp1 _ _) ?_))
  go_region_law (refine step_copy_known rfl _ _ 70 70 rfl _ _ (by simp [Act.eval, Act.put]) (by simp [Act.eval, Act.put]) (hcp2 _ _ _) ?_)
  go_wp2_with fail
  go_ret
  refine ⟨⟨some ⟨w.heap.size, 0, none⟩, cap2, rfl, ?_, .inr ⟨w.heap.size, cap2, A2.toArray, rfl, hB, setRow_heap W1.drew w.heap.size _ _ _ _ HN1.out, by omega, hgm, by simpa using hA2l, by simpa using HOWN.out⟩⟩, below_setRow (HB1.out.mono hB).drew hB _⟩
  rw [refCells_length]
  simp only [List.length_append, List.length_take, List.length_drop, List.length_cons, List.length_nil, hn]
  omega
/-- The same where there is room: in place. -/
theorem shape_row {w : World} {g : Nat} {cs : Array Value} {T : TypeId} {fr : Nat × Nat} (h : w.heap[g]? = some (.cells cs T fr)) : w.shape? g = some (T, cs.size) := by unfold World.shape?; rw [h]
set_option maxRecDepth 20000 in
set_option maxHeartbeats 4000000 in
theorem insert_room (B g c : Nat) (cur : Array Value) (L : List RefT) (r : RefT) (i gv : Nat) (w : World) (hcur : w.heap[g]? = some (.cells cur 75 (0, 0))) (hcm : c ≤ maxLen) (hread : cur.toList.take (L.length * 33) = refCells L) (hcs : cur.size = c * 33)
    (hv : w.heap[gv]? = some (.cells (refA r) 75 (0, 0))) (hi : i < L.length) (hc : L.length + 1 ≤ c) (hl : L.length ≤ 100) (hB : B ≤ g) (hne : gv ≠ g) :
    Calls Try.prog 90 #[.slice (some ⟨g, 0, none⟩) L.length c, .int .i64 (i : Int), .slice (some ⟨gv, 0, none⟩) 1 1] w fun e w' => (∃ a c, e = .returned (.slice a (L.length + 1) c) ∧ w'.ownsRow B 75 33 (.slice a (L.length + 1) c) (L.length + 1) (refCells (L.take i ++ [r] ++ L.drop i))) ∧ Below B w w' := by
  have hcell : ∀ (j : Nat) (u : Value), (refCells L)[j]? = some u → w.cell? ⟨g, j, none⟩ = some u := fun j u hj => by
    rw [cell_of_row w g j _ _ _ hcur]
    rw [← hread, List.getElem?_take] at hj
    split at hj
    · simpa using hj
    · cases hj
  have hgl := lt_of_heap hcur
  have hgvl := lt_of_heap hv
  obtain ⟨n, hn⟩ : ∃ n, L.length = n := ⟨_, rfl⟩
  have hdrop : ∀ (j : Nat) (u : Value), (refCells (L.drop i))[j]? = some u → w.cell? ⟨g, i * 33 + j, none⟩ = some u := fun j u hj => hcell _ u (by rw [← refCells_drop, List.getElem?_drop] at hj; exact hj)
  have hdropl : (refCells (L.drop i)).length = (n - i) * 33 := by rw [refCells_length, List.length_drop, hn]
  have hcl : cur.toList.length = c * 33 := by simpa using hcs
  have hov : ∀ (W : World) (hWh : W.heap = w.heap) lb cb, (callFunc 124 #[.slice (some ⟨gv, 0, none⟩) 1 1, .slice (some ⟨g, (i + 1) * 33, none⟩) lb cb]).run Try.prog W = .ok (.value (.bool false)) W := fun W hWh lb cb => by
    rw [run_callFunc_extern Try.func124 (by kernel_rfl) (by kernel_rfl) (by kernel_rfl) (e := Extern.SlicesOverlaps.overlaps #[26, 26] #[4]) (by kernel_rfl),
      Lib.run_overlaps_apart W 26 4 75 Try.underlying26 33 Try.sizeOf75 ⟨gv, 0, none⟩ ⟨g, (i + 1) * 33, none⟩ 1 1 lb cb hne 75 75 33 (c * 33) (by rw [shape_row (by rw [hWh]; exact hv), refA_size]) (by rw [shape_row (by rw [hWh]; exact hcur), hcs]) (by omega) (frozen_of_row W gv 0 _ _ (by rw [hWh]; exact hv)) (frozen_of_row W gv 33 _ _ (by rw [hWh]; exact hv))]
    rfl
  have hcp1 : ∀ ty dc sc, (Builtin.copy_ #[70, 70] ty #[.slice (some ⟨g, (i + 1) * 33, none⟩) (n - i) dc, .slice (some ⟨g, i * 33, none⟩) (n + 1 - i) sc]).run Try.prog w.drew = .ok (goInt ((n - i : Nat) : Int)) (w.drew.setRow g (cur.toList.take (i * 33 + (refL r).length) ++ refCells (L.drop i) ++ cur.toList.drop (i * 33 + (refL r).length + (refCells (L.drop i)).length)).toArray) := fun ty dc sc => by
    have := run_copy_row (P := Try.prog) w.drew 70 70 ty 75 33 g ((i + 1) * 33) (n - i) dc ⟨g, i * 33, none⟩ (n + 1 - i) sc (n - i) (refCells (L.drop i)) 75 cur Try.underlying70 info_ref (by simp only [Nat.min_def]; split <;> omega) hdropl
      (fun j u hj => by rw [Addr.add_lit]; exact hdrop j u hj) hcur (by rw [hdropl, hcs]; omega) (refCells_one _)
    rw [refL_length, show i * 33 + 33 = (i + 1) * 33 by omega]; simpa using this
  obtain ⟨A1, hA1⟩ : ∃ A1 : List Value, cur.toList.take (i * 33 + (refL r).length) ++ refCells (L.drop i) ++ cur.toList.drop (i * 33 + (refL r).length + (refCells (L.drop i)).length) = A1 := ⟨_, rfl⟩
  have hA1l : A1.length = c * 33 := by
    rw [← hA1]
    simp only [List.length_append, List.length_take, List.length_drop, refL_length, hdropl, hcl]
    omega
  rw [hA1] at hcp1
  obtain ⟨W1, hW1⟩ : ∃ W1, w.drew.setRow g A1.toArray = W1 := ⟨_, rfl⟩
  have hW1n : W1.heap[g]? = some (.cells A1.toArray 75 (0, 0)) := by rw [← hW1]; exact setRow_heap w.drew g _ _ _ _ hcur
  have hW1v : W1.heap[gv]? = some (.cells (refA r) 75 (0, 0)) := by rw [← hW1, setRow_other _ _ _ _ hne]; exact hv
  have hW1B : Below B w W1 := by rw [← hW1]; exact below_setRow (Below.refl B w).drew hB _
  rw [hW1] at hcp1
  clear hW1
  have hcp2 : ∀ ty dc, (Builtin.copy_ #[70, 26] ty #[.slice (some ⟨g, i * 33, none⟩) (n + 1 - i) dc, .slice (some ⟨gv, 0, none⟩) 1 1]).run Try.prog W1 = .ok (goInt 1) (W1.setRow g (A1.take (i * 33) ++ refL r ++ A1.drop (i * 33 + (refL r).length)).toArray) := fun ty dc => by
    have := run_copy_row (P := Try.prog) W1 70 26 ty 75 33 g (i * 33) (n + 1 - i) dc ⟨gv, 0, none⟩ 1 1 1 (refL r) 75 A1.toArray Try.underlying70 info_ref (by simp only [Nat.min_def]; split <;> omega) (by rw [refL_length])
      (fun j u hj => by rw [Addr.add_lit, Nat.zero_add, cell_of_row W1 gv j _ _ _ hW1v]; simpa [refA] using hj) hW1n (by rw [List.size_toArray, refL_length, hA1l]; omega) (refL_one r)
    simpa using this
  have hfin := two_copies' cur.toList (refL r) (refCells (L.drop i)) (i * 33) (by rw [refL_length, hdropl, hcl]; omega)
  simp only [hA1] at hfin
  obtain ⟨A2, hA2⟩ : ∃ A2 : List Value, A1.take (i * 33) ++ refL r ++ A1.drop (i * 33 + (refL r).length) = A2 := ⟨_, rfl⟩
  rw [hA2] at hfin hcp2
  obtain ⟨hf1, hf2⟩ := hfin
  rw [hcl] at hf2
  have hfront : cur.toList.take (i * 33) = refCells (L.take i) := by
    rw [← refCells_take, ← hread, List.take_take, Nat.min_eq_left (by omega)]
  have HOWN := hide (show A2.take ((n + 1) * 33) = refCells (L.take i ++ [r] ++ L.drop i) by
    rw [refCells_append, refCells_append, refCells_single, ← hfront, ← hf1, refL_length, hdropl]; congr 1; omega)
  have HB1 := hide hW1B
  have HN1 := hide hW1n
  have hcm2 : c ≤ 9223372036854775807 := by unfold maxLen at hcm; omega
  have hgv1 : (n : Int) + 1 ≤ (c : Int) := by omega
  have hii : (i : Int) < (n : Int) := by omega
  have hnn : (n : Int) ≤ 100 := by omega
  have hne1 : ¬ (i : Int) = (n : Int) := by omega
  have wi1 : IntKind.i64.wrap ((i : Int) + 1) = (i : Int) + 1 := IntWalk.i64_in _ (by omega)
  have bi1 : (0 : Int) ≤ (i : Int) + 1 := by omega
  have bi2 : (i : Int) + 1 ≤ (n : Int) + 1 := by omega
  have bi3 : ((i : Int) + 1).toNat = i + 1 := by omega
  have bi4 : ¬ c = i + 1 := by omega
  have bi5 : ¬ c = i := by omega
  have bi6 : i ≤ n := by omega
  have bi7 : ((n : Int) + 1).toNat = n + 1 := by omega
  have bi8 : (i : Int) ≤ (n : Int) + 1 := by omega
  have hov2 := fun lb cb => hov w rfl lb cb
  rw [hn]
  clear hW1n hW1B hA2 hA1 hf1 hread hcell hdrop hov hfront hW1v
  go_enter Try.func90, Try.ntmps90
  go_wp2_with (simp only [hov2])
  go_region_law (refine step_copy_known rfl _ _ 70 70 rfl _ _ (by simp [Act.eval, Act.put]) (by simp [Act.eval, Act.put]) (hcp1 _ _ _) ?_)
  go_wp2_with (at_builtin; refine wpList_copy_known rfl _ _ 70 26 rfl _ _ rfl rfl (hcp2 _ _) ?_)
  go_ret
  refine ⟨⟨some ⟨g, 0, none⟩, c, rfl, ?_, .inr ⟨g, c, A2.toArray, rfl, hB, setRow_heap W1 g _ _ _ _ HN1.out, by omega, hcm, by simpa using hf2, by simpa using HOWN.out⟩⟩, below_setRow HB1.out hB _⟩
  rw [refCells_length]
  simp only [List.length_append, List.length_take, List.length_drop, List.length_cons, List.length_nil, hn]
  omega
end Go.Proofs.Ytjmbnfcjambdkaa
