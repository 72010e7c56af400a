/- slices.Delete at rows of refs: one less; Insert, whatever room there is. -/
import Derived.Test.YtjmbnfcjambdkaaRefsIns2
namespace Go.Proofs.Ytjmbnfcjambdkaa
open Go.RowKit
theorem insert_any (B : Nat) (a0 : Option Addr) (c0 : Nat) (L : List RefT) (r : RefT) (i gv : Nat) (w : World) (hown : w.ownsRow B 75 33 (.slice a0 L.length c0) L.length (refCells L)) (hv : w.heap[gv]? = some (.cells (refA r) 75 (0, 0))) (hi : i ≤ L.length) (hl : L.length ≤ 100) (hB : B ≤ w.heap.size)
    (hne : (Value.slice a0 L.length c0).ownBlock ≠ some gv) :
    Calls Try.prog 90 #[.slice a0 L.length c0, .int .i64 (i : Int), .slice (some ⟨gv, 0, none⟩) 1 1] w fun e w' => (∃ a c, e = .returned (.slice a (L.length + 1) c) ∧ w'.ownsRow B 75 33 (.slice a (L.length + 1) c) (L.length + 1) (refCells (L.take i ++ [r] ++ L.drop i))) ∧ Below B w w' := by
  by_cases he : i = L.length
  · subst he
    have := insert_end B a0 c0 L r gv w hown hv hl hB
    rw [List.take_length, List.drop_length, List.append_nil]
    exact this
  · obtain ⟨_, ⟨h, h0⟩ | ⟨g, cap, cur, h, hg, hh, h2, h3, h4, h5⟩⟩ := hown
    · omega
    · obtain ⟨rfl, rfl⟩ : a0 = some ⟨g, 0, none⟩ ∧ c0 = cap := by simpa using h
      by_cases hroom : L.length + 1 ≤ c0
      · exact insert_room B g c0 cur L r i gv w hh h3 h5 h4 hv (by omega) hroom hl hg (fun e => hne (by rw [e]; rfl))
      · exact insert_grow B g c0 cur L r i gv w hh h2 h5 h4 hv (by omega) (by omega) hl hB
theorem step_append_known {P : Program} {ops : Array Oper} {o : Oper} {a : Act} {w : World} {K : Act → World → Prop} {Q : Exit → Act → World → Prop} {E : Prop} (hg : o.guard = none) (s x : Operand) (t t' : TypeId)
    (ho : o.op = .call { callee := .builtin .append, args := #[s, x], argTypes := #[t, t'] }) (v u : Value) (hs : a.eval s = v) (hx : a.eval x = u) (v' : Value) (w' : World)
    (hr : (Builtin.append_ #[t, t'] o.type #[v, u]).run P w = .ok v' w') (h : K (a.put o.dst v') w') : if Region.wanted o (yielded ops a.tmps) = true then Oper.wp P o a w K Q else E := by
  have hw : Region.wanted o (yielded ops a.tmps) = true := by simp [Region.wanted, hg]
  rw [if_pos hw]
  exact Lib.wp_append_run w s x t t' ho v u hs hx v' w' hr h
theorem wpList_clear_known {P : Program} {w : World} {ops : Array Oper} {rest : List Oper} {o : Oper} {a : Act} {Q : Exit → Act → World → Prop} (hgd : o.guard = none) (s : Operand) (t : TypeId)
    (ho : o.op = .call { callee := .builtin .clear, args := #[s], argTypes := #[t] }) (v : Value) (hs : a.eval s = v) {v' : Value} {w' : World}
    (hr : (Builtin.clear_ #[t] o.type #[v]).run P w = .ok v' w') (h : wpList P ops Q rest (a.put o.dst v') w') : wpList P ops Q (o :: rest) a w :=
  wpList_plain hgd fun K hK => by
    unfold Oper.wp execOp
    simp only [ho, resolve, invoke, builtin, Sem.run_bind, Sem.run_pure, Result.andThen_ok, List.map_toArray, List.map_cons, List.map_nil, hs, hr]
    exact hK _ _ h
theorem refA_zero_ones : ∀ v ∈ (Value.agg (refA ([], dig0))).cells.toList, v.oneCell' = true := fun v hv => refL_one ([], dig0) v (by simpa [Value.cells, refA] using hv)
set_option maxRecDepth 20000 in
set_option maxHeartbeats 4000000 in
theorem delete_mid (B g c : Nat) (cur : Array Value) (L : List RefT) (i : Nat) (w : World) (hcur : w.heap[g]? = some (.cells cur 75 (0, 0))) (hcm : c ≤ maxLen) (hread : cur.toList.take (L.length * 33) = refCells L) (hcs : cur.size = c * 33)
    (hi : i + 1 < L.length) (hc : L.length ≤ c) (hl : L.length ≤ 100) (hB : B ≤ g) :
    Calls Try.prog 89 #[.slice (some ⟨g, 0, none⟩) L.length c, .int .i64 (i : Int), .int .i64 ((i : Int) + 1)] w fun e w' => (∃ a c, e = .returned (.slice a (L.length - 1) c) ∧ w'.ownsRow B 75 33 (.slice a (L.length - 1) c) (L.length - 1) (refCells (L.take i ++ L.drop (i + 1)))) ∧ Below B w w' := by
  obtain ⟨i0, hi0, hz0, hz1, hz2⟩ := info_parts info_refApp
  have hcell : ∀ (j : Nat) (u : Value), (refCells L)[j]? = some u → w.cell? ⟨g, j, none⟩ = some u := fun j u hj => by
    rw [cell_of_row w g j _ _ _ hcur]
    rw [← hread, List.getElem?_take] at hj
    split at hj
    · simpa using hj
    · cases hj
  obtain ⟨n, hn⟩ : ∃ n, L.length = n := ⟨_, rfl⟩
  have hcl : cur.toList.length = c * 33 := by simpa using hcs
  have hdropl : (refCells (L.drop (i + 1))).length = (n - (i + 1)) * 33 := by rw [refCells_length, List.length_drop, hn]
  have hdrop : ∀ (j : Nat) (u : Value), (refCells (L.drop (i + 1)))[j]? = some u → w.cell? ⟨g, (i + 1) * 33 + j, none⟩ = some u := fun j u hj => hcell _ u (by rw [← refCells_drop, List.getElem?_drop] at hj; exact hj)
  have happ : ∀ (a : Addr) (ty : TypeId) (d : Nat), (a = ⟨g, (i + 1) * 33, none⟩ ∨ n = i + 1) → (Builtin.append_ #[70, 70] ty #[.slice (some ⟨g, 0, none⟩) i c, .slice (some a) (n - (i + 1)) d]).run Try.prog w.drew = .ok (.slice (some ⟨g, 0, none⟩) (n - 1) c) (w.drew.setRow g (cur.toList.take (i * 33) ++ refCells (L.drop (i + 1)) ++ cur.toList.drop (i * 33 + (refCells (L.drop (i + 1))).length)).toArray) := fun a ty d ha => by
    have := run_append_room (P := Try.prog) w.drew 70 ty 75 i0 Try.underlying70 hi0 g i c cur hcur a (n - (i + 1)) d (refCells (L.drop (i + 1))) (by rw [hz1]; exact hdropl) (fun j u hj => by
      rcases ha with rfl | ha
      · rw [Addr.add_lit]; exact hdrop j u hj
      · have := (List.getElem?_eq_some_iff.1 hj).1
        rw [hdropl] at this; omega) (refCells_one _) (by omega) (by rw [hz1, hdropl, hcs]; omega)
    rw [hz1, show i + (n - (i + 1)) = n - 1 by omega] at this
    exact this
  obtain ⟨A1, hA1⟩ : ∃ A1 : List Value, cur.toList.take (i * 33) ++ refCells (L.drop (i + 1)) ++ cur.toList.drop (i * 33 + (refCells (L.drop (i + 1))).length) = A1 := ⟨_, rfl⟩
  have hA1l : A1.length = c * 33 := by
    rw [← hA1]
    simp only [List.length_append, List.length_take, List.length_drop, hdropl, hcl]
    omega
  have hfront : cur.toList.take (i * 33) = refCells (L.take i) := by
    rw [← refCells_take, ← hread, List.take_take, Nat.min_eq_left (by omega)]
  have hA1t : A1.take ((n - 1) * 33) = refCells (L.take i ++ L.drop (i + 1)) := by
    have hx : (refCells (L.take i) ++ refCells (L.drop (i + 1))).length = (n - 1) * 33 := by rw [List.length_append, hdropl, refCells_length, List.length_take]; omega
    rw [← hA1, hfront, refCells_append, List.take_append_of_le_length (by omega), List.take_of_length_le (by omega)]
  rw [hA1] at happ
  obtain ⟨W1, hW1⟩ : ∃ W1, w.drew.setRow g A1.toArray = W1 := ⟨_, rfl⟩
  have hW1n : W1.heap[g]? = some (.cells A1.toArray 75 (0, 0)) := by rw [← hW1]; exact setRow_heap w.drew g _ _ _ _ hcur
  have hW1B : Below B w W1 := by rw [← hW1]; exact below_setRow (Below.refl B w).drew hB _
  rw [hW1] at happ
  have hclr : ∀ ty d, (Builtin.clear_ #[70] ty #[.slice (some ⟨g, (n - 1) * 33, none⟩) 1 d]).run Try.prog W1 = .ok (.tuple #[]) (W1.setRow g (A1.take ((n - 1) * 33) ++ (Builtin.zeroCells (Value.agg (refA ([], dig0))).cells 1).toList ++ A1.drop ((n - 1) * 33 + 1 * 33)).toArray) := fun ty d => by
    have := run_clear_row (P := Try.prog) W1 70 ty 75 33 g ((n - 1) * 33) 1 d (.agg (refA ([], dig0))) 75 A1.toArray Try.underlying70 (run_zero_ref W1) (by decide) zero_cells refA_zero_ones hW1n (by rw [List.size_toArray, hA1l]; omega)
    simpa using this
  obtain ⟨A2, hA2⟩ : ∃ A2 : List Value, A1.take ((n - 1) * 33) ++ (Builtin.zeroCells (Value.agg (refA ([], dig0))).cells 1).toList ++ A1.drop ((n - 1) * 33 + 1 * 33) = A2 := ⟨_, rfl⟩
  have hzl : (Builtin.zeroCells (Value.agg (refA ([], dig0))).cells 1).toList.length = 33 := by simp [Builtin.zeroCells, zero_cells]
  have hA2l : A2.length = c * 33 := by
    rw [← hA2]
    simp only [List.length_append, List.length_take, List.length_drop, hA1l, hzl]
    omega
  have HOWN := hide (show A2.take ((n - 1) * 33) = refCells (L.take i ++ L.drop (i + 1)) by
    have hx : (A1.take ((n - 1) * 33)).length = (n - 1) * 33 := by rw [List.length_take, hA1l]; omega
    rw [← hA2, List.append_assoc, List.take_append_of_le_length (by omega), List.take_of_length_le (by omega), hA1t])
  rw [hA2] at hclr
  have HB1 := hide hW1B
  have HN1 := hide hW1n
  have hcm2 : c ≤ 9223372036854775807 := by unfold maxLen at hcm; omega
  have hii : (i : Int) < (n : Int) := by omega
  have hnn : (n : Int) ≤ 100 := by omega
  have bi1 : (0 : Int) ≤ (i : Int) + 1 := by omega
  have bi2 : (i : Int) + 1 ≤ (n : Int) := by omega
  have bi3 : ((i : Int) + 1).toNat = i + 1 := by omega
  have bi6 : i ≤ n := by omega
  have bi7 : n ≤ c := by omega
  have bi8 : ¬ c = n - 1 := by omega
  have bi9 : (n - 1 : Nat) ≤ n := by omega
  have bi10 : n - (n - 1) = 1 := by omega
  have bi11 : i ≤ c := by omega
  have bi13 : (i : Int) ≤ (i : Int) + 1 := by omega
  have bi12 : (i : Int) ≤ (c : Int) := by omega
  have hll : (L.take i ++ L.drop (i + 1)).length = n - 1 := by simp [hn]; omega
  rw [hn]
  clear hW1n hW1B hA2 hA1 hA1t hread hcell hdrop hfront hW1 hzl
  have hci : ¬ c = i + 1 := by omega
  have happ1 := fun ty d => happ ⟨g, (i + 1) * 33, none⟩ ty d (.inl rfl)
  clear happ
  go_enter Try.func89, Try.ntmps89
  go_wp2_with fail
  go_region_law (refine step_append_known rfl _ _ 70 70 rfl _ _ (by simp [Act.eval, Act.put]) (by simp [Act.eval, Act.put]) _ _ (happ1 _ (c - (i + 1))) ?_)
  go_wp2_with (at_builtin; refine wpList_clear_known rfl _ 70 rfl _ rfl (hclr _ _) ?_)
  go_ret
  refine ⟨⟨some ⟨g, 0, none⟩, c, rfl, ?_, .inr ⟨g, c, A2.toArray, rfl, hB, setRow_heap W1 g _ _ _ _ HN1.out, by omega, hcm, by simpa using hA2l, by simpa using HOWN.out⟩⟩, below_setRow HB1.out hB _⟩
  rw [refCells_length, hll]
set_option maxRecDepth 20000 in
set_option maxHeartbeats 4000000 in
theorem delete_last (B g c : Nat) (cur : Array Value) (L : List RefT) (i : Nat) (w : World) (hcur : w.heap[g]? = some (.cells cur 75 (0, 0))) (hcm : c ≤ maxLen) (hread : cur.toList.take (L.length * 33) = refCells L) (hcs : cur.size = c * 33)
    (hi : i + 1 = L.length) (hc : L.length ≤ c) (hl : L.length ≤ 100) (hB : B ≤ g) :
    Calls Try.prog 89 #[.slice (some ⟨g, 0, none⟩) L.length c, .int .i64 (i : Int), .int .i64 ((i : Int) + 1)] w fun e w' => (∃ a c, e = .returned (.slice a (L.length - 1) c) ∧ w'.ownsRow B 75 33 (.slice a (L.length - 1) c) (L.length - 1) (refCells (L.take i ++ L.drop (i + 1)))) ∧ Below B w w' := by
  have hcl : cur.toList.length = c * 33 := by simpa using hcs
  have hfront : cur.toList.take (i * 33) = refCells (L.take i) := by
    rw [← refCells_take, ← hread, List.take_take, Nat.min_eq_left (by omega)]
  have hclr : ∀ ty d, (Builtin.clear_ #[70] ty #[.slice (some ⟨g, i * 33, none⟩) 1 d]).run Try.prog w.drew = .ok (.tuple #[]) (w.drew.setRow g (cur.toList.take (i * 33) ++ (Builtin.zeroCells (Value.agg (refA ([], dig0))).cells 1).toList ++ cur.toList.drop (i * 33 + 1 * 33)).toArray) := fun ty d => by
    have := run_clear_row (P := Try.prog) w.drew 70 ty 75 33 g (i * 33) 1 d (.agg (refA ([], dig0))) 75 cur Try.underlying70 (run_zero_ref w.drew) (by decide) zero_cells refA_zero_ones hcur (by omega)
    simpa using this
  obtain ⟨A2, hA2⟩ : ∃ A2 : List Value, cur.toList.take (i * 33) ++ (Builtin.zeroCells (Value.agg (refA ([], dig0))).cells 1).toList ++ cur.toList.drop (i * 33 + 1 * 33) = A2 := ⟨_, rfl⟩
  have hzl : (Builtin.zeroCells (Value.agg (refA ([], dig0))).cells 1).toList.length = 33 := by simp [Builtin.zeroCells, zero_cells]
  have hA2l : A2.length = c * 33 := by
    rw [← hA2]
    simp only [List.length_append, List.length_take, List.length_drop, hcl, hzl]
    omega
  have HOWN := hide (show A2.take (i * 33) = refCells (L.take i ++ L.drop (i + 1)) by
    have hx : (cur.toList.take (i * 33)).length = i * 33 := by rw [List.length_take, hcl]; omega
    rw [← hA2, List.append_assoc, List.take_append_of_le_length (by omega), List.take_of_length_le (by omega), hfront, List.drop_of_length_le (by omega : L.length ≤ i + 1), List.append_nil])
  rw [hA2] at hclr
  have HN1 := hide hcur
  have hcm2 : c ≤ 9223372036854775807 := by unfold maxLen at hcm; omega
  have hnn : (i : Int) ≤ 100 := by omega
  have bi1 : (0 : Int) ≤ (i : Int) + 1 := by omega
  have bi3 : ((i : Int) + 1).toNat = i + 1 := by omega
  have bi6 : i ≤ i + 1 := by omega
  have bi7 : i + 1 ≤ c := by omega
  have bi9 : (i : Int) + 1 ≤ (c : Int) := by omega
  have bi11 : i ≤ c := by omega
  have bi12 : (i : Int) ≤ (c : Int) := by omega
  have bi13 : (i : Int) ≤ (i : Int) + 1 := by omega
  have bi8 : ¬ c = i := by omega
  have bi10 : i + 1 - i = 1 := by omega
  have HLL := hide (show (L.take i ++ L.drop (i + 1)).length = i by simp; omega)
  rw [← hi]
  clear hA2 hread hfront hzl hi hl hc
  by_cases hci : c = i + 1
  · subst hci
    go_enter Try.func89, Try.ntmps89
    go_wp2_with fail
    go_region_law (fail)
    go_wp2_with (at_builtin; refine wpList_clear_known rfl _ 70 rfl _ rfl (hclr _ _) ?_)
    go_ret
    refine ⟨⟨some ⟨g, 0, none⟩, i + 1, rfl, ?_, .inr ⟨g, i + 1, A2.toArray, rfl, hB, setRow_heap w.drew g _ _ _ _ HN1.out, by omega, hcm, by simpa using hA2l, by simpa using HOWN.out⟩⟩, below_setRow (Below.refl B w).drew hB _⟩
    rw [refCells_length, HLL.out]; simp
  · skip
    go_enter Try.func89, Try.ntmps89
    go_wp2_with fail
    go_region_law (fail)
    go_wp2_with (at_builtin; refine wpList_clear_known rfl _ 70 rfl _ rfl (hclr _ _) ?_)
    go_ret
    refine ⟨⟨some ⟨g, 0, none⟩, c, rfl, ?_, .inr ⟨g, c, A2.toArray, rfl, hB, setRow_heap w.drew g _ _ _ _ HN1.out, by omega, hcm, by simpa using hA2l, by simpa using HOWN.out⟩⟩, below_setRow (Below.refl B w).drew hB _⟩
    rw [refCells_length, HLL.out]; simp
theorem delete_own (B : Nat) (a0 : Option Addr) (c0 : Nat) (L : List RefT) (i : Nat) (w : World) (hown : w.ownsRow B 75 33 (.slice a0 L.length c0) L.length (refCells L)) (hi : i < L.length) (hl : L.length ≤ 100) :
    Calls Try.prog 89 #[.slice a0 L.length c0, .int .i64 (i : Int), .int .i64 ((i : Int) + 1)] w fun e w' => (∃ a c, e = .returned (.slice a (L.length - 1) c) ∧ w'.ownsRow B 75 33 (.slice a (L.length - 1) c) (L.length - 1) (refCells (L.take i ++ L.drop (i + 1)))) ∧ Below B w w' := by
  obtain ⟨_, ⟨h, h0⟩ | ⟨g, cap, cur, h, hg, hh, h2, h3, h4, h5⟩⟩ := hown
  · omega
  · obtain ⟨rfl, rfl⟩ : a0 = some ⟨g, 0, none⟩ ∧ c0 = cap := by simpa using h
    by_cases he : i + 1 = L.length
    · exact delete_last B g c0 cur L i w hh h3 h5 h4 he h2 hl hg
    · exact delete_mid B g c0 cur L i w hh h3 h5 h4 (by omega) h2 hl hg
end Go.Proofs.Ytjmbnfcjambdkaa
