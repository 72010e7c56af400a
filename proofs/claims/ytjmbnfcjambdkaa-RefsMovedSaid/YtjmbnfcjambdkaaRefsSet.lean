/- refs.table.set. -/
import Derived.Test.YtjmbnfcjambdkaaRefsDel
import Derived.Test.YtjmbnfcjambdkaaDigEq
namespace Go.Proofs.Ytjmbnfcjambdkaa
open Go.RowKit
def zeroD (d : Dig) : Bool := d.bytes == dig0.bytes
/-- What is put: the table, and the error's number. -/
def setR (L : List RefT) (n : List UInt8) (d : Dig) : List RefT × Int :=
  if zeroD d then (if foundI L n then (delI L n, 0) else (L, 0))
  else if foundI L n then (setI L n d, 0)
  else if 16 ≤ L.length then ([], 6)
  else (insI L n d, 0)
theorem set_cells (L : List RefT) (i : Nat) (n : List UInt8) (d : Dig) (R : List Value) (hi : i < L.length) (hn : L[i].1 = n) :
    (refCells L ++ R).take (i * 33 + 1) ++ (dgst d).toList ++ (refCells L ++ R).drop (i * 33 + 1 + 32) = refCells (L.take i ++ [(n, d)] ++ L.drop (i + 1)) ++ R := by
  have h0 : L = L.take i ++ [L[i]] ++ L.drop (i + 1) := by
    rw [List.append_assoc, List.singleton_append, ← List.drop_eq_getElem_cons hi, List.take_append_drop]
  have h1 : refCells L = refCells (L.take i) ++ (.string ⟨n.toArray⟩ :: Lib.byteCells L[i].2.bytes) ++ refCells (L.drop (i + 1)) := by
    conv => lhs; rw [h0]
    rw [refCells_append, refCells_append, refCells_single, refL, hn]
  have hl : (refCells (L.take i)).length = i * 33 := by rw [refCells_length, List.length_take]; congr 1; omega
  have hb : (Lib.byteCells L[i].2.bytes).length = 32 := by simp [Lib.byteCells, L[i].2.len]
  have ht : (refCells L ++ R).take (i * 33 + 1) = refCells (L.take i) ++ [.string ⟨n.toArray⟩] := by
    rw [h1, List.append_assoc, List.append_assoc, List.take_append, hl, List.take_of_length_le (by omega), show i * 33 + 1 - i * 33 = 1 by omega]
    rfl
  have hd : (refCells L ++ R).drop (i * 33 + 1 + 32) = refCells (L.drop (i + 1)) ++ R := by
    have e : refCells L ++ R = (refCells (L.take i) ++ (.string ⟨n.toArray⟩ :: Lib.byteCells L[i].2.bytes)) ++ (refCells (L.drop (i + 1)) ++ R) := by rw [h1, List.append_assoc]
    have hx : (refCells (L.take i) ++ (.string ⟨n.toArray⟩ :: Lib.byteCells L[i].2.bytes)).length = i * 33 + 1 + 32 := by rw [List.length_append, hl, List.length_cons, hb]
    rw [e, ← hx, List.drop_left]
  rw [ht, hd, refCells_append, refCells_append, refCells_single, refL]
  simp [dgst]
theorem wp_store_span {P : Program} (T : TypeId) (n : Nat) (hi : (P.info? T).map (·.size) = some n) (dst : Option Tmp) (x y : Operand) (ty : TypeId) (pos : String) (after : Array Edge) (guard : Option (Nat × Bool)) (a : Act) (w : World) (K : Act → World → Prop) (Q : Exit → Act → World → Prop)
    (g o : Nat) (cs : Array Value) (hx : a.eval x = .pointer (some ⟨g, o, none⟩)) (hy : a.eval y = .agg cs) (hc : cs.size = n) (h1 : rowOnes cs = true) (cur : Array Value) (T' : TypeId) (hb : w.heap[g]? = some (.cells cur T' (0, 0))) (hfit : o + n ≤ cur.size)
    (h : K (a.put dst undef) (w.setRow g (cur.toList.take o ++ cs.toList ++ cur.toList.drop (o + n)).toArray)) : Oper.wp P ⟨dst, .store T x y, ty, pos, after, guard⟩ a w K Q := by
  have hst := run_storeCells_at (P := P) g o T' cs.toList 0 cur w hb (by simp [hc]; omega) (fun v hv => (Array.all_eq_true_iff_forall_mem.1 h1) v (by simpa using hv))
  simp only [Nat.add_zero, Array.length_toList, hc] at hst
  have hrun : (Instr.storeAt T (.pointer (some ⟨g, o, none⟩)) (.agg cs)).run P w = .ok () (w.setRow g (cur.toList.take o ++ cs.toList ++ cur.toList.drop (o + n)).toArray) := by
    cases hq : P.info? T with
    | none => simp [hq] at hi
    | some i =>
      have hsz : cs.size = i.size := by simp [hq] at hi; omega
      simp [Instr.storeAt, Instr.sureAddr, storeVar, sizeOf, typeInfo, hq, Value.cells, hsz, hst]
  unfold Oper.wp execOp
  simp only [hx, hy, Sem.run_bind, hrun, Result.andThen_ok, Sem.run_pure]
  exact h
theorem owned_lt {w : World} {base : Nat} {e : TypeId} {size n : Nat} {v : Value} {cs : List Value} (h : w.ownsRow base e size v n cs) : ∀ k, v.ownBlock = some k → k < w.heap.size := by
  obtain ⟨_, ⟨rfl, rfl⟩ | ⟨g, cap, cur, rfl, _, hg, _⟩⟩ := h
  · intro k hk; cases hk
  · intro k hk; cases hk; exact lt_of_heap hg
theorem foldl_from (l : List Value) (m : Nat) : ∀ (k : Nat) (z : Array Value), m + k + l.length ≤ z.size →
    ((l.zipIdx k).foldl (fun cs (p : Value × Nat) => cs.setIfInBounds (m + p.2) p.1) z).toList = z.toList.take (m + k) ++ l ++ z.toList.drop (m + k + l.length) := by
  induction l with
  | nil => intro k z _; simp
  | cons v l ih =>
    intro k z h
    rw [List.zipIdx_cons, List.foldl_cons, ih (k + 1) _ (by simp at *; omega)]
    simp only [List.length_cons] at h
    simp only [Array.toList_setIfInBounds]
    rw [List.take_set, List.drop_set_of_lt (by omega), show m + (k + 1) = (m + k) + 1 by omega, List.take_succ_eq_append_getElem (by simp; omega)]
    rw [List.set_append_right _ _ (by simp; omega)]
    simp [show min (m + k) z.size = m + k by omega, show m + k + 1 + l.length = m + k + (l.length + 1) by omega]
theorem build_ref (n : List UInt8) (d : Dig) : Array.foldl (fun (cs : Array Value) (x : Value × Nat) => cs.setIfInBounds (1 + x.snd) x.fst)
    #[.string ⟨n.toArray⟩, .int .u8 0, .int .u8 0, .int .u8 0, .int .u8 0, .int .u8 0, .int .u8 0, .int .u8 0, .int .u8 0, .int .u8 0, .int .u8 0, .int .u8 0, .int .u8 0, .int .u8 0, .int .u8 0, .int .u8 0, .int .u8 0, .int .u8 0, .int .u8 0, .int .u8 0, .int .u8 0, .int .u8 0, .int .u8 0, .int .u8 0, .int .u8 0, .int .u8 0, .int .u8 0, .int .u8 0, .int .u8 0, .int .u8 0, .int .u8 0, .int .u8 0, .int .u8 0] (dgst d).zipIdx 0 32 = refA (n, d) := by
  have hs : (dgst d).zipIdx.size = 32 := by simp
  conv => lhs; rw [← hs]
  apply Array.toList_inj.1
  rw [← Array.foldl_toList, Array.toList_zipIdx]
  have := foldl_from (dgst d).toList 1 0 #[.string ⟨n.toArray⟩, .int .u8 0, .int .u8 0, .int .u8 0, .int .u8 0, .int .u8 0, .int .u8 0, .int .u8 0, .int .u8 0, .int .u8 0, .int .u8 0, .int .u8 0, .int .u8 0, .int .u8 0, .int .u8 0, .int .u8 0, .int .u8 0, .int .u8 0, .int .u8 0, .int .u8 0, .int .u8 0, .int .u8 0, .int .u8 0, .int .u8 0, .int .u8 0, .int .u8 0, .int .u8 0, .int .u8 0, .int .u8 0, .int .u8 0, .int .u8 0, .int .u8 0, .int .u8 0] (by simp)
  refine this.trans ?_
  simp [refA, refL, dgst, Lib.byteCells, d.len]
set_option maxRecDepth 20000 in
set_option maxHeartbeats 4000000 in
theorem set_any (v : Value) (L : List RefT) (n : List UInt8) (d : Dig) (w : World) (hr : Reads w 33 v L.length (refCells L)) (hL : Rising L) (hl : L.length ≤ 16) :
    Calls Try.prog 40 #[v, .string ⟨n.toArray⟩, .agg (dgst d)] w fun e w' => (∃ v', e = .returned (.tuple #[v', .int .i64 (setR L n d).2]) ∧ Reads w' 33 v' (setR L n d).1.length (refCells (setR L n d).1) ∧ ∀ k, v'.ownBlock = some k → w.heap.size ≤ k) ∧ Below w.heap.size w w' := by
  have HR := hide hr
  have HP := hide (fun w' (h : Reads w' 33 v L.length (refCells L)) => place_any v L n w' h hL (by omega))
  have HC := hide (fun w' (h : Reads w' 33 v L.length (refCells L)) => clone_any v L w' h (by omega))
  have HL := hide hL
  have hq : ∀ w, (Op.equalIn 10000 24 (.agg (dgst d)) (.agg (dgst dig0))).run Try.prog w = .ok (zeroD d) w := fun w => run_equalIn_dgst d dig0 w
  obtain ⟨a0, c0, rfl⟩ := hr.shape
  clear hr hL
  obtain ⟨S, hS⟩ : ∃ S, Hid (setR L n d = S) := ⟨_, hide rfl⟩
  go_enter Try.func40, Try.ntmps40
  go_wp2_with fail
  refine (HP.out _ (HR.out.alloc _)).mono ?_
  rintro e w1 ⟨rfl, hb1⟩
  have hr1 : w1.rowCells w.heap.size = dgst d := rowAt_below hb1 (by simp) (rowCells_new _ _ _ _)
  have HR1 := hide ((HR.out.alloc _).below hb1)
  have HB1 := hide (((Below.refl _ w).alloc (Nat.le_refl _) _).trans (hb1.mono (by simp)))
  have hz1 := hb1.size
  rw [World.size_alloc] at hz1
  clear hb1
  go_wp2_with fail
  refine (HC.out _ HR1.out).mono ?_
  rintro e w2 ⟨⟨a1, c1, rfl, hown⟩, hb2⟩
  have hr2 : w2.rowCells w.heap.size = dgst d := rowAt_below hb2 (by omega) hr1
  have HO := hide hown
  have HB2 := hide (HB1.out.trans (hb2.mono HB1.out.size))
  have hz2 := hb2.size
  have HR2 := hide (Reads.owned hown (refCells_one _) (by unfold maxLen; omega))
  clear hb2 hown hr1
  have hlo := lowI_le L n
  cases hz : zeroD d with
  | true =>
    rw [hz] at hq
    cases hf : foundI L n with
    | true =>
      have hlt := found_lt hf
      have HS := hide (show S = (delI L n, 0) by rw [← hS.out, setR, hz, hf]; rfl)
      obtain ⟨i, hi⟩ : ∃ i, Hid (lowI L n = i) := ⟨_, hide rfl⟩
      rw [hi.out] at hlt hlo ⊢
      have wi1 : IntKind.i64.wrap ((i : Int) + 1) = (i : Int) + 1 := IntWalk.i64_in _ (by omega)
      clear hf hz
      go_wp2_with fail
      refine (delete_own w1.heap.size a1 c1 L i _ HO.out hlt (by omega)).mono ?_
      rintro e w3 ⟨⟨a2, c2, rfl, hown⟩, hb3⟩
      have HO3 := hide hown
      have HB3 := hide (HB2.out.trans (hb3.mono (by omega)))
      clear hown hb3
      go_wp2_with fail
      go_ret2
      have hd : delI L n = L.take i ++ L.drop (i + 1) := by rw [delI, hi.out]
      have hdl : (delI L n).length = L.length - 1 := by rw [hd]; simp; omega
      refine ⟨⟨.slice a2 (L.length - 1) c2, ?_, ?_, fun k hk => Nat.le_trans (by omega) (owned_ge HO3.out k hk)⟩, HB3.out⟩
      · rw [hS.out, HS.out]; rfl
      · rw [hS.out, HS.out]
        show Reads w3 33 _ (delI L n).length (refCells (delI L n))
        rw [hdl, hd]
        exact Reads.owned HO3.out (refCells_one _) (by unfold maxLen; omega)
    | false =>
      have HS := hide (show S = (L, 0) by rw [← hS.out, setR, hz, hf]; rfl)
      clear hf hz
      go_wp2_with fail
      go_ret2
      refine ⟨⟨.slice a1 L.length c1, ?_, ?_, fun k hk => Nat.le_trans (by omega) (owned_ge HO.out k hk)⟩, HB2.out⟩
      · rw [hS.out, HS.out]; rfl
      · rw [hS.out, HS.out]; exact HR2.out
  | false =>
    rw [hz] at hq
    cases hf : foundI L n with
    | true =>
      have hlt := found_lt hf
      have hname := found_name hf hlt
      have HS := hide (show S = (setI L n d, 0) by rw [← hS.out, setR, hz, hf]; rfl)
      have hown := HO.out
      obtain ⟨_, ⟨h, h0⟩ | ⟨g, cap, cur, h, hg, hh, h2, h3, h4, h5⟩⟩ := hown
      · omega
      · obtain ⟨rfl, rfl⟩ : a1 = some ⟨g, 0, none⟩ ∧ c1 = cap := by simpa using h
        have hcl : cur.toList.length = c1 * 33 := by simpa using h4
        have hcur : cur.toList = refCells L ++ cur.toList.drop (L.length * 33) := by rw [← h5, List.take_append_drop]
        obtain ⟨R, hR⟩ : ∃ R, cur.toList.drop (L.length * 33) = R := ⟨_, rfl⟩
        rw [hR] at hcur
        have hst := set_cells L (lowI L n) n d R hlt hname
        have hset : setI L n d = L.take (lowI L n) ++ [(n, d)] ++ L.drop (lowI L n + 1) := rfl
        rw [← hset, ← hcur] at hst
        have HST := hide hst
        have hsl : (setI L n d).length = L.length := by rw [hset]; simp; omega
        obtain ⟨i, hi⟩ : ∃ i, Hid (lowI L n = i) := ⟨_, hide rfl⟩
        rw [hi.out] at hlt hlo HST ⊢
        have hlti : (i : Int) < (L.length : Int) := by omega
        have HG := hide hh
        clear hf hz h hst hcur hset hname
        go_wp2_with fail
        change wpSame _ _ _ _ _ _
        unfold wpSame
        refine wp_store_span 24 32 info_dgst none _ _ _ _ _ _ _ _ _ _ g (i * 33 + 1) (dgst d) rfl rfl (dgst_size d) (dgst_one d) cur _ HG.out (by rw [h4]; omega) ?_
        rw [HST.out]
        have N1 := hide (setRow_heap w2 g _ (refCells (setI L n d) ++ R).toArray _ _ HG.out)
        have NB := hide (below_setRow HB2.out (g := g) (by omega) (refCells (setI L n d) ++ R).toArray)
        obtain ⟨W, hW⟩ : ∃ W, w2.setRow g (refCells (setI L n d) ++ R).toArray = W := ⟨_, rfl⟩
        rw [hW] at N1 NB ⊢
        clear hW
        go_wp2_with fail
        go_ret2
        refine ⟨⟨.slice (some ⟨g, 0, none⟩) L.length c1, ?_, ?_, fun k hk => by cases hk; show w.heap.size ≤ g; omega⟩, NB.out⟩
        · rw [hS.out, HS.out]; rfl
        · rw [hS.out, HS.out]
          show Reads W 33 _ (setI L n d).length (refCells (setI L n d))
          refine ⟨by rw [refCells_length], refCells_one _, by unfold maxLen; omega, .inr ⟨g, 0, c1, by rw [hsl], by rw [hsl]; exact h2, h3, fun j u hj => ?_⟩⟩
          rw [Nat.zero_add, cell_of_row W g j _ _ _ N1.out]
          have hjl := (List.getElem?_eq_some_iff.1 hj).1
          simp only [List.getElem?_toArray]
          rw [List.getElem?_append_left hjl]; exact hj
    | false =>
      by_cases h16 : 16 ≤ L.length
      · have HS := hide (show S = ([], 6) by rw [← hS.out, setR, hz, hf]; simp [h16])
        clear hf hz
        go_wp2_with fail
        go_ret2
        refine ⟨⟨.slice none 0 0, ?_, ?_, fun k hk => by cases hk⟩, HB2.out⟩
        · rw [hS.out, HS.out]; rfl
        · rw [hS.out, HS.out]; exact Reads.nil _ _
      · have HS := hide (show S = (insI L n d, 0) by rw [← hS.out, setR, hz, hf]; simp [h16])
        have hins : insI L n d = L.take (lowI L n) ++ [(n, d)] ++ L.drop (lowI L n) := rfl
        have hil : (insI L n d).length = L.length + 1 := by rw [hins]; simp; omega
        obtain ⟨i, hi⟩ : ∃ i, Hid (lowI L n = i) := ⟨_, hide rfl⟩
        have HINS := hide (hi.out ▸ hins : insI L n d = L.take i ++ [(n, d)] ++ L.drop i)
        rw [hi.out] at hlo ⊢
        clear hf hz hins
        have hbr := build_ref n d
        go_wp2_with fail
        clear hbr
        have hgv := heap_alloc_new w2 (.cells (refA (n, d)) 75)
        refine (insert_any w1.heap.size a1 c1 L (n, d) i w2.heap.size _ (HO.out.alloc _) hgv (by omega) (by omega) (by simp; omega) ?_).mono ?_
        · intro e
          have := owned_lt HO.out _ e
          omega
        rintro e w3 ⟨⟨a2, c2, rfl, hown⟩, hb3⟩
        have HO3 := hide hown
        have HB3 := hide ((HB2.out.alloc (by omega) _).trans (hb3.mono (by omega)))
        clear hown hb3 hgv
        go_wp2_with fail
        go_ret2
        refine ⟨⟨.slice a2 (L.length + 1) c2, ?_, ?_, fun k hk => Nat.le_trans (by omega) (owned_ge HO3.out k hk)⟩, HB3.out⟩
        · rw [hS.out, HS.out]; rfl
        · rw [hS.out, HS.out]
          show Reads w3 33 _ (insI L n d).length (refCells (insI L n d))
          rw [hil, HINS.out]
          exact Reads.owned HO3.out (refCells_one _) (by unfold maxLen; omega)
end Go.Proofs.Ytjmbnfcjambdkaa
