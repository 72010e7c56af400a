/- refs.State.Move, with no tags. -/
import Derived.Test.YtjmbnfcjambdkaaRefsSet
import Derived.Test.YtjmbnfcjambdkaaNameRef
namespace Go.Proofs.Ytjmbnfcjambdkaa
open Go.RowKit
theorem info_st : (Try.prog.info? 29).map (·.size) = some 4 := by kernel_rfl
def st0 : Array Value := #[.string ⟨#[]⟩, .slice none 0 0, .slice none 0 0, .int .u64 0]
section
variable (dst : Option Tmp) (x y : Operand) (ty : TypeId) (pos : String) (after : Array Edge) (guard : Option (Nat × Bool)) (a : Act) (w : World) (K : Act → World → Prop) (Q : Exit → Act → World → Prop)
@[go_sem ↓] theorem wp_load_st : Oper.wp Try.prog ⟨dst, .load 29 x, ty, pos, after, guard⟩ a w K Q = loadRow w 4 (fun cs => K (a.put dst (.agg cs)) w) (wpSame Try.prog ⟨dst, .load 29 x, ty, pos, after, guard⟩ a w K Q) (a.eval x) :=
  wp_load_row_eq 29 _ 4 (by decide) Try.underlying29 rfl info_st dst x ty pos after guard a w K Q
@[go_sem ↓] theorem wp_store_st : Oper.wp Try.prog ⟨dst, .store 29 x y, ty, pos, after, guard⟩ a w K Q = storeRow w 4 (fun w' => K (a.put dst undef) w') (wpSame Try.prog ⟨dst, .store 29 x y, ty, pos, after, guard⟩ a w K Q) (a.eval x) (a.eval y) :=
  wp_store_row_eq 29 4 info_st dst x y ty pos after guard a w K Q
end
theorem ret_st_tmp {fn : Func} {p t : Tmp} (h : fn.results = #[.cell p 29, .tmp t]) {R : Ending → World → Prop} {a : Act} {w : World} (b : Nat) (cs : Array Value) (hs : cs.size = 4) (hp : a.tmps.getD p undef = .pointer (some ⟨b, 0, none⟩)) (hr : w.rowCells b = cs) (hd : a.defers = [])
    (hR : R (.returned (.tuple #[.agg cs, a.tmps.getD t undef])) w) : bodyPost Try.prog fn R .ret a w :=
  bodyPost_ret (results_row_tmp h _ 4 (by omega) Try.underlying29 rfl (by kernel_rfl) _ _ b _ hp hs hr) hd hR
theorem ret_st {fn : Func} {p : Tmp} (h : fn.results = #[.cell p 29]) {R : Ending → World → Prop} {a : Act} {w : World} (b : Nat) (cs : Array Value) (hs : cs.size = 4) (hp : a.tmps.getD p undef = .pointer (some ⟨b, 0, none⟩)) (hr : w.rowCells b = cs) (hd : a.defers = [])
    (hR : R (.returned (.agg cs)) w) : bodyPost Try.prog fn R .ret a w :=
  bodyPost_ret (results_row h _ 4 (by omega) Try.underlying29 rfl (by kernel_rfl) _ _ b _ hp hs hr) hd hR
@[go_sem] theorem ones_st (s : ByteArray) (a a' : Option Addr) (n c n' c' : Nat) (k : IntKind) (x : Int) : rowOnes #[.string s, .slice a n c, .slice a' n' c', .int k x] = true := by simp [rowOnes, Value.oneCell']
theorem grown_row (w : World) (g : Nat) (cs : Array Value) : w.grownBy (w.setRow g cs) (some g) := ⟨rfl, rfl, rfl, by rw [size_setRow]; exact Nat.le_refl _, fun k _ hn => setRow_other w g k cs (fun e => hn (by rw [e]))⟩
theorem kept_store {w : World} {o' o : Obj} {cs : Array Value} {k : Nat} (ho : w.heap[k]? = some o) : ((w.alloc o').setRow w.heap.size cs).heap[k]? = some o := by
  have := lt_of_heap ho
  rw [setRow_other _ _ _ _ (by omega), heap_alloc_old _ _ this]; exact ho
theorem new_store (w : World) (old cs : Array Value) (T : TypeId) : ((w.alloc (.cells old T)).setRow w.heap.size cs).heap[w.heap.size]? = some (.cells cs T (0, 0)) := setRow_heap _ w.heap.size _ _ _ _ (heap_alloc_new w _)
theorem size_store (w : World) (o : Obj) (g : Nat) (cs : Array Value) : ((w.alloc o).setRow g cs).heap.size = w.heap.size + 1 := by rw [size_setRow]; simp
theorem below_store {B : Nat} {a w : World} (h : Below B a w) (hB : B ≤ w.heap.size) (o : Obj) (cs : Array Value) : Below B a ((w.alloc o).setRow w.heap.size cs) := below_setRow (h.alloc hB o) hB cs
theorem reads_store {w : World} {size n : Nat} {v : Value} {cs : List Value} (h : Reads w size v n cs) (o : Obj) (ds : Array Value) : Reads ((w.alloc o).setRow w.heap.size ds) size v n cs := h.below (below_store (Below.refl _ w) (Nat.le_refl _) o ds)
/-- The error of a move, and the table behind it. -/
def moveE (L : List RefT) (n : List UInt8) (f t : Dig) : Int :=
  if refText n = false then 12 else if (atI L n).bytes == f.bytes then (setR L n t).2 else 29
set_option maxRecDepth 20000 in
set_option maxHeartbeats 4000000 in
theorem move_any (h : ByteArray) (v : Value) (x : Int) (L : List RefT) (n : List UInt8) (f t : Dig) (w : World) (hr : Reads w 33 v L.length (refCells L)) (hL : Rising L) (hl : L.length ≤ 16) (hn : n.length ≤ 1000) :
    Calls Try.prog 13 #[.agg #[.string h, v, .slice none 0 0, .int .u64 x], .string ⟨n.toArray⟩, .agg (dgst f), .agg (dgst t)] w fun e w' =>
      ((moveE L n f t ≠ 0 ∧ e = .returned (.tuple #[.agg st0, .int .i64 (moveE L n f t)])) ∨ (moveE L n f t = 0 ∧ ∃ v', e = .returned (.tuple #[.agg #[.string h, v', .slice none 0 0, .int .u64 x], .int .i64 0]) ∧ Reads w' 33 v' (setR L n t).1.length (refCells (setR L n t).1) ∧ ∀ k, v'.ownBlock = some k → w.heap.size ≤ k)) ∧ Below w.heap.size w w' := by
  have HR := hide hr
  have HT := hide (fun w' => tag_any h (.slice none 0 0) v x [] n w' (show Reads w' 33 (.slice none 0 0) ([] : List RefT).length (refCells []) from Reads.nil w' 33) (fun i j hi => absurd hi (by simp)) (by simp))
  have HBR := hide (fun w' (hh : Reads w' 33 v L.length (refCells L)) => branch_any h v (.slice none 0 0) x L n w' hh hL (by omega))
  have HSET := hide (fun w' (hh : Reads w' 33 v L.length (refCells L)) => set_any v L n t w' hh hL hl)
  have HRF := hide (fun w' => ref_any ⟨n.toArray⟩ w' (by rw [size_str]; unfold maxLen; omega))
  have ht0 : foundI [] n = false := rfl
  have ha0 : atI [] n = dig0 := rfl
  rw [ht0, ha0] at HT
  obtain ⟨E, hE⟩ : ∃ E, Hid (moveE L n f t = E) := ⟨_, hide rfl⟩
  obtain ⟨a0, c0, rfl⟩ := hr.shape
  clear hr ht0 ha0
  go_enter Try.func13, Try.ntmps13
  go_wp2_with fail
  have q0 : ((((w.alloc (.cells #[.string h, .slice a0 L.length c0, .slice none 0 0, .int .u64 x] 29)).alloc (.cells (dgst f) 24)).alloc (.cells (dgst t) 24)).alloc (.cells st0 29)).heap[w.heap.size]? = some (.cells #[.string h, .slice a0 L.length c0, .slice none 0 0, .int .u64 x] 29 (0, 0)) := by
    rw [heap_alloc_old _ _ (by first | (simp; done) | (simp; omega)), heap_alloc_old _ _ (by first | (simp; done) | (simp; omega)), heap_alloc_old _ _ (by simp), heap_alloc_new]
  have q1 : ((((w.alloc (.cells #[.string h, .slice a0 L.length c0, .slice none 0 0, .int .u64 x] 29)).alloc (.cells (dgst f) 24)).alloc (.cells (dgst t) 24)).alloc (.cells st0 29)).heap[w.heap.size + 1]? = some (.cells (dgst f) 24 (0, 0)) := by
    rw [heap_alloc_old _ _ (by first | (simp; done) | (simp; omega)), heap_alloc_old _ _ (by first | (simp; done) | (simp; omega))]; exact heap_alloc2_new w _ _
  have q2 : ((((w.alloc (.cells #[.string h, .slice a0 L.length c0, .slice none 0 0, .int .u64 x] 29)).alloc (.cells (dgst f) 24)).alloc (.cells (dgst t) 24)).alloc (.cells st0 29)).heap[w.heap.size + 1 + 1]? = some (.cells (dgst t) 24 (0, 0)) := by
    rw [heap_alloc_old _ _ (by first | (simp; done) | (simp; omega))]
    have := heap_alloc2_new (w.alloc (.cells #[.string h, .slice a0 L.length c0, .slice none 0 0, .int .u64 x] 29)) (.cells (dgst f) 24) (.cells (dgst t) 24)
    simpa using this
  have q3 : ((((w.alloc (.cells #[.string h, .slice a0 L.length c0, .slice none 0 0, .int .u64 x] 29)).alloc (.cells (dgst f) 24)).alloc (.cells (dgst t) 24)).alloc (.cells st0 29)).heap[w.heap.size + 1 + 1 + 1]? = some (.cells st0 29 (0, 0)) := by
    have := heap_alloc2_new ((w.alloc (.cells #[.string h, .slice a0 L.length c0, .slice none 0 0, .int .u64 x] 29)).alloc (.cells (dgst f) 24)) (.cells (dgst t) 24) (.cells st0 29)
    simpa using this
  have qz : ((((w.alloc (.cells #[.string h, .slice a0 L.length c0, .slice none 0 0, .int .u64 x] 29)).alloc (.cells (dgst f) 24)).alloc (.cells (dgst t) 24)).alloc (.cells st0 29)).heap.size = w.heap.size + 4 := by simp
  have qb := ((((Below.refl w.heap.size w).alloc (Nat.le_refl _) (.cells #[.string h, .slice a0 L.length c0, .slice none 0 0, .int .u64 x] 29)).alloc (by simp) (.cells (dgst f) 24)).alloc (by simp; omega) (.cells (dgst t) 24)).alloc (by simp; omega) (.cells st0 29)
  have qr := (((HR.out.alloc (.cells #[.string h, .slice a0 L.length c0, .slice none 0 0, .int .u64 x] 29)).alloc (.cells (dgst f) 24)).alloc (.cells (dgst t) 24)).alloc (.cells st0 29)
  rw [show (#[.string { data := #[] }, .slice none 0 0, .slice none 0 0, .int .u64 0] : Array Value) = st0 from rfl]
  obtain ⟨W0, hW0⟩ : ∃ W0, ((((w.alloc (.cells #[.string h, .slice a0 L.length c0, .slice none 0 0, .int .u64 x] 29)).alloc (.cells (dgst f) 24)).alloc (.cells (dgst t) 24)).alloc (.cells st0 29)) = W0 := ⟨_, rfl⟩
  rw [hW0] at q0 q1 q2 q3 qz qb qr ⊢
  clear hW0
  refine (HT.out _).mono ?_
  rintro e w1 ⟨rfl, hb1⟩
  have z1 := hb1.size
  have r0 := hide ((hb1.block _ (by omega)).trans q0)
  have r1 := hide ((hb1.block _ (by omega)).trans q1)
  have r2 := hide ((hb1.block _ (by omega)).trans q2)
  have r3 := hide ((hb1.block _ (by omega)).trans q3)
  have HB1 := hide (qb.trans (hb1.mono (by omega)))
  have HR1 := hide (qr.below hb1)
  clear q0 q1 q2 q3 qb qr hb1
  have p0 := hide (kept_store (o' := .cells (dgst dig0) 24) (cs := dgst dig0) r0.out)
  have p1 := hide (kept_store (o' := .cells (dgst dig0) 24) (cs := dgst dig0) r1.out)
  have p2 := hide (kept_store (o' := .cells (dgst dig0) 24) (cs := dgst dig0) r2.out)
  have p3 := hide (kept_store (o' := .cells (dgst dig0) 24) (cs := dgst dig0) r3.out)
  have ra := rowCells_of p0.out
  have HBp := hide (below_store HB1.out HB1.out.size (.cells (dgst dig0) 24) (dgst dig0))
  have HRp := hide (reads_store HR1.out (.cells (dgst dig0) 24) (dgst dig0))
  go_wp2_with fail
  obtain ⟨W1, hW1⟩ : ∃ W1, ((w1.alloc (.cells (dgst dig0) 24)).setRow w1.heap.size (dgst dig0)) = W1 := ⟨_, rfl⟩
  rw [hW1] at ra p0 p1 p2 p3 HBp HRp ⊢
  clear hW1 r0 r1 r2 r3 HB1 HR1
  refine (HBR.out _ HRp.out).mono ?_
  rintro e w2 ⟨rfl, hb2⟩
  have z2 := hb2.size
  have r0 := hide ((hb2.block _ (lt_of_heap p0.out)).trans p0.out)
  have r1 := hide ((hb2.block _ (lt_of_heap p1.out)).trans p1.out)
  have r2 := hide ((hb2.block _ (lt_of_heap p2.out)).trans p2.out)
  have r3 := hide ((hb2.block _ (lt_of_heap p3.out)).trans p3.out)
  have HB2 := hide (HBp.out.trans (hb2.mono HBp.out.size))
  have HR2 := hide (HRp.out.below hb2)
  clear p0 p1 p2 p3 HBp HRp hb2 ra
  obtain ⟨A, hA⟩ : ∃ A, Hid (atI L n = A) := ⟨_, hide rfl⟩
  obtain ⟨F, hF⟩ : ∃ F, Hid (foundI L n = F) := ⟨_, hide rfl⟩
  rw [hA.out, hF.out]
  have p0 := hide (kept_store (o' := .cells (dgst dig0) 24) (cs := dgst A) r0.out)
  have p1 := hide (kept_store (o' := .cells (dgst dig0) 24) (cs := dgst A) r1.out)
  have p2 := hide (kept_store (o' := .cells (dgst dig0) 24) (cs := dgst A) r2.out)
  have p3 := hide (kept_store (o' := .cells (dgst dig0) 24) (cs := dgst A) r3.out)
  have p4 := hide (new_store w2 (dgst dig0) (dgst A) 24)
  have ra := rowCells_of p0.out
  have HBp := hide (below_store HB2.out HB2.out.size (.cells (dgst dig0) 24) (dgst A))
  have HRp := hide (reads_store HR2.out (.cells (dgst dig0) 24) (dgst A))
  go_wp2_with fail
  obtain ⟨W2, hW2⟩ : ∃ W2, ((w2.alloc (.cells (dgst dig0) 24)).setRow w2.heap.size (dgst A)) = W2 := ⟨_, rfl⟩
  rw [hW2] at ra p0 p1 p2 p3 p4 HBp HRp ⊢
  clear hW2 r0 r1 r2 r3 HB2 HR2 ra
  refine (HRF.out _).mono ?_
  rintro e w3 ⟨rfl, rfl⟩
  have ra := rowCells_of p0.out
  have r1' := rowCells_of p1.out
  have r2' := rowCells_of p2.out
  have r4' := rowCells_of p4.out
  have rk0 := rowOk_of 4 p3.out
  have rk1 : W2.rowOk (w.heap.size + 1 + 1 + 1) 4 = true := by rw [rk0]; rfl
  clear rk0
  cases hrf : refText n with
  | false =>
    have HE := hide (show E = 12 by rw [← hE.out, moveE, hrf]; rfl)
    clear hrf
    go_wp2_with fail
    refine ret_st_tmp rfl (w.heap.size + 1 + 1 + 1) st0 rfl rfl (rowCells_setRow_same (n := 4) _ rk1) rfl ⟨Or.inl ⟨?_, ?_⟩, below_setRow HBp.out (by omega) _⟩
    · rw [hE.out, HE.out]; decide
    · rw [hE.out, HE.out]; rfl
  | true =>
    have hq : ∀ w, (Op.equalIn 10000 24 (.agg (dgst A)) (.agg (dgst f))).run Try.prog w = .ok (A.bytes == f.bytes) w := fun w => run_equalIn_dgst A f w
    cases hg : (A.bytes == f.bytes) with
    | false =>
      rw [hg] at hq
      have HE := hide (show E = 29 by rw [← hE.out, moveE, hrf, hA.out, hg]; rfl)
      clear hrf hg
      go_wp2_with fail
      refine ret_st_tmp rfl (w.heap.size + 1 + 1 + 1) st0 rfl rfl (rowCells_setRow_same (n := 4) _ rk1) rfl ⟨Or.inl ⟨?_, ?_⟩, below_setRow HBp.out (by omega) _⟩
      · rw [hE.out, HE.out]; decide
      · rw [hE.out, HE.out]; rfl
    | true =>
      rw [hg] at hq
      have HE := hide (show E = (setR L n t).2 by rw [← hE.out, moveE, hrf, hA.out, hg]; rfl)
      clear hrf hg
      have c1 : W2.cell? ⟨w.heap.size, 1, none⟩ = some (.slice a0 L.length c0) := by rw [cell_of_row _ _ _ _ _ _ p0.out]; rfl
      go_wp2_with fail
      refine (HSET.out _ HRp.out).mono ?_
      rintro e w3 ⟨⟨v', rfl, hrv, hvb⟩, hb3⟩
      have HRV := hide hrv
      have r0 := hide ((hb3.block _ (lt_of_heap p0.out)).trans p0.out)
      have r3 := hide ((hb3.block _ (lt_of_heap p3.out)).trans p3.out)
      have HB3 := hide (HBp.out.trans (hb3.mono HBp.out.size))
      have hz2W : w.heap.size + 3 < W2.heap.size := by have := lt_of_heap p3.out; omega
      have hz3 := hb3.size
      clear hrv hb3 p0 p1 p2 p3 p4 HBp HRp ra r1' r2' r4' rk1 c1
      have rk0 := rowOk_of 4 r3.out
      have rk1 : w3.rowOk (w.heap.size + 1 + 1 + 1) 4 = true := by rw [rk0]; rfl
      clear rk0
      obtain ⟨M, hM⟩ : ∃ M, Hid (setR L n t = M) := ⟨_, hide rfl⟩
      rw [hM.out] at HRV HE ⊢
      by_cases h0 : M.2 = 0
      · have hd0 : (M.2 != 0) = false := by simp [h0]
        have hcl : w3.cell? ⟨w.heap.size, 1, none⟩ = some (.slice a0 L.length c0) := by rw [cell_of_row _ _ _ _ _ _ r0.out]; rfl
        have hfz := frozen_of_row w3 w.heap.size 1 _ _ r0.out
        have hset := heap_setCell_same w3 w.heap.size 1 _ _ v' r0.out
        have hrs : (w3.setCell ⟨w.heap.size, 1, none⟩ v').rowCells w.heap.size = #[.string h, v', .slice none 0 0, .int .u64 x] := (rowCells_of hset).trans rfl
        have e3 : (w3.setCell ⟨w.heap.size, 1, none⟩ v').heap[w.heap.size + 1 + 1 + 1]? = some (.cells st0 29 (0, 0)) := by
          rw [heap_setCell_other _ _ _ _ (by show w.heap.size + 1 + 1 + 1 ≠ w.heap.size; omega)]; exact r3.out
        have hrk : (w3.setCell ⟨w.heap.size, 1, none⟩ v').rowOk (w.heap.size + 1 + 1 + 1) 4 = true := by rw [rowOk_of 4 e3]; rfl
        have HRW := hide (HRV.out.grown (grown_set w3 w.heap.size 1 v') (fun k hk e => by cases hk; have := hvb _ e; omega))
        obtain ⟨a1, c1, rfl⟩ := HRV.out.shape
        go_wp2_with fail
        refine ret_st_tmp rfl (w.heap.size + 1 + 1 + 1) #[.string h, .slice a1 M.1.length c1, .slice none 0 0, .int .u64 x] rfl rfl (rowCells_setRow_same (n := 4) _ hrk) rfl ⟨Or.inr ⟨?_, .slice a1 M.1.length c1, ?_, ?_, fun k hk => by have := hvb k hk; omega⟩, below_setRow (HB3.out.setCell (by show w.heap.size ≤ w.heap.size; omega) _) (by omega) _⟩
        · rw [hE.out, HE.out]; exact h0
        · rfl
        · rw [hM.out]
          exact HRW.out.grown (grown_row _ _ _) (fun k hk e => by cases hk; have := hvb _ e; omega)
      · have hd0 : (M.2 != 0) = true := by simpa using h0
        go_wp2_with fail
        refine ret_st_tmp rfl (w.heap.size + 1 + 1 + 1) st0 rfl rfl (rowCells_setRow_same (n := 4) _ rk1) rfl ⟨Or.inl ⟨?_, ?_⟩, below_setRow HB3.out (by omega) _⟩
        · rw [hE.out, HE.out]; exact h0
        · rw [hE.out, HE.out]; rfl
theorem move_ok (h : ByteArray) (v : Value) (x : Int) (L M : List RefT) (n : List UInt8) (f t : Dig) (w : World) (hr : Reads w 33 v L.length (refCells L)) (hL : Rising L) (hl : L.length ≤ 16) (hn : n.length ≤ 1000) (h0 : moveE L n f t = 0) (hM : (setR L n t).1 = M) :
    Calls Try.prog 13 #[.agg #[.string h, v, .slice none 0 0, .int .u64 x], .string ⟨n.toArray⟩, .agg (dgst f), .agg (dgst t)] w fun e w' =>
      ∃ a c, e = .returned (.tuple #[.agg #[.string h, .slice a M.length c, .slice none 0 0, .int .u64 x], .int .i64 0]) ∧ Reads w' 33 (.slice a M.length c) M.length (refCells M) ∧ (∀ k, (Value.slice a M.length c).ownBlock = some k → w.heap.size ≤ k) ∧ Below w.heap.size w w' := by
  refine (move_any h v x L n f t w hr hL hl hn).mono ?_
  rintro e w' ⟨⟨h1, _⟩ | ⟨_, v', rfl, hr2, hb2⟩, hb⟩
  · exact absurd h0 h1
  · rw [hM] at hr2
    obtain ⟨a, c, rfl⟩ := hr2.shape
    exact ⟨a, c, rfl, hr2, hb2, hb⟩
theorem move_no (h : ByteArray) (v : Value) (x : Int) (L : List RefT) (n : List UInt8) (f t : Dig) (E : Int) (w : World) (hr : Reads w 33 v L.length (refCells L)) (hL : Rising L) (hl : L.length ≤ 16) (hn : n.length ≤ 1000) (hE : moveE L n f t = E) (h0 : E ≠ 0) :
    Calls Try.prog 13 #[.agg #[.string h, v, .slice none 0 0, .int .u64 x], .string ⟨n.toArray⟩, .agg (dgst f), .agg (dgst t)] w fun e w' => e = .returned (.tuple #[.agg st0, .int .i64 E]) ∧ Below w.heap.size w w' := by
  refine (move_any h v x L n f t w hr hL hl hn).mono ?_
  rintro e w' ⟨⟨_, rfl⟩ | ⟨h1, _⟩, hb⟩
  · exact ⟨by rw [hE], hb⟩
  · exact absurd (hE ▸ h1) h0
end Go.Proofs.Ytjmbnfcjambdkaa
