/- RefsMoved: what it returns. -/
import Derived.Test.YtjmbnfcjambdkaaRefsAwake
import Derived.Test.YtjmbnfcjambdkaaRefsAct
namespace Go.Proofs.Ytjmbnfcjambdkaa.refsMoved
open Go.RowKit
/-- Blocks that lie as they lay. -/
def Has (w : World) (l : List (Nat × Obj)) : Prop := ∀ p ∈ l, w.heap[p.1]? = some p.2
theorem Has.below {w w' : World} {l : List (Nat × Obj)} (h : Has w l) (hb : Below w.heap.size w w') : Has w' l := fun p hp => (hb.block _ (lt_of_heap (h p hp))).trans (h p hp)
theorem Has.store {w : World} {l : List (Nat × Obj)} (h : Has w l) (o : Obj) (cs : Array Value) : Has ((w.alloc o).setRow w.heap.size cs) l := fun p hp => kept_store (h p hp)
theorem Has.more {w : World} {l : List (Nat × Obj)} (h : Has w l) {k : Nat} {o : Obj} (ho : w.heap[k]? = some o) : Has w ((k, o) :: l) := fun p hp => by
  rcases List.mem_cons.1 hp with rfl | hp
  · exact ho
  · exact h p hp
theorem Has.get {w : World} {l : List (Nat × Obj)} (h : Has w l) {k : Nat} {o : Obj} (hm : (k, o) ∈ l) : w.heap[k]? = some o := h _ hm
theorem Has.sub {w : World} {l m : List (Nat × Obj)} (h : Has w l) (hm : ∀ p ∈ m, p ∈ l) : Has w m := fun p hp => h p (hm p hp)
theorem Has.row {w : World} {l : List (Nat × Obj)} (h : Has w l) (g : Nat) (cs : Array Value) (hg : ∀ p ∈ l, p.1 ≠ g) : Has (w.setRow g cs) l := fun p hp => by rw [setRow_other _ _ _ _ (hg p hp)]; exact h p hp
@[simp, go_sem] theorem st0_size : st0.size = 4 := rfl
@[simp, go_sem] theorem st0_ones : rowOnes st0 = true := ones_st _ _ _ _ _ _ _ _ _
def stV (v : Value) : Array Value := #[.string ⟨#[109, 97, 105, 110]⟩, v, .slice none 0 0, .int .u64 1]
theorem list_name (x : ByteArray) : ∃ l : List UInt8, x = ⟨l.toArray⟩ ∧ l.length = x.size := ⟨x.data.toList, by cases x; rfl, by show x.data.toList.length = x.data.size; simp⟩
set_option maxRecDepth 20000 in
set_option maxHeartbeats 8000000 in
theorem walk_list (v0 : Value) (L0 : List ActT) (n : List UInt8) (t o : Dig) (w : World) (R0 : Reads w 35 v0 L0.length (actCells L0)) :
    Calls Try.prog 3 #[v0, .string ⟨n.toArray⟩, .agg (dgst t), .agg (dgst o)] w fun e w' => e = .returned (.bool true) ∧ Below w.heap.size w w' := by
  have HS := hide R0
  have hns := size_str n
  obtain ⟨a0, c0, rfl⟩ := R0.shape
  clear R0
  have hq : ∀ w, (Op.equalIn 10000 24 (.agg (dgst t)) (.agg (dgst dig0))).run Try.prog w = .ok (zeroD t) w := fun w => run_equalIn_dgst t dig0 w
  go_enter Try.func3, Try.ntmps3
  go_wp2_with fail
  refine (awake24_any _).mono ?_
  rintro e1 w1 ⟨rfl, hb1⟩
  have hz1 : w.heap.size + 2 ≤ w1.heap.size := by have := hb1.size; simp at this; omega
  have ra1 : w1.heap[w.heap.size]? = some (.cells (dgst t) 24 (0, 0)) := (hb1.block _ (by simp; omega)).trans (heap_alloc2_old w _ _)
  have rb1 : w1.heap[w.heap.size + 1]? = some (.cells (dgst o) 24 (0, 0)) := (hb1.block _ (by simp)).trans (heap_alloc2_new w _ _)
  have HH1 := hide (show Has w1 [(w.heap.size, .cells (dgst t) 24), (w.heap.size + 1, .cells (dgst o) 24)] from Has.more (Has.more (fun p hp => by cases hp) rb1) ra1)
  have HB1 := hide ((((Below.refl _ w).alloc (Nat.le_refl _) _).alloc (by simp) _).trans (hb1.mono (by simp; omega)))
  have hr1 := rowCells_of ra1
  clear hb1 ra1 rb1
  by_cases h40 : 40 < L0.length
  · go_wp2_with fail
    go_ret
    exact ⟨rfl, HB1.out⟩
  by_cases h100 : 100 < n.length
  · go_wp2_with fail
    go_ret
    exact ⟨rfl, HB1.out⟩
  cases hz : zeroD t with
  | true =>
    rw [hz] at hq
    go_wp2_with fail
    go_ret
    exact ⟨rfl, HB1.out⟩
  | false =>
    rw [hz] at hq
    have h40i : ¬ 40 < (L0.length : Int) := by omega
    have h100i : ¬ 100 < (n.length : Int) := by omega
    go_wp2_with fail
    refine (new_any _).mono ?_
    rintro e2 w2 ⟨rfl, hb2⟩
    have hz2 := hb2.size
    have HH2 := hide (HH1.out.below hb2)
    have HB2 := hide (HB1.out.trans (hb2.mono HB1.out.size))
    clear hb2 hr1 HH1 HB1 h40i h100i
    have rs := new_store w2 #[.string ⟨#[]⟩, .slice none 0 0, .slice none 0 0, .int .u64 0] #[.string ⟨#[109, 97, 105, 110]⟩, .slice none 0 0, .slice none 0 0, .int .u64 1] 29
    have HH3 := hide (HH2.out.store (.cells #[.string ⟨#[]⟩, .slice none 0 0, .slice none 0 0, .int .u64 0] 29) #[.string ⟨#[109, 97, 105, 110]⟩, .slice none 0 0, .slice none 0 0, .int .u64 1])
    have HB3 := hide (below_store HB2.out HB2.out.size (.cells #[.string ⟨#[]⟩, .slice none 0 0, .slice none 0 0, .int .u64 0] 29) #[.string ⟨#[109, 97, 105, 110]⟩, .slice none 0 0, .slice none 0 0, .int .u64 1])
    have RS := hide rs
    have hk : (w2.alloc (.cells #[.string ⟨#[]⟩, .slice none 0 0, .slice none 0 0, .int .u64 0] 29)).rowOk w2.heap.size 4 = true := by
      rw [rowOk_of 4 (heap_alloc_new w2 _)]; rfl
    clear rs
    go_wp2_with fail
    obtain ⟨W, hW⟩ : ∃ W, ((w2.alloc (.cells #[.string ⟨#[]⟩, .slice none 0 0, .slice none 0 0, .int .u64 0] 29)).setRow w2.heap.size #[.string ⟨#[109, 97, 105, 110]⟩, .slice none 0 0, .slice none 0 0, .int .u64 1]) = W := ⟨_, rfl⟩
    rw [hW] at HH3 HB3 RS ⊢
    clear hW hk HH2 HB2
    obtain ⟨S, hS⟩ : ∃ S, w2.heap.size = S := ⟨_, rfl⟩
    rw [hS] at RS hz2 ⊢
    clear hS
    go_loopw [40] (fun i wr => ∃ (k : Nat) (v : Value) (L : List RefT), k ≤ L0.length ∧ i = .int .i64 k ∧ Has wr [(w.heap.size, .cells (dgst t) 24), (w.heap.size + 1, .cells (dgst o) 24)] ∧ wr.heap[S]? = some (.cells (stV v) 29 (0, 0)) ∧ Reads wr 33 v L.length (refCells L) ∧ Tab L ∧ (∀ k, v.ownBlock = some k → S < k) ∧ Below w.heap.size w wr) (fun i _ => L0.length - (intOf i).toNat)
    case atStart => exact ⟨0, .slice none 0 0, [], by omega, rfl, HH3.out, RS.out, Reads.nil _ _, Tab.nil, (fun k hk => by cases hk), HB3.out⟩
    case round =>
      obtain ⟨k, v, L, hkl, rfl, hHas, hst, hrd, hTab, hvb, hbl⟩ := hrel
      clear HH3 HB3 RS
      have HH := hide hHas
      have ST := hide hst
      have HR := hide hrd
      have HT := hide hTab
      have HVB := hide hvb
      have HB := hide hbl
      clear hHas hst hrd hTab hvb hbl
      by_cases hlt : k < L0.length
      · obtain ⟨b, o1, c1, e1⟩ := HS.out.isRow (by omega)
        cases e1
        have hsp := reads_actSpan (HS.out.below HB.out) k hlt
        obtain ⟨x, hx⟩ : ∃ x, Hid (L0[k] = x) := ⟨_, hide rfl⟩
        rw [hx.out] at hsp
        obtain ⟨nl, hnl, hnll⟩ := list_name x.name
        have hlti : (k : Int) < (L0.length : Int) := by omega
        have hl0 : (L0.length : Int) ≤ 40 := by omega
        have n1 := new_store wr (actA act0) (actA x) 32
        have hk1 : (wr.alloc (.cells (actA act0) 32)).rowOk wr.heap.size 35 = true := by rw [rowOk_of 35 (heap_alloc_new wr _), actA_size]; rfl
        have hc1 : ((wr.alloc (.cells (actA act0) 32)).setRow wr.heap.size (actA x)).cell? ⟨wr.heap.size, 1, none⟩ = some (.string ⟨nl.toArray⟩) := by rw [cell_of_row _ _ _ _ _ _ n1, act_name, hnl]
        have hd1 := act_span n1
        have HH1 := hide (HH.out.store (.cells (actA act0) 32) (actA x))
        have s1 := kept_store (o' := .cells (actA act0) 32) (cs := actA x) ST.out
        have hrs := rowCells_of s1
        have ST1 := hide s1
        have HR1 := hide (reads_store HR.out (.cells (actA act0) 32) (actA x))
        have HB1 := hide (below_store HB.out HB.out.size (.cells (actA act0) 32) (actA x))
        have hnls := size_str nl
        have hSw := lt_of_heap ST.out
        clear n1 s1
        rw [hnl] at hnll
        rw [hnls] at hnll
        by_cases hlong : 100 < nl.length
        · go_wp2_with fail
          go_ret
          exact ⟨rfl, HB1.out⟩
        have hlongi : ¬ 100 < (nl.length : Int) := by omega
        obtain ⟨E, hE⟩ : ∃ E, moveE L nl dig0 x.target = E := ⟨_, rfl⟩
        by_cases h0 : E = 0
        · subst h0
          obtain ⟨M, hM⟩ : ∃ M, (setR L nl x.target).1 = M := ⟨_, rfl⟩
          have HMV := hide (fun w' (h : Reads w' 33 v L.length (refCells L)) => move_ok ⟨#[109, 97, 105, 110]⟩ v 1 L M nl dig0 x.target w' h HT.out.rising HT.out.few (by omega) hE hM)
          have HTM := hide (hM ▸ move_tab L HT.out nl dig0 x.target hE)
          clear hE hM
          go_wp2_with fail
          refine (HMV.out _ HR1.out).mono ?_
          rintro e3 w3 ⟨a3, c3, rfl, hr3, hvb3, hb3⟩
          have hz3 := hb3.size
          rw [size_setRow, World.size_alloc] at hz3 hvb3
          have HH3 := hide (HH1.out.below hb3)
          have ST3 := hide ((hb3.block _ (lt_of_heap ST1.out)).trans ST1.out)
          have HR3 := hide hr3
          have HB3 := hide (HB1.out.trans (hb3.mono HB1.out.size))
          have HV3 := hide hvb3
          clear hb3 HH1 ST1 HR1 HB1 hrs hd1 hc1 hk1 hr3 hvb3
          have hk3 : (w3.alloc (.cells st0 29)).rowOk w3.heap.size 4 = true := by rw [rowOk_of 4 (heap_alloc_new w3 _)]; rfl
          have HH4 := hide (HH3.out.store (.cells st0 29) (stV (.slice a3 M.length c3)))
          have ST4 := hide (kept_store (o' := .cells st0 29) (cs := stV (.slice a3 M.length c3)) ST3.out)
          have HR4 := hide (reads_store HR3.out (.cells st0 29) (stV (.slice a3 M.length c3)))
          have HB4 := hide (below_store HB3.out HB3.out.size (.cells st0 29) (stV (.slice a3 M.length c3)))
          have hrn := rowCells_of (new_store w3 st0 (stV (.slice a3 M.length c3)) 29)
          have hks : ((w3.alloc (.cells st0 29)).setRow w3.heap.size (stV (.slice a3 M.length c3))).rowOk S 4 = true := by rw [rowOk_of 4 ST4.out]; rfl
          have hSz : S < w3.heap.size := by omega
          unfold stV st0 at hrn hks hk3
          go_wp2_with fail
          go_roundw
          case rel =>
            refine ⟨k + 1, .slice a3 M.length c3, M, by omega, by go_num, HH4.out.row S _ (fun p hp => ?_), setRow_heap _ S _ _ _ _ ST4.out, HR4.out.grown (grown_row _ _ _) (fun q hq e => ?_), HTM.out, (fun q hq => ?_), below_setRow HB4.out (by omega) _⟩
            · simp only [List.mem_cons, List.not_mem_nil, or_false] at hp
              rcases hp with rfl | rfl
              · show w.heap.size ≠ S; omega
              · show w.heap.size + 1 ≠ S; omega
            · cases hq; have := HV3.out _ e; omega
            · have := HV3.out _ hq; omega
          case measure => simp [intOf]; omega
        · have HMV := hide (fun w' (h : Reads w' 33 v L.length (refCells L)) => move_no ⟨#[109, 97, 105, 110]⟩ v 1 L nl dig0 x.target E w' h HT.out.rising HT.out.few (by omega) hE h0)
          clear hE
          have hE0 : (E == 0) = false := by simpa using h0
          go_wp2_with fail
          refine (HMV.out _ HR1.out).mono ?_
          rintro e3 w3 ⟨rfl, hb3⟩
          have hz3 := hb3.size
          have HH3 := hide (HH1.out.below hb3)
          have ST3 := hide ((hb3.block _ (lt_of_heap ST1.out)).trans ST1.out)
          have HR3 := hide (HR1.out.below hb3)
          have HB3 := hide (HB1.out.trans (hb3.mono HB1.out.size))
          clear hb3 HH1 ST1 HR1 HB1 hrs hd1 hc1 hk1
          have hk3 : (w3.alloc (.cells st0 29)).rowOk w3.heap.size 4 = true := by rw [rowOk_of 4 (heap_alloc_new w3 _)]; rfl
          have HH4 := hide (HH3.out.store (.cells st0 29) st0)
          have ST4 := hide (kept_store (o' := .cells st0 29) (cs := st0) ST3.out)
          have HR4 := hide (reads_store HR3.out (.cells st0 29) st0)
          have HB4 := hide (below_store HB3.out HB3.out.size (.cells st0 29) st0)
          have hk3 : (w3.alloc (.cells #[.string ⟨#[]⟩, .slice none 0 0, .slice none 0 0, .int .u64 0] 29)).rowOk w3.heap.size 4 = true := hk3
          go_wp2_with fail
          go_roundw
          case rel => exact ⟨k + 1, v, L, by omega, by go_num, HH4.out, ST4.out, HR4.out, HT.out, HVB.out, HB4.out⟩
          case measure => simp [intOf]; omega
      · have hke : k = L0.length := by omega
        have hlti : ¬ (k : Int) < (L0.length : Int) := by omega
        have hv := HVB.out
        obtain ⟨av, cv, rfl⟩ := HR.out.shape
        have hrs := rowCells_of ST.out
        have HBR := hide (branch_any ⟨#[109, 97, 105, 110]⟩ (.slice av L.length cv) (.slice none 0 0) 1 L n wr HR.out HT.out.rising (by have := HT.out.few; omega))
        obtain ⟨A, hA⟩ : ∃ A, Hid (atI L n = A) := ⟨_, hide rfl⟩
        obtain ⟨F, hF⟩ : ∃ F, Hid (foundI L n = F) := ⟨_, hide rfl⟩
        rw [hA.out, hF.out] at HBR
        have HS0 := hide (HH.out.more ST.out)
        clear HH
        unfold stV at hrs
        go_wp2_with fail
        refine HBR.out.mono ?_
        rintro e3 w3 ⟨rfl, hb3⟩
        have HA3 := hide (HS0.out.below hb3)
        have HR3 := hide (HR.out.below hb3)
        have HB3 := hide (HB.out.trans (hb3.mono HB.out.size))
        have hz3 := hb3.size
        have hSw := lt_of_heap ST.out
        clear hb3 HS0 HB HBR hrs
        have HA4 := hide ((HA3.out.store (.cells (dgst dig0) 24) (dgst A)).more (new_store w3 (dgst dig0) (dgst A) 24))
        have HR4 := hide (reads_store HR3.out (.cells (dgst dig0) 24) (dgst A))
        have HB4 := hide (below_store HB3.out HB3.out.size (.cells (dgst dig0) 24) (dgst A))
        have q1 := rowCells_of (HA4.out.get (k := S) (o := .cells (stV (.slice av L.length cv)) 29) (by simp))
        have q2 := rowCells_of (HA4.out.get (k := w3.heap.size) (o := .cells (dgst A) 24) (by simp))
        have q3 := rowCells_of (HA4.out.get (k := w.heap.size) (o := .cells (dgst t) 24) (by simp))
        unfold stV at q1
        obtain ⟨E, hE⟩ : ∃ E, moveE L n A t = E := ⟨_, rfl⟩
        have hn1 : n.length ≤ 1000 := by omega
        by_cases h0 : E = 0
        · subst h0
          obtain ⟨M, hM⟩ : ∃ M, (setR L n t).1 = M := ⟨_, rfl⟩
          have HMV := hide (fun w' (h : Reads w' 33 (.slice av L.length cv) L.length (refCells L)) => move_ok ⟨#[109, 97, 105, 110]⟩ (.slice av L.length cv) 1 L M n A t w' h HT.out.rising HT.out.few hn1 hE hM)
          obtain ⟨hTM, hE2, hML, hE3⟩ := move_back L HT.out n t o hz (by rw [hA.out]; exact hE)
          rw [hM, hA.out] at hE2 hML hE3
          rw [hM] at hTM
          have HTM := hide hTM
          have HMU := hide (fun aM cM w' (h : Reads w' 33 (.slice aM M.length cM) M.length (refCells M)) => move_ok ⟨#[109, 97, 105, 110]⟩ (.slice aM M.length cM) 1 M L n t A w' h HTM.out.rising HTM.out.few hn1 hE2 hML)
          have HE3 := hide hE3
          have HML := hide hML
          clear hE hM hTM hE2 hML hE3 hz
          go_wp2_with fail
          obtain ⟨W4, hW4⟩ : ∃ W4, ((w3.alloc (.cells (dgst dig0) 24)).setRow w3.heap.size (dgst A)) = W4 := ⟨_, rfl⟩
          rw [hW4] at HA4 HR4 HB4 ⊢
          clear hW4 q1 q2 q3
          refine (HMV.out _ HR4.out).mono ?_
          rintro e5 w5 ⟨aM, cM, rfl, hr5, hvb5, hb5⟩
          have hz5 := hb5.size
          have HA5 := hide (HA4.out.below hb5)
          have HR5 := hide (HR4.out.below hb5)
          have HM5 := hide hr5
          have HB5 := hide (HB4.out.trans (hb5.mono HB4.out.size))
          have hSz5 := lt_of_heap (HA5.out.get (k := S) (o := .cells (stV (.slice av L.length cv)) 29) (by simp))
          clear hb5 hr5 hvb5 HA4 HR4 HB4
          have HA6 := hide ((HA5.out.store (.cells st0 29) (stV (.slice aM M.length cM))).more (new_store w5 st0 (stV (.slice aM M.length cM)) 29))
          have HR6 := hide (reads_store HR5.out (.cells st0 29) (stV (.slice aM M.length cM)))
          have HM6 := hide (reads_store HM5.out (.cells st0 29) (stV (.slice aM M.length cM)))
          have HB6 := hide (below_store HB5.out HB5.out.size (.cells st0 29) (stV (.slice aM M.length cM)))
          have hk5 : (w5.alloc (.cells st0 29)).rowOk w5.heap.size 4 = true := by rw [rowOk_of 4 (heap_alloc_new w5 _)]; rfl
          have q1 := rowCells_of (HA6.out.get (k := w5.heap.size) (o := .cells (stV (.slice aM M.length cM)) 29) (by simp))
          have q2 := rowCells_of (HA6.out.get (k := w3.heap.size) (o := .cells (dgst A) 24) (by simp))
          have q3 := rowCells_of (HA6.out.get (k := w.heap.size) (o := .cells (dgst t) 24) (by simp))
          unfold stV st0 at q1 q2 q3 hk5
          go_wp2_with fail
          rw [show (#[.string ⟨#[]⟩, .slice none 0 0, .slice none 0 0, .int .u64 0] : Array Value) = st0 from rfl, show (#[.string ⟨#[109, 97, 105, 110]⟩, .slice aM M.length cM, .slice none 0 0, .int .u64 1] : Array Value) = stV (.slice aM M.length cM) from rfl]
          obtain ⟨W6, hW6⟩ : ∃ W6, ((w5.alloc (.cells st0 29)).setRow w5.heap.size (stV (.slice aM M.length cM))) = W6 := ⟨_, rfl⟩
          rw [hW6] at HA6 HR6 HM6 HB6 ⊢
          clear hW6 q1 q2 q3 hk5
          refine (HMU.out aM cM _ HM6.out).mono ?_
          rintro e7 w7 ⟨aU, cU, rfl, hr7, hvb7, hb7⟩
          have hz7 := hb7.size
          have HA7 := hide (HA6.out.below hb7)
          have HR7 := hide (HR6.out.below hb7)
          have HM7 := hide (HM6.out.below hb7)
          have HU7 := hide hr7
          have HB7 := hide (HB6.out.trans (hb7.mono HB6.out.size))
          clear hb7 hr7 hvb7 HA6 HR6 HM6 HB6
          have HA8 := hide ((HA7.out.store (.cells st0 29) (stV (.slice aU L.length cU))).more (new_store w7 st0 (stV (.slice aU L.length cU)) 29))
          have HR8 := hide (reads_store HR7.out (.cells st0 29) (stV (.slice aU L.length cU)))
          have HM8 := hide (reads_store HM7.out (.cells st0 29) (stV (.slice aU L.length cU)))
          have HU8 := hide (reads_store HU7.out (.cells st0 29) (stV (.slice aU L.length cU)))
          have HB8 := hide (below_store HB7.out HB7.out.size (.cells st0 29) (stV (.slice aU L.length cU)))
          have hk7 : (w7.alloc (.cells st0 29)).rowOk w7.heap.size 4 = true := by rw [rowOk_of 4 (heap_alloc_new w7 _)]; rfl
          have q1 := rowCells_of (HA8.out.get (k := w5.heap.size) (o := .cells (stV (.slice aM M.length cM)) 29) (by simp))
          have q2 := rowCells_of (HA8.out.get (k := w3.heap.size) (o := .cells (dgst A) 24) (by simp))
          have q3 := rowCells_of (HA8.out.get (k := w.heap.size + 1) (o := .cells (dgst o) 24) (by simp))
          unfold stV st0 at q1 q2 q3 hk7
          clear HM7 HR7 HU7 HA7 HB7
          have ho : ∀ w, (Op.equalIn 10000 24 (.agg (dgst o)) (.agg (dgst t))).run Try.prog w = .ok (o.bytes == t.bytes) w := fun w => run_equalIn_dgst o t w
          go_wp2_with fail
          rw [show (#[.string ⟨#[]⟩, .slice none 0 0, .slice none 0 0, .int .u64 0] : Array Value) = st0 from rfl, show (#[.string ⟨#[109, 97, 105, 110]⟩, .slice aU L.length cU, .slice none 0 0, .int .u64 1] : Array Value) = stV (.slice aU L.length cU) from rfl]
          obtain ⟨W8, hW8⟩ : ∃ W8, ((w7.alloc (.cells st0 29)).setRow w7.heap.size (stV (.slice aU L.length cU))) = W8 := ⟨_, rfl⟩
          rw [hW8] at HA8 HR8 HM8 HU8 HB8 ⊢
          clear hW8 q1 q2 q3 hk7
          cases heq : (o.bytes == t.bytes) with
          | true =>
            rw [heq] at ho
            have HE4 := hide (show moveE M n o A = 0 by rw [HE3.out, heq]; rfl)
            clear heq
            refine (move_ok ⟨#[109, 97, 105, 110]⟩ (.slice aM M.length cM) 1 M L n o A _ HM8.out HTM.out.rising HTM.out.few hn1 HE4.out HML.out).mono ?_
            rintro e9 w9 ⟨a9, c9, rfl, _, _, hb9⟩
            have hz9 := hb9.size
            have HA9 := hide (HA8.out.below hb9)
            have HR9 := hide (HR8.out.below hb9)
            have HU9 := hide (HU8.out.below hb9)
            have HB9 := hide (HB8.out.trans (hb9.mono HB8.out.size))
            clear hb9 HA8 HR8 HM8 HU8 HB8
            have HA10 := hide (HA9.out.store (.cells st0 29) (stV (.slice a9 L.length c9)))
            have HR10 := hide (reads_store HR9.out (.cells st0 29) (stV (.slice a9 L.length c9)))
            have HU10 := hide (reads_store HU9.out (.cells st0 29) (stV (.slice a9 L.length c9)))
            have HB10 := hide (below_store HB9.out HB9.out.size (.cells st0 29) (stV (.slice a9 L.length c9)))
            have hk9 : (w9.alloc (.cells st0 29)).rowOk w9.heap.size 4 = true := by rw [rowOk_of 4 (heap_alloc_new w9 _)]; rfl
            have q1 := rowCells_of (HA10.out.get (k := w7.heap.size) (o := .cells (stV (.slice aU L.length cU)) 29) (by simp))
            have q2 := rowCells_of (HA10.out.get (k := S) (o := .cells (stV (.slice av L.length cv)) 29) (by simp))
            have hSM := fun w' (hb : Below ((w9.alloc (.cells st0 29)).setRow w9.heap.size (stV (.slice a9 L.length c9))).heap.size ((w9.alloc (.cells st0 29)).setRow w9.heap.size (stV (.slice a9 L.length c9))) w') => same_self ⟨#[109, 97, 105, 110]⟩ (.slice aU L.length cU) (.slice av L.length cv) 1 L w' (HU10.out.below hb) (HR10.out.below hb) (by have := HT.out.few; omega)
            have HSM := hide hSM
            have r1 := HA10.out.get (k := w.heap.size) (o := .cells (dgst t) 24) (by simp)
            have r2 := HA10.out.get (k := w.heap.size + 1) (o := .cells (dgst o) 24) (by simp)
            have R1 := hide r1
            have R2 := hide r2
            clear r1 r2 hSM
            unfold stV st0 at q1 q2
            unfold st0 at hk9
            go_wp2_with fail
            refine (HSM.out _ (Below.refl _ _)).mono ?_
            rintro e11 w11 ⟨rfl, hb11⟩
            have q3 := rowCells_of ((hb11.block _ (lt_of_heap R2.out)).trans R2.out)
            have q4 := rowCells_of ((hb11.block _ (lt_of_heap R1.out)).trans R1.out)
            have HB11 := hide (HB10.out.trans (hb11.mono HB10.out.size))
            clear hb11 q1 q2 hk9
            go_wp2_with fail
            go_ret
            exact ⟨rfl, HB11.out⟩
          | false =>
            rw [heq] at ho
            have HE4 := hide (show moveE M n o A = 29 by rw [HE3.out, heq]; rfl)
            clear heq
            refine (move_no ⟨#[109, 97, 105, 110]⟩ (.slice aM M.length cM) 1 M n o A 29 _ HM8.out HTM.out.rising HTM.out.few hn1 HE4.out (by decide)).mono ?_
            rintro e9 w9 ⟨rfl, hb9⟩
            have hz9 := hb9.size
            have HA9 := hide (HA8.out.below hb9)
            have HR9 := hide (HR8.out.below hb9)
            have HU9 := hide (HU8.out.below hb9)
            have HB9 := hide (HB8.out.trans (hb9.mono HB8.out.size))
            clear hb9 HA8 HR8 HM8 HU8 HB8
            have HA10 := hide (HA9.out.store (.cells st0 29) (st0))
            have HR10 := hide (reads_store HR9.out (.cells st0 29) (st0))
            have HU10 := hide (reads_store HU9.out (.cells st0 29) (st0))
            have HB10 := hide (below_store HB9.out HB9.out.size (.cells st0 29) (st0))
            have hk9 : (w9.alloc (.cells st0 29)).rowOk w9.heap.size 4 = true := by rw [rowOk_of 4 (heap_alloc_new w9 _)]; rfl
            have q1 := rowCells_of (HA10.out.get (k := w7.heap.size) (o := .cells (stV (.slice aU L.length cU)) 29) (by simp))
            have q2 := rowCells_of (HA10.out.get (k := S) (o := .cells (stV (.slice av L.length cv)) 29) (by simp))
            have hSM := fun w' (hb : Below ((w9.alloc (.cells st0 29)).setRow w9.heap.size (st0)).heap.size ((w9.alloc (.cells st0 29)).setRow w9.heap.size (st0)) w') => same_self ⟨#[109, 97, 105, 110]⟩ (.slice aU L.length cU) (.slice av L.length cv) 1 L w' (HU10.out.below hb) (HR10.out.below hb) (by have := HT.out.few; omega)
            have HSM := hide hSM
            have r1 := HA10.out.get (k := w.heap.size) (o := .cells (dgst t) 24) (by simp)
            have r2 := HA10.out.get (k := w.heap.size + 1) (o := .cells (dgst o) 24) (by simp)
            have R1 := hide r1
            have R2 := hide r2
            clear r1 r2 hSM
            unfold stV st0 at q1 q2
            unfold st0 at hk9
            have hst0 : st0 = #[.string ⟨#[]⟩, .slice none 0 0, .slice none 0 0, .int .u64 0] := rfl
            go_wp2_with fail
            refine (HSM.out _ (Below.refl _ _)).mono ?_
            rintro e11 w11 ⟨rfl, hb11⟩
            have q3 := rowCells_of ((hb11.block _ (lt_of_heap R2.out)).trans R2.out)
            have q4 := rowCells_of ((hb11.block _ (lt_of_heap R1.out)).trans R1.out)
            have HB11 := hide (HB10.out.trans (hb11.mono HB10.out.size))
            clear hb11 q1 q2 hk9
            go_wp2_with fail
            go_ret
            exact ⟨rfl, HB11.out⟩
        · have HMV := hide (fun w' (h : Reads w' 33 (.slice av L.length cv) L.length (refCells L)) => move_no ⟨#[109, 97, 105, 110]⟩ (.slice av L.length cv) 1 L n A t E w' h HT.out.rising HT.out.few hn1 hE h0)
          have hbad := move_bad L HT.out n t hz (by rw [hA.out, hE]; exact h0)
          rw [hA.out, hE] at hbad
          have HBD := hide hbad
          clear hbad hE hz
          go_wp2_with fail
          obtain ⟨W4, hW4⟩ : ∃ W4, ((w3.alloc (.cells (dgst dig0) 24)).setRow w3.heap.size (dgst A)) = W4 := ⟨_, rfl⟩
          rw [hW4] at HA4 HR4 HB4 ⊢
          clear hW4 q1 q2 q3
          refine (HMV.out _ HR4.out).mono ?_
          rintro e5 w5 ⟨rfl, hb5⟩
          have HA5 := hide (HA4.out.below hb5)
          have HB5 := hide (HB4.out.trans (hb5.mono HB4.out.size))
          clear hb5
          have hk5 : (w5.alloc (.cells st0 29)).rowOk w5.heap.size 4 = true := by rw [rowOk_of 4 (heap_alloc_new w5 _)]; rfl
          have s5 := (HA5.out.store (.cells st0 29) st0).get (k := S) (o := .cells (stV (.slice av L.length cv)) 29) (by simp)
          have hc5 : ((w5.alloc (.cells st0 29)).setRow w5.heap.size st0).cell? ⟨S, 1, none⟩ = some (.slice av L.length cv) := by rw [cell_of_row _ _ _ _ _ _ s5]; rfl
          have HB6 := hide (below_store HB5.out HB5.out.size (.cells st0 29) st0)
          clear s5 HA4 HR4 HB4
          unfold st0 at hk5 hc5
          have hst0 : st0 = #[.string ⟨#[]⟩, .slice none 0 0, .slice none 0 0, .int .u64 0] := rfl
          have hE0 : (E != 0) = true := by simpa using h0
          rcases HBD.out with h12 | ⟨h6, h16⟩
          · subst h12
            go_wp2_with fail
            go_ret
            exact ⟨rfl, HB6.out⟩
          · subst h6
            have h16i : (L.length : Int) = 16 := by omega
            go_wp2_with fail
            go_ret
            exact ⟨rfl, HB6.out⟩
theorem walk (v0 : Value) (L0 : List ActT) (s : ByteArray) (t o : Dig) (w : World) (R0 : Reads w 35 v0 L0.length (actCells L0)) (_B0 : ∀ x ∈ L0, x.name.size ≤ maxLen) (hs : s.size ≤ maxLen) :
    Calls Try.prog 3 #[v0, .string s, .agg (dgst t), .agg (dgst o)] w fun e w' => e = .returned (.bool true) ∧ Below w.heap.size w w' := by
  obtain ⟨l, rfl, hl⟩ := list_name s
  exact walk_list v0 L0 l t o w R0
end Go.Proofs.Ytjmbnfcjambdkaa.refsMoved
