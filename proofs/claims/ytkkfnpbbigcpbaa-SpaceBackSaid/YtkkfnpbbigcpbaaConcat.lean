/- slices.Concat at rows of uint32: all of them, one behind the other, in a row of its own. -/
import Derived.Test.YtkkfnpbbigcpbaaGrow
namespace Go.Proofs.Ytkkfnpbbigcpbaa
open Go.RowKit

/-- A slice of uint32: where it lies, its capacity, what it reads. -/
structure Sl where
  a : Option Addr
  c : Nat
  xs : List Int
def Sl.val (s : Sl) : Value := .slice s.a s.xs.length s.c
/-- The rows of the first k of them. -/
def catTo (L : List Sl) (k : Nat) : List Int := (L.take k).flatMap Sl.xs
theorem catTo_succ (L : List Sl) (k : Nat) (h : k < L.length) : catTo L (k + 1) = catTo L k ++ L[k].xs := by
  rw [catTo, List.take_succ_eq_append_getElem h, List.flatMap_append]; simp [catTo]
theorem catTo_le (L : List Sl) (k : Nat) : (catTo L k).length ≤ (catTo L L.length).length := by
  have h : L = L.take k ++ L.drop k := (List.take_append_drop k L).symm
  have : catTo L L.length = catTo L k ++ (L.drop k).flatMap Sl.xs := by
    rw [catTo, List.take_length, catTo, ← List.flatMap_append, List.take_append_drop]
  rw [this]; simp
theorem catTo_next (L : List Sl) (k : Nat) (h : k < L.length) : (catTo L k).length + L[k].xs.length ≤ (catTo L L.length).length := by
  have := catTo_le L (k + 1)
  rw [catTo_succ L k h, List.length_append] at this
  exact this

set_option maxHeartbeats 1000000 in
set_option maxRecDepth 20000 in
theorem concat_u32 (g c : Nat) (L : List Sl) (w : World) (hL : L.length ≤ 1000) (hcells : ∀ j (h : j < L.length), w.cell? ⟨g, j, none⟩ = some L[j].val) (hr : ∀ j (h : j < L.length), Reads w 1 L[j].val L[j].xs.length (nums L[j].xs))
    (hx : (catTo L L.length).length * 4 ≤ 140737488355328) :
    Calls Try.prog 92 #[.slice (some ⟨g, 0, none⟩) L.length c] w fun e w' => (∃ a c, e = .returned (.slice a (catTo L L.length).length c) ∧ w'.ownsRow w.heap.size 28 1 (.slice a (catTo L L.length).length c) (catTo L L.length).length (nums (catTo L L.length))) ∧ Below w.heap.size w w' := by
  obtain ⟨i0, hi, hz0, hz1, hz2⟩ := info_parts info28
  have HI := hide hi
  have Hz0 := hide hz0
  have Hz1 := hide hz1
  have Hz2 := hide hz2
  have HC := hide hcells
  have HR := hide hr
  clear hi hz0 hz1 hz2 hcells hr
  go_enter Try.func92, Try.ntmps92
  go_upto_block 0 with fail
  go_cut [3] (fun s wx => s = .int .i64 ((catTo L L.length).length : Int) ∧ w = wx)
  case first =>
    go_wp2_with fail
    go_loop [11, 3, 5] (fun i s _ => ∃ k : Nat, k ≤ L.length ∧ i = .int .i64 k ∧ s = .int .i64 ((catTo L k).length : Int)) (fun i _ _ => L.length - (intOf i).toNat)
    case atStart => exact ⟨0, by omega, rfl, rfl⟩
    case round =>
      obtain ⟨k, hk, rfl, rfl⟩ := hrel
      by_cases hlt : k < L.length
      · have hcell : w.cell? ⟨g, k, none⟩ = some (.slice L[k].a L[k].xs.length L[k].c) := HC.out k hlt
        have HS := hide (congrArg List.length (catTo_succ L k hlt))
        have hle := catTo_next L k hlt
        go_wp2_with fail
        go_round
        case rel => exact ⟨k + 1, by omega, by go_num, by rw [HS.out, List.length_append]; go_num⟩
        case measure => simp [intOf]; omega
      · go_wp2_with fail
        go_meet
        obtain rfl : k = L.length := by omega
        exact ⟨rfl, rfl⟩
  case rest =>
    obtain ⟨rfl, rfl⟩ := hcut
    go_wp2_with (go_at_call 109; refine (grow_u32 _ _ hx).mono ?_; rintro e w1 ⟨⟨a1, c1, rfl, hown1⟩, hb1⟩)
    have hcap := hx
    go_loopw [27, 6, 8] (fun i v _ wr => ∃ (k : Nat) (a : Option Addr) (c : Nat), k ≤ L.length ∧ i = .int .i64 k ∧ v = .slice a (catTo L k).length c ∧ wr.ownsRow w.heap.size 28 1 (.slice a (catTo L k).length c) (catTo L k).length (nums (catTo L k)) ∧ Below w.heap.size w wr) (fun i _ _ _ => L.length - (intOf i).toNat)
    case atStart => exact ⟨0, a1, c1, by omega, rfl, rfl, hown1, hb1⟩
    case round =>
      obtain ⟨k, a, c', hk, rfl, rfl, hown, hb⟩ := hrel
      have HO := hide hown
      have HB := hide hb
      clear hown hb hb1 hown1
      by_cases hlt : k < L.length
      · have hcell : wr.cell? ⟨g, k, none⟩ = some (.slice L[k].a L[k].xs.length L[k].c) := by
          rw [HB.out.cell (p := ⟨g, k, none⟩) (block_lt_of_cell (HC.out k hlt))]; exact HC.out k hlt
        have HS := hide (catTo_succ L k hlt)
        have hle := catTo_next L k hlt
        have C1 := hide (show (catTo L k).length + L[k].xs.length ≤ maxLen by unfold maxLen; omega)
        have C2 := hide (show ((catTo L k).length + L[k].xs.length) * 4 ≤ 140737488355328 by omega)
        go_wp2_with (at_builtin; refine wpList_append_reads rfl _ _ 52 rfl w.heap.size 28 i0 (.int .u32 0) 1 4 Try.underlying52 HI.out Hz0.out Hz1.out Hz2.out rfl (by decide) _ (catTo L k).length (nums (catTo L k)) rfl HO.out _ L[k].xs.length (nums L[k].xs) rfl ((HR.out k hlt).below HB.out) C1.out C2.out HB.out.size ?_; intro a' c'' w' hown' hg)
        go_roundw
        case rel =>
          have hl : (catTo L (k + 1)).length = (catTo L k).length + L[k].xs.length := by rw [HS.out, List.length_append]
          refine ⟨k + 1, a', c'', by omega, by go_num, by rw [hl], ?_, HB.out.grown hg HB.out.size (owned_ge HO.out)⟩
          rw [hl, HS.out, nums_append]
          exact hown'
        case measure => simp [intOf]; omega
      · go_wp2_with fail
        go_ret
        obtain rfl : k = L.length := by omega
        exact ⟨⟨a, c', rfl, HO.out⟩, HB.out⟩
theorem concat3 (g c : Nat) (a1 : Option Addr) (n1 c1 : Nat) (x1 : List Int) (a2 : Option Addr) (n2 c2 : Nat) (x2 : List Int) (a3 : Option Addr) (n3 c3 : Nat) (x3 : List Int) (w : World)
    (l1 : x1.length = n1) (l2 : x2.length = n2) (l3 : x3.length = n3)
    (h1 : w.cell? ⟨g, 0, none⟩ = some (.slice a1 n1 c1)) (h2 : w.cell? ⟨g, 1, none⟩ = some (.slice a2 n2 c2)) (h3 : w.cell? ⟨g, 2, none⟩ = some (.slice a3 n3 c3))
    (r1 : Reads w 1 (.slice a1 n1 c1) n1 (nums x1)) (r2 : Reads w 1 (.slice a2 n2 c2) n2 (nums x2)) (r3 : Reads w 1 (.slice a3 n3 c3) n3 (nums x3)) (hx : (n1 + n2 + n3) * 4 ≤ 140737488355328) :
    Calls Try.prog 92 #[.slice (some ⟨g, 0, none⟩) 3 c] w fun e w' => (∃ a c, e = .returned (.slice a (n1 + n2 + n3) c) ∧ w'.ownsRow w.heap.size 28 1 (.slice a (n1 + n2 + n3) c) (n1 + n2 + n3) (nums (x1 ++ x2 ++ x3))) ∧ Below w.heap.size w w' := by
  subst l1; subst l2; subst l3
  have hc : catTo [⟨a1, c1, x1⟩, ⟨a2, c2, x2⟩, ⟨a3, c3, x3⟩] 3 = x1 ++ x2 ++ x3 := by simp [catTo]
  have hl : (catTo [⟨a1, c1, x1⟩, ⟨a2, c2, x2⟩, ⟨a3, c3, x3⟩] 3).length = x1.length + x2.length + x3.length := by rw [hc]; simp; omega
  have := concat_u32 g c [⟨a1, c1, x1⟩, ⟨a2, c2, x2⟩, ⟨a3, c3, x3⟩] w (by simp) (fun j h => match j, h with | 0, _ => h1 | 1, _ => h2 | 2, _ => h3) (fun j h => match j, h with | 0, _ => r1 | 1, _ => r2 | 2, _ => r3)
    (by show (catTo _ 3).length * 4 ≤ _; rw [hl]; exact hx)
  simp only [List.length_cons, List.length_nil, Nat.reduceAdd] at this
  rw [hc, List.length_append, List.length_append] at this
  exact this
end Go.Proofs.Ytkkfnpbbigcpbaa
