/- refs.New; the chapter's example. -/
import Derived.Test.YtjmbnfcjambdkaaRefsLawPure
import Derived.Test.YtjmbnfcjambdkaaRefsSame
namespace Go.Proofs.Ytjmbnfcjambdkaa
open Go.RowKit
def mainL : List UInt8 := [109, 97, 105, 110]
set_option maxRecDepth 20000 in
set_option maxHeartbeats 1000000 in
theorem new_any (w : World) : Calls Try.prog 12 #[] w fun e w' => e = .returned (.agg #[.string ⟨#[109, 97, 105, 110]⟩, .slice none 0 0, .slice none 0 0, .int .u64 1]) ∧ Below w.heap.size w w' := by
  have hk : (w.alloc (.cells #[.string ⟨#[]⟩, .slice none 0 0, .slice none 0 0, .int .u64 0] 29)).rowOk w.heap.size 4 = true := by
    rw [rowOk_of 4 (heap_alloc_new w _)]; rfl
  go_enter Try.func12, Try.ntmps12
  go_wp2_with fail
  refine ret_st rfl w.heap.size _ ?_ rfl (rowCells_setRow_same (n := 4) _ hk) rfl ⟨rfl, below_setRow ((Below.refl _ w).alloc (Nat.le_refl _) _) (Nat.le_refl _) _⟩
  rfl
def digOne : Dig := ⟨1 :: List.replicate 31 0, by simp⟩
theorem run_build_one (w : World) : (Instr.build 24 #[(0, .int .u8 1)]).run Try.prog w = .ok (.agg (dgst digOne)) w := by kernel_rfl
@[go_sem ↓] theorem wp_build_one (dst : Option Tmp) (ty : TypeId) (pos : String) (after : Array Edge) (guard : Option (Nat × Bool)) (a : Act) (w : World) (K : Act → World → Prop) (Q : Exit → Act → World → Prop) :
    Oper.wp Try.prog ⟨dst, .build 24 #[(0, .const (.int .u8 1))], ty, pos, after, guard⟩ a w K Q = K (a.put dst (.agg (dgst digOne))) w := by
  have h := run_build_one w
  unfold Oper.wp execOp
  generalize dgst digOne = V at h ⊢
  simp only [List.map_toArray, List.map_cons, List.map_nil, Act.eval, Sem.run_bind, h, Result.andThen_ok, Sem.run_pure]
  rfl
theorem one_full : zeroD digOne = false := by decide
theorem move_first : moveE [] mainL dig0 digOne = 0 ∧ setR [] mainL digOne = ([(mainL, digOne)], 0) := by
  have h1 : setR [] mainL digOne = ([(mainL, digOne)], 0) := by
    rw [setR_full _ _ _ one_full]; rfl
  refine ⟨?_, h1⟩
  have h2 : moveE [] mainL (atI [] mainL) digOne = 0 := by
    rw [moveE_at, h1]; decide
  exact h2
theorem at_first : atI [(mainL, digOne)] mainL = digOne ∧ foundI [(mainL, digOne)] mainL = true := ⟨mid_at [] [] mainL digOne, mid_found [] [] mainL digOne⟩
set_option maxRecDepth 20000 in
set_option maxHeartbeats 2000000 in
theorem awake24_any (w : World) : Calls Try.prog 11 #[] w fun e w' => e = .returned (.bool true) ∧ Below w.heap.size w w' := by
  have HMV := hide (fun w' => move_any ⟨#[109, 97, 105, 110]⟩ (.slice none 0 0) 1 [] mainL dig0 digOne w' (show Reads w' 33 (.slice none 0 0) ([] : List RefT).length (refCells []) from Reads.nil w' 33) Tab.nil.rising (by simp) (by decide))
  obtain ⟨m1, m2⟩ := move_first
  rw [m1, m2] at HMV
  clear m1 m2
  obtain ⟨f1, f2⟩ := at_first
  have hq : ∀ w, (Op.equalIn 10000 24 (.agg (dgst digOne)) (.agg (dgst digOne))).run Try.prog w = .ok true w := fun w => by rw [run_equalIn_dgst, beq_self_eq_true]
  have hmm : ((⟨#[109, 97, 105, 110]⟩ : ByteArray).toList == (⟨#[109, 97, 105, 110]⟩ : ByteArray).toList) = true := beq_self_eq_true _
  go_enter Try.func11, Try.ntmps11
  go_wp2_with fail
  refine (new_any _).mono ?_
  rintro e w1 ⟨rfl, hb1⟩
  have HB1 := hide hb1
  clear hb1
  go_wp2_with fail
  refine (HMV.out _).mono ?_
  rintro e w2 ⟨⟨h, _⟩ | ⟨_, v', rfl, hr, _⟩, hb2⟩
  · exact absurd rfl h
  have HR := hide hr
  have HB2 := hide (HB1.out.trans (hb2.mono HB1.out.size))
  clear hr hb2
  have HBR := hide (fun w' (hh : Reads w' 33 v' 1 (refCells [(mainL, digOne)])) => branch_any ⟨#[109, 97, 105, 110]⟩ v' (.slice none 0 0) 1 [(mainL, digOne)] mainL w' hh (Tab.nil.set mainL digOne (by rw [move_first.2])  |> fun h => by rw [move_first.2] at h; exact h.rising) (by simp))
  rw [f1, f2] at HBR
  clear f1 f2
  obtain ⟨a1, c1, rfl⟩ := HR.out.shape
  have hn := new_store w2 #[.string ⟨#[]⟩, .slice none 0 0, .slice none 0 0, .int .u64 0] #[.string ⟨#[109, 97, 105, 110]⟩, .slice a1 1 c1, .slice none 0 0, .int .u64 1] 29
  have hk : (w2.alloc (.cells #[.string ⟨#[]⟩, .slice none 0 0, .slice none 0 0, .int .u64 0] 29)).rowOk w2.heap.size 4 = true := by
    rw [rowOk_of 4 (heap_alloc_new w2 _)]; rfl
  have ra := rowCells_of hn
  have HBp := hide (below_store HB2.out HB2.out.size (.cells #[.string ⟨#[]⟩, .slice none 0 0, .slice none 0 0, .int .u64 0] 29) #[.string ⟨#[109, 97, 105, 110]⟩, .slice a1 1 c1, .slice none 0 0, .int .u64 1])
  have HRp := hide (reads_store HR.out (.cells #[.string ⟨#[]⟩, .slice none 0 0, .slice none 0 0, .int .u64 0] 29) #[.string ⟨#[109, 97, 105, 110]⟩, .slice a1 1 c1, .slice none 0 0, .int .u64 1])
  have HN := hide hn
  clear hn
  go_wp2_with fail
  clear hk
  obtain ⟨W1, hW1⟩ : ∃ W1, ((w2.alloc (.cells #[.string ⟨#[]⟩, .slice none 0 0, .slice none 0 0, .int .u64 0] 29)).setRow w2.heap.size #[.string ⟨#[109, 97, 105, 110]⟩, .slice a1 1 c1, .slice none 0 0, .int .u64 1]) = W1 := ⟨_, rfl⟩
  rw [hW1] at ra HN HBp HRp ⊢
  clear hW1
  refine (HBR.out _ HRp.out).mono ?_
  rintro e w3 ⟨rfl, hb3⟩
  have z3 := hb3.size
  have HN3 := hide ((hb3.block _ (lt_of_heap HN.out)).trans HN.out)
  have HB3 := hide (HBp.out.trans (hb3.mono HBp.out.size))
  clear hb3 HBp HRp ra
  have p0 := kept_store (o' := .cells (dgst dig0) 24) (cs := dgst digOne) HN3.out
  have hc0 : ((w3.alloc (.cells (dgst dig0) 24)).setRow w3.heap.size (dgst digOne)).cell? ⟨w2.heap.size, 0, none⟩ = some (.string ⟨#[109, 97, 105, 110]⟩) := by rw [cell_of_row _ _ _ _ _ _ p0]; rfl
  have hr4 := rowCells_of (new_store w3 (dgst dig0) (dgst digOne) 24)
  have HBp := hide (below_store HB3.out HB3.out.size (.cells (dgst dig0) 24) (dgst digOne))
  clear p0
  go_wp2_with fail
  go_ret
  exact ⟨rfl, HBp.out⟩
end Go.Proofs.Ytjmbnfcjambdkaa
