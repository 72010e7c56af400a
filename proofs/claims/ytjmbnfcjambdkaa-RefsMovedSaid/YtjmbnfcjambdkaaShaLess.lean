/- sha.Less: the order of two digests' bytes. -/
import Derived.Test.YtjmbnfcjambdkaaHexOrder
import Derived.Test.YtjmbnfcjambdkaaWireIn3
import Derived.Lib.Bytealg
namespace Go.Proofs.Ytjmbnfcjambdkaa
open Go.RowKit
theorem run_loadBytes {P : Program} (w : World) : ∀ (l : List UInt8) (b o : Nat) (acc : List UInt8), (∀ (j : Nat) (c : UInt8), l[j]? = some c → w.cell? ⟨b, o + j, none⟩ = some (.int .u8 (c.toNat : Int))) →
    (Extern.Bytes.loadBytes ⟨b, o, none⟩ l.length ⟨acc.toArray⟩).run P w = .ok ⟨(acc ++ l).toArray⟩ w
  | [], b, o, acc, _ => by simp [Extern.Bytes.loadBytes, Sem.run_pure]
  | c :: l, b, o, acc, h => by
    have h0 := h 0 c rfl
    have ih := run_loadBytes (P := P) w l b (o + 1) (acc ++ [c]) (fun j d hd => by have := h (j + 1) d hd; rwa [show o + (j + 1) = o + 1 + j by omega] at this)
    rw [List.length_cons, Extern.Bytes.loadBytes]
    simp only [Sem.run_bind, run_load, Nat.add_zero] at h0 ⊢
    rw [h0]
    simp only [Result.andThen]
    have e : (⟨acc.toArray⟩ : ByteArray).push ((c.toNat : Int).toNat.toUInt8) = ⟨(acc ++ [c]).toArray⟩ := by
      simp [ByteArray.push]
    rw [e]
    have := ih
    simpa [Addr.add] using this
theorem run_bytesOf_row {P : Program} (w : World) (l : List UInt8) (b o n c : Nat) (hn : n = l.length) (h : ∀ (j : Nat) (c : UInt8), l[j]? = some c → w.cell? ⟨b, o + j, none⟩ = some (.int .u8 (c.toNat : Int))) :
    (Extern.Bytes.bytesOf (.slice (some ⟨b, o, none⟩) n c)).run P w = .ok ⟨l.toArray⟩ w := by
  subst hn
  exact run_loadBytes (P := P) w l b o [] h
theorem compare_less : ∀ a b : List UInt8, decide (Lib.compareBytes a b < 0) = Op.bytesLess a b
  | [], [] => rfl
  | [], _ :: _ => by simp [Lib.compareBytes, Op.bytesLess]
  | _ :: _, [] => by simp [Lib.compareBytes, Op.bytesLess]
  | x :: a, y :: b => by
    have ih := compare_less a b
    unfold Lib.compareBytes Op.bytesLess
    by_cases h : x < y
    · simp [h]
    · by_cases h2 : y < x
      · have : x ≠ y := fun e => by subst e; exact UInt8.lt_irrefl _ h2
        simp [h, h2, this]
      · have : x = y := UInt8.le_antisymm (UInt8.not_lt.1 h2) (UInt8.not_lt.1 h)
        simp [h, h2, this, ih]
theorem run_compare_rows (w : World) (a b : List UInt8) (p q m n c d : Nat) (hm : m = a.length) (hn : n = b.length)
    (ha : ∀ (j : Nat) (c : UInt8), a[j]? = some c → w.cell? ⟨p, 0 + j, none⟩ = some (.int .u8 (c.toNat : Int))) (hb : ∀ (j : Nat) (c : UInt8), b[j]? = some c → w.cell? ⟨q, 0 + j, none⟩ = some (.int .u8 (c.toNat : Int))) :
    (Extern.BytealgCompare.compare #[.slice (some ⟨p, 0, none⟩) m c, .slice (some ⟨q, 0, none⟩) n d]).run Try.prog w = .ok (.int .i64 (Lib.compareBytes a b)) w := by
  change Sem.run Try.prog (do pure (goInt (Extern.BytealgCompare.cmp (← Extern.Bytes.bytesOf (.slice (some ⟨p, 0, none⟩) m c)) (← Extern.Bytes.bytesOf (.slice (some ⟨q, 0, none⟩) n d))))) w = _
  simp only [Sem.run_bind, run_bytesOf_row w a p 0 m c hm ha, run_bytesOf_row w b q 0 n d hn hb, Sem.run_pure, Result.andThen]
  rw [Lib.cmp_eq]
  rfl
set_option maxRecDepth 20000 in
set_option maxHeartbeats 1000000 in
theorem compare_any (w : World) (a b : List UInt8) (p q m n c d : Nat) (hm : m = a.length) (hn : n = b.length)
    (ha : ∀ (j : Nat) (c : UInt8), a[j]? = some c → w.cell? ⟨p, 0 + j, none⟩ = some (.int .u8 (c.toNat : Int))) (hb : ∀ (j : Nat) (c : UInt8), b[j]? = some c → w.cell? ⟨q, 0 + j, none⟩ = some (.int .u8 (c.toNat : Int))) :
    Calls Try.prog 68 #[.slice (some ⟨p, 0, none⟩) m c, .slice (some ⟨q, 0, none⟩) n d] w fun e w' => e = .returned (.int .i64 (Lib.compareBytes a b)) ∧ w' = w := by
  subst hm hn
  have hrun := run_compare_rows w a b p q a.length b.length c d rfl rfl ha hb
  go_enter Try.func68, Try.ntmps68
  go_wp2
  rw [run_callFunc_extern Try.func110 (by kernel_rfl) (by kernel_rfl) (by kernel_rfl) (e := Extern.BytealgCompare.compare) (by kernel_rfl), hrun]
  simp only [Result.andThen]
  rw [Oper.upon_value]
  go_wp2
  go_ret
  exact ⟨rfl, rfl⟩
theorem cells_dgst {w : World} {b : Nat} {d : Dig} {T : TypeId} {fr : Nat × Nat} (h : w.heap[b]? = some (.cells (dgst d) T fr)) (j : Nat) (c : UInt8) (hc : d.bytes[j]? = some c) : w.cell? ⟨b, 0 + j, none⟩ = some (.int .u8 (c.toNat : Int)) := by
  obtain ⟨h1, h2⟩ := List.getElem?_eq_some_iff.1 hc
  rw [Nat.zero_add, cell_of_row w b j _ _ _ h, dgst_get d j h1, h2]
set_option maxRecDepth 20000 in
set_option maxHeartbeats 1000000 in
theorem less_any (a b : Dig) (w : World) :
    Calls Try.prog 30 #[.agg (dgst a), .agg (dgst b)] w fun e w' => e = .returned (.bool (Op.bytesLess a.bytes b.bytes)) ∧ Below w.heap.size w w' := by
  have HL := hide (compare_less a.bytes b.bytes)
  go_enter Try.func30, Try.ntmps30
  go_wp2_with fail
  have hA := hide (heap_alloc2_old w (.cells (dgst a) 24) (.cells (dgst b) 24))
  have hB := hide (heap_alloc2_new w (.cells (dgst a) 24) (.cells (dgst b) 24))
  have hz := hide (Below.alloc ((Below.refl w.heap.size w).alloc (Nat.le_refl _) (.cells (dgst a) 24)) (by simp) (.cells (dgst b) 24))
  generalize (w.alloc (.cells (dgst a) 24)).alloc (.cells (dgst b) 24) = W at *
  have HC := hide (fun (x : After W) => (compare_any x.world a.bytes b.bytes w.heap.size (w.heap.size + 1) 32 32 32 32 a.len.symm b.len.symm (cells_dgst ((x.below.block _ (lt_of_heap hA.out)).trans hA.out)) (cells_dgst ((x.below.block _ (lt_of_heap hB.out)).trans hB.out))).mono fun e w' h => (⟨h.1, h.2.symm⟩ : e = _ ∧ x.world = w'))
  refine wp_region_after_lit (by kernel_rfl) (by kernel_rfl) ?_
  repeat (go_big_quiet_step ((go_at_call 68; exact Calls.quiet_after_same (HC.out _))))
  refine wpQuiet_nil ?_
  intro _ hw'
  obtain ⟨xw, hw''⟩ := hw'
  subst hw''
  have hbx := xw.below
  go_wp2_with fail
  go_ret
  refine ⟨?_, hz.out.trans (hbx.mono (by have := hz.out.size; omega))⟩
  rw [← HL.out]; rfl
end Go.Proofs.Ytjmbnfcjambdkaa
