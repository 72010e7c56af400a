/- wire.Out: Text and Digest. -/
import Derived.Test.YtjmbnfcjambdkaaWireOut
namespace Go.Proofs.Ytjmbnfcjambdkaa
open Go.RowKit

/-- A text as it is laid: how long it is, then it. -/
def lenText (x : ByteArray) : List UInt8 := be 4 x.size ++ x.data.toList
theorem lenText_length (x : ByteArray) : (lenText x).length = 4 + x.size := by
  have : x.data.toList.length = x.size := by simp
  rw [lenText, List.length_append, be_length, this]
theorem lenText_le (xs : List ByteArray) (m : Nat) (h : ∀ x ∈ xs, x.size ≤ m) : ∀ x ∈ xs, (lenText x).length ≤ 4 + m := fun x hx => by
  have := h x hx
  rw [lenText_length]; omega
theorem outFour1 (T : List UInt8) (n : Nat) (v : Value) (B : List UInt8) (hB : B = T ++ be 4 n) (w : World) (hr : Reads w 1 v 1 [.int .u32 (n : Int)]) (hn : n < 4294967296) (hs : T.length + 4 ≤ 1000000000) :
    Calls Try.prog 44 #[.agg #[.string ⟨T.toArray⟩], v] w fun e w' => e = .returned (.agg #[.string ⟨B.toArray⟩]) ∧ Below w.heap.size w w' := by
  subst hB
  have := outFour T v [(n : Int)] w hr (fun m hm => by simp at hm; subst hm; simp [Lit.wf, IntKind.min, IntKind.max, IntKind.signed, IntKind.bits]; omega) (by simpa using hs)
  rw [show [(n : Int)].flatMap (fun n => be 4 n.toNat) = be 4 n by simp] at this
  exact this
theorem outRaw1 (T : List UInt8) (x : ByteArray) (v : Value) (B : List UInt8) (hB : B = T ++ x.data.toList) (w : World) (hr : Reads w 1 v 1 [.string x]) (hs : T.length + x.size ≤ 1000000000) :
    Calls Try.prog 111 #[.agg #[.string ⟨T.toArray⟩], v] w fun e w' => e = .returned (.agg #[.string ⟨B.toArray⟩]) ∧ Below w.heap.size w w' := by
  subst hB
  have := outRaw T v [x] w hr (by simp) (by simpa [raw] using hs)
  rw [show raw [x] = x.data.toList by simp [raw]] at this
  exact this
set_option maxRecDepth 20000 in
set_option maxHeartbeats 1600000 in
theorem outText (s : List UInt8) (v : Value) (xs : List ByteArray) (m : Nat) (w : World) (hr : Reads w 1 v xs.length (strs xs)) (hx : ∀ x ∈ xs, x.size ≤ m) (hs : s.length + (4 + m) * xs.length ≤ 1000000000) (hm : m ≤ 900000000) :
    Calls Try.prog 70 #[outv s, v] w fun e w' => e = .returned (outv (s ++ xs.flatMap lenText)) ∧ Below w.heap.size w w' := by
  unfold outv
  obtain ⟨a0, c0, rfl⟩ := hr.shape
  have HRD := hide hr
  have HX := hide hx
  have HS := hide hs
  have hxl : xs.length ≤ 1000000000 := by
    have := Nat.le_mul_of_pos_left xs.length (show 0 < 4 + m by omega)
    omega
  clear hr hx hs
  go_enter Try.func70, Try.ntmps70
  go_wp2
  go_loopw [9, 6] (fun i _ wr => ∃ k : Nat, k ≤ xs.length ∧ i = .int .i64 k ∧ wr.heap[w.heap.size]? = some (.cells #[.string ⟨(s ++ (xs.take k).flatMap lenText).toArray⟩] 80 (0, 0)) ∧ wr.heap[w.heap.size + 1]? = some (.cells #[.string ⟨#[]⟩] 80 (0, 0)) ∧ Below w.heap.size w wr) (fun i _ _ => xs.length - (intOf i).toNat)
  case atStart =>
    refine ⟨0, by omega, rfl, ?_, ?_, ((Below.refl _ w).alloc (Nat.le_refl _) _).alloc (by simp) _⟩
    · rw [heap_alloc_old _ _ (by simp), heap_alloc_new]; simp
    · have := heap_alloc_new (w.alloc (.cells #[.string ⟨s.toArray⟩] 80)) (.cells #[.string ⟨#[]⟩] 80)
      rw [World.size_alloc] at this
      exact this
  case round =>
    obtain ⟨k, hk, rfl, hr, hr2, hb⟩ := hrel
    have HR := hide hr
    have HR2 := hide hr2
    clear hr hr2
    by_cases hlt : k < xs.length
    · obtain ⟨b, o, c2, hv⟩ := HRD.out.isRow (by omega)
      cases hv
      have hlen := flat_take_len lenText (4 + m) xs k (lenText_le xs m HX.out)
      have hxm := HX.out xs[k] (List.getElem_mem hlt)
      have hroom : s.length + ((xs.take k).flatMap lenText).length + (4 + m) ≤ 1000000000 + (4 + m) := by have := HS.out; omega
      obtain ⟨T, hT⟩ : ∃ T, Hid (s ++ (xs.take k).flatMap lenText = T) := ⟨_, hide rfl⟩
      rw [hT.out] at HR
      have hTl : T.length + (4 + m) ≤ 1000000000 := by
        have h1 := flat_take_len lenText (4 + m) (xs.take k) k (lenText_le _ m (fun x hx => HX.out x (List.mem_of_mem_take hx)))
        rw [List.take_take, Nat.min_self, List.length_take, Nat.min_eq_left hk] at h1
        have h2 := HS.out
        have h3 : (4 + m) * (k + 1) ≤ (4 + m) * xs.length := Nat.mul_le_mul_left _ (by omega)
        rw [Nat.mul_succ] at h3
        rw [← hT.out, List.length_append]; omega
      clear hroom hlen
      have hTL := hide hTl
      obtain ⟨x, hxk⟩ : ∃ x, Hid (xs[k] = x) := ⟨_, hide rfl⟩
      have hcell := (HRD.out.below hb).cellAt k _ (strs_get xs k hlt)
      rw [hxk.out] at hcell hxm
      obtain ⟨B, hB⟩ : ∃ B, Hid (B = T ++ be 4 x.size) := ⟨_, hide rfl⟩
      have hst := one_cell HR.out
      have hfz := frozen_of_row wr w.heap.size 0 _ _ HR.out
      have hmod : (x.size : Int) % 4294967296 = x.size := by omega
      go_wp2_with fail
      refine (outFour1 T x.size _ B hB.out _ (reads_fresh _ [.int .u32 (x.size : Int)] 83 1 1 rfl (by simp [Value.oneCell']) (by unfold maxLen; omega)) (by omega) (by omega)).mono ?_
      rintro e1 w1 ⟨rfl, hb1⟩
      have hb2 : Below wr.heap.size wr w1 := ((Below.refl _ wr).alloc (Nat.le_refl _) _).trans (hb1.mono (by simp))
      have HB1 := hide hb2
      clear hb1 hb2
      obtain ⟨C, hC⟩ : ∃ C, Hid (C = B ++ x.data.toList) := ⟨_, hide rfl⟩
      have hBl : B.length = T.length + 4 := by rw [hB.out, List.length_append, be_length]
      have hBL := hide hBl
      clear hBl
      go_wp2_with fail
      refine (outRaw1 B x _ C hC.out _ (reads_fresh _ [.string x] 9 1 1 rfl (by simp [Value.oneCell']) (by unfold maxLen; omega)) (by have := hBL.out; omega)).mono ?_
      rintro e2 w2 ⟨rfl, hb3⟩
      have hb4 : Below wr.heap.size wr w2 := HB1.out.trans ((((Below.refl _ w1).alloc (Nat.le_refl _) _).trans (hb3.mono (by simp))).mono HB1.out.size)
      have HB2 := hide hb4
      clear hb3 hb4
      have HR3 := hide ((HB2.out.block _ (lt_of_heap HR.out)).trans HR.out)
      have HR4 := hide ((HB2.out.block _ (lt_of_heap HR2.out)).trans HR2.out)
      have hst3 := one_cell HR3.out
      have hfz3 := frozen_of_row w2 w.heap.size 0 _ _ HR3.out
      go_wp2_with fail
      go_roundw
      case rel =>
        refine ⟨k + 1, by omega, by go_num, ?_, ?_, (hb.trans (HB2.out.mono hb.size)).setCell (Nat.le_refl _) _⟩
        · rw [heap_set_row HR3.out, flat_snoc _ xs k hlt, ← List.append_assoc, hT.out, hxk.out, hC.out, hB.out, lenText, List.append_assoc]; rfl
        · rw [heap_setCell_other _ _ _ _ (by simp)]; exact HR4.out
      case measure => simp [intOf]; omega
    · obtain rfl : k = xs.length := by omega
      have hst := one_cell HR.out
      have hst2 := one_cell HR2.out
      have hfz2 := frozen_of_row wr (w.heap.size + 1) 0 _ _ HR2.out
      go_wp2_with fail
      refine ret_out_cell rfl (w.heap.size + 1) _ rfl (rowCells_of (heap_set_row HR2.out _)) rfl ⟨?_, hb.setCell (by simp) _⟩
      rfl
theorem run_dig {w : World} {b : Nat} {x : Dig} {T : TypeId} (h : w.heap[b]? = some (.cells (dgst x) T (0, 0))) :
    (convert 94 9 (.slice (some ⟨b, 0, none⟩) 32 32)).run Try.prog w = .ok (.string ⟨x.bytes.toArray⟩) w := run_bytes_row (w := w) (b := b) (l := x.bytes) (T := T) (fr := (0, 0)) h 32 x.len
set_option maxRecDepth 20000 in
set_option maxHeartbeats 1600000 in
theorem outDigest (s : List UInt8) (v : Value) (xs : List Dig) (w : World) (hr : Reads w 32 v xs.length (dcells xs)) (hs : s.length + 32 * xs.length ≤ 1000000000) :
    Calls Try.prog 112 #[outv s, v] w fun e w' => e = .returned (outv (s ++ xs.flatMap Dig.bytes)) ∧ Below w.heap.size w w' := by
  unfold outv
  obtain ⟨a0, c0, rfl⟩ := hr.shape
  have HRD := hide hr
  have hxl : xs.length ≤ 1000000000 := by omega
  clear hr
  go_enter Try.func112, Try.ntmps112
  go_wp2
  go_loopw [9, 6] (fun i _ wr => ∃ k : Nat, k ≤ xs.length ∧ i = .int .i64 k ∧ wr.heap[w.heap.size]? = some (.cells #[.string ⟨(s ++ (xs.take k).flatMap Dig.bytes).toArray⟩] 80 (0, 0)) ∧ wr.heap[w.heap.size + 1]? = some (.cells #[.string ⟨#[]⟩] 80 (0, 0)) ∧ Below w.heap.size w wr) (fun i _ _ => xs.length - (intOf i).toNat)
  case atStart =>
    refine ⟨0, by omega, rfl, ?_, ?_, ((Below.refl _ w).alloc (Nat.le_refl _) _).alloc (by simp) _⟩
    · rw [heap_alloc_old _ _ (by simp), heap_alloc_new]; simp
    · have := heap_alloc_new (w.alloc (.cells #[.string ⟨s.toArray⟩] 80)) (.cells #[.string ⟨#[]⟩] 80)
      rw [World.size_alloc] at this
      exact this
  case round =>
    obtain ⟨k, hk, rfl, hr, hr2, hb⟩ := hrel
    have HR := hide hr
    have HR2 := hide hr2
    clear hr hr2
    by_cases hlt : k < xs.length
    · obtain ⟨b, o, c2, hv⟩ := HRD.out.isRow (by omega)
      cases hv
      have hlen := flat_take_len Dig.bytes 32 xs k (fun d _ => by rw [d.len]; omega)
      obtain ⟨T, hT⟩ : ∃ T, Hid (s ++ (xs.take k).flatMap Dig.bytes = T) := ⟨_, hide rfl⟩
      rw [hT.out] at HR
      have hTl : T.length ≤ 1000000000 := by rw [← hT.out, List.length_append]; omega
      clear hlen
      obtain ⟨x, hxk⟩ : ∃ x, Hid (xs[k] = x) := ⟨_, hide rfl⟩
      have hcell := reads_span (HRD.out.below hb) k hlt
      rw [hxk.out] at hcell
      have hst := one_cell HR.out
      have hfz := frozen_of_row wr w.heap.size 0 _ _ HR.out
      go_wp2_with fail
      have q1 : ((wr.alloc (.cells (dgst dig0) 24)).setRow wr.heap.size (dgst x)).heap[wr.heap.size]? = some (.cells (dgst x) 24 (0, 0)) := setRow_heap _ _ _ _ _ _ (heap_alloc_new _ _)
      have q2 : Below wr.heap.size wr ((wr.alloc (.cells (dgst dig0) 24)).setRow wr.heap.size (dgst x)) := below_setRow ((Below.refl _ wr).alloc (Nat.le_refl _) _) (Nat.le_refl _) _
      generalize (wr.alloc (.cells (dgst dig0) 24)).setRow wr.heap.size (dgst x) = wq at q1 q2 ⊢
      have Q1 := hide q1
      have Q2 := hide q2
      have HR5 := hide ((q2.block _ (lt_of_heap HR.out)).trans HR.out)
      have HR6 := hide ((q2.block _ (lt_of_heap HR2.out)).trans HR2.out)
      clear hcell hst hfz q1 q2
      have hst := one_cell HR5.out
      have hfz := frozen_of_row wq w.heap.size 0 _ _ HR5.out
      have hcv := fun (y : After wq) => run_dig ((y.below.block _ (lt_of_heap Q1.out)).trans Q1.out)
      obtain ⟨B, hB⟩ : ∃ B, Hid (x.bytes = B) := ⟨_, hide rfl⟩
      rw [hB.out] at hcv
      have hBL := hide (show B.length = 32 by rw [← hB.out, x.len])
      have l0 : ¬ 9223372036854775807 < T.length + B.length := by have := hBL.out; omega
      have hcat := cat_str T B
      refine wp_region_after_tail 6 (by kernel_rfl) (by kernel_rfl) ?_
      simp only [List.take_succ_cons, List.take_zero, List.drop_succ_cons, List.drop_zero]
      repeat go_big_quiet_step (fail)
      refine wpQuiet_nil ?_
      intro y
      have HB2 := hide (Q2.out.trans (y.below.mono Q2.out.size))
      have HR3 := hide ((y.below.block _ (lt_of_heap HR5.out)).trans HR5.out)
      have HR4 := hide ((y.below.block _ (lt_of_heap HR6.out)).trans HR6.out)
      go_wp2_with fail
      go_roundw
      case rel =>
        refine ⟨k + 1, by omega, by go_num, ?_, ?_, (hb.trans (HB2.out.mono hb.size)).setCell (Nat.le_refl _) _⟩
        · rw [heap_set_row HR3.out, flat_snoc _ xs k hlt, ← List.append_assoc, hT.out, hxk.out, hB.out]; rfl
        · rw [heap_setCell_other _ _ _ _ (by simp)]; exact HR4.out
      case measure => simp [intOf]; omega
    · obtain rfl : k = xs.length := by omega
      have hst := one_cell HR.out
      have hst2 := one_cell HR2.out
      have hfz2 := frozen_of_row wr (w.heap.size + 1) 0 _ _ HR2.out
      go_wp2_with fail
      refine ret_out_cell rfl (w.heap.size + 1) _ rfl (rowCells_of (heap_set_row HR2.out _)) rfl ⟨?_, hb.setCell (by simp) _⟩
      rfl
end Go.Proofs.Ytjmbnfcjambdkaa
