/- wire.Out: what its methods lay. -/
import Derived.Test.YtjmbnfcjambdkaaWireHigh
import Derived.Test.YtjmbnfcjambdkaaDigSl
namespace Go.Proofs.Ytjmbnfcjambdkaa
open Go.RowKit
/-- What was laid. -/
def outv (s : List UInt8) : Value := .agg #[.string ⟨s.toArray⟩]
theorem cat_str (a b : List UInt8) : (⟨a.toArray⟩ : ByteArray) ++ ⟨b.toArray⟩ = ⟨(a ++ b).toArray⟩ := by
  apply ByteArray.ext; simp
theorem size_str (a : List UInt8) : (⟨a.toArray⟩ : ByteArray).size = a.length := by simp [ByteArray.size]
theorem run_one (c : UInt8) (b : Nat) (w : World) (hx : w.cell? ⟨b, 0, none⟩ = some (.int .u8 (c.toNat : Int))) :
    (convert 94 9 (.slice (some ⟨b, 0, none⟩) 1 1)).run Try.prog w = .ok (.string ⟨#[c]⟩) w := by
  refine run_convert_bytes_back (P := Try.prog) w 94 9 5 ⟨b, 0, none⟩ 1 [c] Try.underlying94 Try.underlying5 Try.underlying9 ?_
  intro j hj
  match j, hj with
  | 0, _ => simpa [Addr.add] using hx
theorem wf_nonneg {n : Int} (h : (Lit.int .u32 n).wf = true) : 0 ≤ n := by
  simp [Lit.wf, IntKind.min, IntKind.signed] at h; omega
theorem wf_u32 {n : Int} (h : (Lit.int .u32 n).wf = true) : IntKind.u64.wrap n = n := by
  simp [Lit.wf, IntKind.min, IntKind.max, IntKind.signed, IntKind.bits] at h
  simp [IntKind.wrap, IntKind.signed, IntKind.bits, IntKind.min]; omega
theorem one_cell {w : World} {b : Nat} {v : Value} {T : TypeId} {fr : Nat × Nat} (h : w.heap[b]? = some (.cells #[v] T fr)) : w.cell? ⟨b, 0, none⟩ = some v := by
  rw [cell_of_row w b 0 _ T fr h]; rfl
theorem high4n (n : Int) (h : 0 ≤ n) (B : List UInt8) (hB : B = be 4 n.toNat) (w : World) :
    Calls Try.prog 91 #[.int .u64 n, .int .i64 4] w fun e w' => e = .returned (.string ⟨B.toArray⟩) ∧ Below w.heap.size w w' := hB ▸ high4i n h w
theorem high8n (n : Int) (h : 0 ≤ n) (B : List UInt8) (hB : B = be 8 n.toNat) (w : World) :
    Calls Try.prog 91 #[.int .u64 n, .int .i64 8] w fun e w' => e = .returned (.string ⟨B.toArray⟩) ∧ Below w.heap.size w w' := hB ▸ high8i n h w
theorem flat_snoc {α : Type} (f : α → List UInt8) (xs : List α) (k : Nat) (h : k < xs.length) : (xs.take (k + 1)).flatMap f = (xs.take k).flatMap f ++ f xs[k] := by
  rw [List.take_succ_eq_append_getElem h, List.flatMap_append]; simp
theorem flat_len {α : Type} (f : α → List UInt8) (m : Nat) (xs : List α) (h : ∀ x ∈ xs, (f x).length ≤ m) : (xs.flatMap f).length ≤ m * xs.length := by
  induction xs with
  | nil => simp
  | cons x xs ih =>
    have h1 := h x (by simp)
    have h2 := ih (fun y hy => h y (by simp [hy]))
    rw [List.flatMap_cons, List.length_append, List.length_cons, Nat.mul_succ]; omega
theorem flat_take_len {α : Type} (f : α → List UInt8) (m : Nat) (xs : List α) (k : Nat) (h : ∀ x ∈ xs, (f x).length ≤ m) : ((xs.take k).flatMap f).length ≤ m * xs.length :=
  Nat.le_trans (flat_len f m _ fun x hx => h x (List.mem_of_mem_take hx)) (Nat.mul_le_mul_left _ (by simp; omega))
theorem lt_of_heap {w : World} {b : Nat} {o : Obj} (h : w.heap[b]? = some o) : b < w.heap.size := (Array.getElem?_eq_some_iff.1 h).1
/-- A row of uint64 as cells. -/
def nums8 (xs : List Int) : List Value := xs.map (Value.int .u64)
theorem nums8_get (xs : List Int) (k : Nat) (h : k < xs.length) : (nums8 xs)[k]? = some (.int .u64 xs[k]) := by simp [nums8, List.getElem?_eq_getElem h]
theorem nums8_one (xs : List Int) : ∀ u ∈ nums8 xs, u.oneCell' = true := by
  intro u hu
  obtain ⟨x, _, rfl⟩ := List.mem_map.1 hu
  rfl
theorem wf_nonneg8 {n : Int} (h : (Lit.int .u64 n).wf = true) : 0 ≤ n := by
  simp [Lit.wf, IntKind.min, IntKind.signed] at h; omega
/-- A row of texts as cells. -/
def strs (xs : List ByteArray) : List Value := xs.map Value.string
theorem strs_get (xs : List ByteArray) (k : Nat) (h : k < xs.length) : (strs xs)[k]? = some (.string xs[k]) := by simp [strs, List.getElem?_eq_getElem h]
theorem strs_one (xs : List ByteArray) : ∀ u ∈ strs xs, u.oneCell' = true := by
  intro u hu
  obtain ⟨x, _, rfl⟩ := List.mem_map.1 hu
  rfl
/-- All texts, one behind the other. -/
def raw (xs : List ByteArray) : List UInt8 := xs.flatMap (·.data.toList)
theorem join_raw (xs : List ByteArray) : Lib.join (xs.map (·.data.toList)) [] = raw xs := by
  induction xs with
  | nil => rfl
  | cons x xs ih =>
    cases xs with
    | nil => simp [raw, Lib.join_one]
    | cons y ys =>
      have : Lib.join ((x :: y :: ys).map (·.data.toList)) [] = x.data.toList ++ Lib.join ((y :: ys).map (·.data.toList)) [] := by simp [Lib.join, List.intercalate]
      rw [this, ih]; simp [raw]
theorem join_any (v : Value) (xs : List ByteArray) (B : List UInt8) (hB : B = raw xs) (w : World) (hr : Reads w 1 v xs.length (strs xs)) (hx : xs.length ≤ 1000000000) (hl : (raw xs).length ≤ 1000000000) :
    Calls Try.prog 57 #[v, .string ⟨#[]⟩] w fun e w' => e = .returned (.string ⟨B.toArray⟩) ∧ Below w.heap.size w w' := by
  subst hB
  obtain ⟨a0, c0, rfl⟩ := hr.shape
  by_cases h0 : xs.length = 0
  · have : xs = [] := List.eq_nil_of_length_eq_zero h0
    subst this
    refine (Try.strings_Join_none a0 c0 ⟨#[]⟩ w).mono ?_
    rintro e w' ⟨rfl, rfl⟩
    exact ⟨rfl, Below.refl _ _⟩
  · obtain ⟨b, o, c, hv⟩ := hr.isRow (by omega)
    cases hv
    have hc : xs.length ≤ c0 := by
      obtain ⟨_, _, _, ⟨h, _⟩ | ⟨_, _, _, h, hc, _⟩⟩ := hr
      · cases h
      · cases h; exact hc
    have h1 := Try.strings_Join b o c0 xs ⟨#[]⟩ w (fun j x hj => hr.cellAt j _ (by simp [strs, hj])) (hr.lt (by omega) (by omega) b rfl) (by omega) hc (by rw [show (⟨#[]⟩ : ByteArray).data.toList = [] from rfl, join_raw]; omega)
    rw [show (⟨#[]⟩ : ByteArray).data.toList = [] from rfl, join_raw] at h1
    exact h1
theorem ret_out {a b : List UInt8} (h : a = b) : Ending.returned (outv a) = .returned (outv b) := by rw [h]
theorem ret_out_cell {fn : Func} {p : Tmp} (h : fn.results = #[.cell p 80]) {R : Ending → World → Prop} {a : Act} {w : World} (b : Nat) (s : List UInt8) (hp : a.tmps.getD p undef = .pointer (some ⟨b, 0, none⟩)) (hr : w.rowCells b = #[.string ⟨s.toArray⟩]) (hd : a.defers = [])
    (hR : R (.returned (outv s)) w) : bodyPost Try.prog fn R .ret a w :=
  bodyPost_ret (results_row h _ 1 (by decide) Try.underlying80 rfl (by kernel_rfl) a.tmps w b _ hp rfl hr) hd hR
set_option maxRecDepth 20000 in
set_option maxHeartbeats 400000 in
theorem outByte (s : List UInt8) (c : UInt8) (w : World) (hs : s.length ≤ 1000000000) :
    Calls Try.prog 92 #[outv s, .int .u8 (c.toNat : Int)] w fun e w' => e = .returned (outv (s ++ [c])) ∧ Below w.heap.size w w' := by
  have hcv := fun (w' : World) b => run_one c b w'
  have hcat := cat_str s [c]
  have hsz := size_str s
  have hsz1 := size_str [c]
  have hl : ¬ 9223372036854775807 < s.length + 1 := by omega
  unfold outv
  go_enter Try.func92, Try.ntmps92
  go_wp2
  exact ret_out_cell rfl (w.heap.size + 1) (s ++ [c]) rfl (by simp [go_sem]) rfl ⟨rfl, (((Below.refl _ w).alloc (Nat.le_refl _) _).alloc (by simp) _).alloc (by simp; omega) _⟩
set_option maxRecDepth 20000 in
set_option maxHeartbeats 800000 in
theorem outFour (s : List UInt8) (v : Value) (xs : List Int) (w : World) (hr : Reads w 1 v xs.length (nums xs)) (hx : ∀ n ∈ xs, (Lit.int .u32 n).wf = true) (hs : s.length + 4 * xs.length ≤ 1000000000) :
    Calls Try.prog 44 #[outv s, v] w fun e w' => e = .returned (outv (s ++ xs.flatMap fun n => be 4 n.toNat)) ∧ Below w.heap.size w w' := by
  unfold outv
  obtain ⟨a0, c0, rfl⟩ := hr.shape
  have HRD := hide hr
  have HX := hide hx
  clear hr hx
  go_enter Try.func44, Try.ntmps44
  go_wp2
  go_loopw [9, 6] (fun i _ wr => ∃ k : Nat, k ≤ xs.length ∧ i = .int .i64 k ∧ wr.heap[w.heap.size]? = some (.cells #[.string ⟨(s ++ (xs.take k).flatMap fun n => be 4 n.toNat).toArray⟩] 80 (0, 0)) ∧ wr.heap[w.heap.size + 1]? = some (.cells #[.string ⟨#[]⟩] 80 (0, 0)) ∧ Below w.heap.size w wr) (fun i _ _ => xs.length - (intOf i).toNat)
  case atStart =>
    refine ⟨0, by omega, rfl, ?_, ?_, ((Below.refl _ w).alloc (Nat.le_refl _) _).alloc (by simp) _⟩
    · rw [heap_alloc_old _ _ (by simp), heap_alloc_new]; simp
    · have := heap_alloc_new (w.alloc (.cells #[.string ⟨s.toArray⟩] 80)) (.cells #[.string ⟨#[]⟩] 80)
      rw [World.size_alloc] at this
      exact this
  case round =>
    obtain ⟨k, hk, rfl, hr, hr2, hb⟩ := hrel
    have HR := hide hr
    have HR2 := hide hr2
    clear hr hr2
    by_cases hlt : k < xs.length
    · obtain ⟨b, o, c2, hv⟩ := HRD.out.isRow (by omega)
      cases hv
      have hx0 := wf_nonneg (HX.out xs[k] (List.getElem_mem hlt))
      have hcell := (HRD.out.below hb).cellAt k _ (nums_get xs k hlt)
      have hlen := flat_take_len (fun n : Int => be 4 n.toNat) 4 xs k (fun x _ => by rw [be_length]; omega)
      obtain ⟨T, hT⟩ : ∃ T, Hid (s ++ (xs.take k).flatMap (fun n => be 4 n.toNat) = T) := ⟨_, hide rfl⟩
      rw [hT.out] at HR
      have hTl : T.length ≤ 1000000000 := by rw [← hT.out, List.length_append]; omega
      obtain ⟨B, hB⟩ : ∃ B, Hid (B = be 4 xs[k].toNat) := ⟨_, hide rfl⟩
      have hBl : B.length = 4 := by rw [hB.out, be_length]
      have hBL := hide hBl
      have l0 : ¬ 9223372036854775807 < T.length + B.length := by omega
      clear hBl hlen
      have hcat := cat_str T B
      have hwr := wf_u32 (HX.out xs[k] (List.getElem_mem hlt))
      have hst := one_cell HR.out
      have hfz := frozen_of_row wr w.heap.size 0 _ _ HR.out
      go_wp2_with fail
      refine wp_region_after_tail 7 (by kernel_rfl) (by kernel_rfl) ?_
      simp only [List.take_succ_cons, List.take_zero, List.drop_succ_cons, List.drop_zero]
      repeat go_big_quiet_step ((first | (go_at_call 91; exact Calls.quiet_after (high4n _ hx0 B hB.out _))))
      refine wpQuiet_nil ?_
      intro x
      have HB2 := hide x.below
      have HR3 := hide ((x.below.block _ (lt_of_heap HR.out)).trans HR.out)
      have HR4 := hide ((x.below.block _ (lt_of_heap HR2.out)).trans HR2.out)
      go_wp2_with fail
      go_roundw
      case rel =>
        refine ⟨k + 1, by omega, by go_num, ?_, ?_, (hb.trans (HB2.out.mono hb.size)).setCell (Nat.le_refl _) _⟩
        · rw [heap_set_row HR3.out, flat_snoc _ xs k hlt, ← List.append_assoc, hT.out, ← hB.out]; rfl
        · rw [heap_setCell_other _ _ _ _ (by simp)]; exact HR4.out
      case measure => simp [intOf]; omega
    · obtain rfl : k = xs.length := by omega
      have hst := one_cell HR.out
      have hst2 := one_cell HR2.out
      have hfz2 := frozen_of_row wr (w.heap.size + 1) 0 _ _ HR2.out
      go_wp2_with fail
      refine ret_out_cell rfl (w.heap.size + 1) _ rfl (rowCells_of (heap_set_row HR2.out _)) rfl ⟨?_, hb.setCell (by simp) _⟩
      rfl
set_option maxRecDepth 20000 in
set_option maxHeartbeats 800000 in
theorem outEight (s : List UInt8) (v : Value) (xs : List Int) (w : World) (hr : Reads w 1 v xs.length (nums8 xs)) (hx : ∀ n ∈ xs, (Lit.int .u64 n).wf = true) (hs : s.length + 8 * xs.length ≤ 1000000000) :
    Calls Try.prog 72 #[outv s, v] w fun e w' => e = .returned (outv (s ++ xs.flatMap fun n => be 8 n.toNat)) ∧ Below w.heap.size w w' := by
  unfold outv
  obtain ⟨a0, c0, rfl⟩ := hr.shape
  have HRD := hide hr
  have HX := hide hx
  clear hr hx
  go_enter Try.func72, Try.ntmps72
  go_wp2
  go_loopw [9, 6] (fun i _ wr => ∃ k : Nat, k ≤ xs.length ∧ i = .int .i64 k ∧ wr.heap[w.heap.size]? = some (.cells #[.string ⟨(s ++ (xs.take k).flatMap fun n => be 8 n.toNat).toArray⟩] 80 (0, 0)) ∧ wr.heap[w.heap.size + 1]? = some (.cells #[.string ⟨#[]⟩] 80 (0, 0)) ∧ Below w.heap.size w wr) (fun i _ _ => xs.length - (intOf i).toNat)
  case atStart =>
    refine ⟨0, by omega, rfl, ?_, ?_, ((Below.refl _ w).alloc (Nat.le_refl _) _).alloc (by simp) _⟩
    · rw [heap_alloc_old _ _ (by simp), heap_alloc_new]; simp
    · have := heap_alloc_new (w.alloc (.cells #[.string ⟨s.toArray⟩] 80)) (.cells #[.string ⟨#[]⟩] 80)
      rw [World.size_alloc] at this
      exact this
  case round =>
    obtain ⟨k, hk, rfl, hr, hr2, hb⟩ := hrel
    have HR := hide hr
    have HR2 := hide hr2
    clear hr hr2
    by_cases hlt : k < xs.length
    · obtain ⟨b, o, c2, hv⟩ := HRD.out.isRow (by omega)
      cases hv
      have hx0 := wf_nonneg8 (HX.out xs[k] (List.getElem_mem hlt))
      have hcell := (HRD.out.below hb).cellAt k _ (nums8_get xs k hlt)
      have hlen := flat_take_len (fun n : Int => be 8 n.toNat) 8 xs k (fun x _ => by rw [be_length]; omega)
      obtain ⟨T, hT⟩ : ∃ T, Hid (s ++ (xs.take k).flatMap (fun n => be 8 n.toNat) = T) := ⟨_, hide rfl⟩
      rw [hT.out] at HR
      have hTl : T.length ≤ 1000000000 := by rw [← hT.out, List.length_append]; omega
      obtain ⟨B, hB⟩ : ∃ B, Hid (B = be 8 xs[k].toNat) := ⟨_, hide rfl⟩
      have hBl : B.length = 8 := by rw [hB.out, be_length]
      have hBL := hide hBl
      have l0 : ¬ 9223372036854775807 < T.length + B.length := by omega
      clear hBl hlen
      have hcat := cat_str T B
      have hst := one_cell HR.out
      have hfz := frozen_of_row wr w.heap.size 0 _ _ HR.out
      go_wp2_with fail
      refine wp_region_after_tail 6 (by kernel_rfl) (by kernel_rfl) ?_
      simp only [List.take_succ_cons, List.take_zero, List.drop_succ_cons, List.drop_zero]
      repeat go_big_quiet_step ((first | (go_at_call 91; exact Calls.quiet_after (high8n _ hx0 B hB.out _))))
      refine wpQuiet_nil ?_
      intro x
      have HB2 := hide x.below
      have HR3 := hide ((x.below.block _ (lt_of_heap HR.out)).trans HR.out)
      have HR4 := hide ((x.below.block _ (lt_of_heap HR2.out)).trans HR2.out)
      go_wp2_with fail
      go_roundw
      case rel =>
        refine ⟨k + 1, by omega, by go_num, ?_, ?_, (hb.trans (HB2.out.mono hb.size)).setCell (Nat.le_refl _) _⟩
        · rw [heap_set_row HR3.out, flat_snoc _ xs k hlt, ← List.append_assoc, hT.out, ← hB.out]; rfl
        · rw [heap_setCell_other _ _ _ _ (by simp)]; exact HR4.out
      case measure => simp [intOf]; omega
    · obtain rfl : k = xs.length := by omega
      have hst := one_cell HR.out
      have hst2 := one_cell HR2.out
      have hfz2 := frozen_of_row wr (w.heap.size + 1) 0 _ _ HR2.out
      go_wp2_with fail
      refine ret_out_cell rfl (w.heap.size + 1) _ rfl (rowCells_of (heap_set_row HR2.out _)) rfl ⟨?_, hb.setCell (by simp) _⟩
      rfl
set_option maxRecDepth 20000 in
set_option maxHeartbeats 800000 in
theorem outRaw (s : List UInt8) (v : Value) (xs : List ByteArray) (w : World) (hr : Reads w 1 v xs.length (strs xs)) (hn : xs.length ≤ 1000000000) (hs : s.length + (raw xs).length ≤ 1000000000) :
    Calls Try.prog 111 #[outv s, v] w fun e w' => e = .returned (outv (s ++ raw xs)) ∧ Below w.heap.size w w' := by
  unfold outv
  obtain ⟨a0, c0, rfl⟩ := hr.shape
  have HRD := hide ((hr.alloc (.cells #[.string ⟨s.toArray⟩] 80)).alloc (.cells #[.string ⟨#[]⟩] 80))
  have HN := hide hn
  have HL := hide hs
  obtain ⟨B, hB⟩ : ∃ B, Hid (B = raw xs) := ⟨_, hide rfl⟩
  have l0 : ¬ 9223372036854775807 < s.length + B.length := by rw [hB.out]; omega
  have hcat := cat_str s B
  clear hr hn hs
  go_enter Try.func111, Try.ntmps111
  go_wp2
  refine wp_region_after_tail 6 (by kernel_rfl) (by kernel_rfl) ?_
  simp only [List.take_succ_cons, List.take_zero, List.drop_succ_cons, List.drop_zero]
  repeat go_big_quiet_step ((first | (go_at_call 57; exact Calls.quiet_after (join_any _ xs B hB.out _ (HRD.out.below (After.below _)) HN.out (by have := HL.out; omega)))))
  refine wpQuiet_nil ?_
  intro x
  have HB2 := hide (x.below)
  have HR4 := hide (x.below.block (w.heap.size + 1) (by simp))
  go_wp2_with fail
  refine ret_out_cell rfl (w.heap.size + 1) _ rfl (rowCells_of (heap_set_row (T := 80) (cs := #[.string ⟨#[]⟩]) (HR4.out.trans ?_) _)) rfl ⟨?_, ((((Below.refl _ w).alloc (Nat.le_refl _) _).alloc (by simp) _).trans (HB2.out.mono (by simp; omega))).setCell (by simp) _⟩
  · have := heap_alloc_new (w.alloc (.cells #[.string ⟨s.toArray⟩] 80)) (.cells #[.string ⟨#[]⟩] 80)
    rw [World.size_alloc] at this
    exact this
  · rw [← hB.out]; rfl
end Go.Proofs.Ytjmbnfcjambdkaa
