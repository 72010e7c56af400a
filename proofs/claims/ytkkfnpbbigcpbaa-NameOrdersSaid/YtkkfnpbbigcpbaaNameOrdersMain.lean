/- NameOrders returns true for every two digests, and they read as they did. No condition. -/
import Derived.Test.YtkkfnpbbigcpbaaNameLaw
import Derived.Test.YtkkfnpbbigcpbaaOrder
import Derived.Test.YtkkfnpbbigcpbaaOpenDig
import Derived.ProofKit
import Derived.Deep.DeepCutAuto
import Derived.Deep.CutBlock
import Derived.BigQuiet
import Derived.Deep.QuietTactic
import Derived.OpenShut
import Derived.ShutString
import Derived.ChangeOld
namespace Go.Proofs.Ytkkfnpbbigcpbaa.nameOrders
open Go.ChangeShapes Go.WideShapes Go.ChangeAt Go.RowKit
set_option linter.unusedVariables false

theorem take_more {x y : List UInt8} {k : Nat} {ha : k < x.length} {hb : k < y.length} (hp : x.take k = y.take k) (he : x[k] = y[k]) : x.take (k + 1) = y.take (k + 1) := by
  rw [List.take_succ_eq_append_getElem ha, List.take_succ_eq_append_getElem hb, hp, he]
theorem bne_bytes {x y : UInt8} (h : x ≠ y) : ((x.toNat : Int) != (y.toNat : Int)) = true := by
  simp; intro e; exact h (UInt8.toNat_inj.1 (by exact_mod_cast e))
theorem val_bool {x y : Bool} (h : x = y) : Value.bool x = .bool y := by rw [h]
theorem less_at_int {x y : List UInt8} {k : Nat} {ha : k < x.length} {hb : k < y.length} (hp : x.take k = y.take k) (hne : ¬ x[k] = y[k]) : decide (x[k].toNat < y[k].toNat) = Op.bytesLess x y := by
  rw [less_at x y k ha hb hp hne, Bool.eq_iff_iff]
  simp [UInt8.lt_iff_toNat_lt]
theorem less_none (a b : Dig) {k : Nat} (hk : 32 ≤ k) (hp : a.bytes.take k = b.bytes.take k) : false = Op.bytesLess a.bytes b.bytes := by
  rw [List.take_of_length_le (by rw [a.len]; exact hk), List.take_of_length_le (by rw [b.len]; exact hk)] at hp
  rw [hp, less_self]

set_option maxHeartbeats 1000000 in
set_option maxRecDepth 100000 in
theorem walk (a b : Dig) (w : World) :
    Calls Try.prog 4 #[.agg (dgst a), .agg (dgst b)] w fun e w' => e = .returned (.bool true) ∧ Below w.heap.size w w' := by
  go_enter Try.func4, Try.ntmps4
  go_wp2_with fail
  refine (awake07_any _).mono ?_
  rintro e w1 ⟨rfl, hb1⟩
  have ra : w1.rowCells w.heap.size = dgst a := rowAt_below hb1 (by simp; omega) (rowCells_of (heap_alloc2_old w _ _))
  have rb : w1.rowCells (w.heap.size + 1) = dgst b := rowAt_below hb1 (by simp) (rowCells_of (heap_alloc2_new w _ _))
  have hz1 : w.heap.size + 2 ≤ w1.heap.size := by have := hb1.size; simp at this; omega
  have hB1 : Below w.heap.size w w1 := ((Below.refl _ w).alloc (Nat.le_refl _) _ |>.alloc (by simp) _).trans (hb1.mono (by simp; omega))
  clear hb1
  go_upto_region 3 with fail
  go_cut [5, 6] (fun s5 s6 wx => ∃ X Y : ByteArray, s5 = .string X ∧ s6 = .string Y ∧ Hid (X = ⟨(fileText 111 a).toArray⟩) ∧ Hid (Y = ⟨(fileText 111 b).toArray⟩) ∧ wx.rowCells w.heap.size = dgst a ∧ wx.rowCells (w.heap.size + 1) = dgst b ∧ w.heap.size + 2 ≤ wx.heap.size ∧ Below w.heap.size w wx)
  case first =>
    go_region_law (first
      | (go_simp; go_at_call_of 19 (dgst a); refine (object_any a _).mono ?_; rintro e w2 ⟨rfl, hb⟩; have r1 := rowAt_below (b := w.heap.size) hb (lt1 hz1) ra; have r2 := rowAt_below (b := w.heap.size + 1) hb (lt2 hz1) rb; have hz2 := bsz hb hz1; have hB2 := hB1.drew.trans (hb.mono (le2 hz1)))
      | (go_simp; go_at_call_of 19 (dgst b); refine (object_any b _).mono ?_; rintro e w3 ⟨rfl, hb'⟩; have r3 := rowAt_below (b := w.heap.size) hb' (lt1 hz2) r1; have r4 := rowAt_below (b := w.heap.size + 1) hb' (lt2 hz2) r2; have hz3 := bsz hb' hz2; have hB3 := hB2.trans (hb'.mono (le2 hz2))))
    all_goals go_wp2_with fail
    all_goals go_meet
    all_goals exact ⟨_, _, rfl, rfl, rfl, rfl, r3, r4, hz3, hB3⟩
  case rest =>
    obtain ⟨X, Y, rfl, rfl, HX, HY, ra2, rb2, hz2, hB2⟩ := hcut
    go_upto_block 0 with fail
    go_cut [7] (fun s7 wx => s7 = .bool (Op.bytesLess a.bytes b.bytes) ∧ wx.rowCells w.heap.size = dgst a ∧ wx.rowCells (w.heap.size + 1) = dgst b ∧ w.heap.size + 2 ≤ wx.heap.size ∧ Below w.heap.size w wx)
    case first =>
      go_wp2_with fail
      go_loopw [15, 7, 8] (fun i l _ wr => ∃ k : Nat, k ≤ 32 ∧ i = .int .i64 k ∧ l = .bool false ∧ a.bytes.take k = b.bytes.take k ∧ wr.rowCells w.heap.size = dgst a ∧ wr.rowCells (w.heap.size + 1) = dgst b ∧ w.heap.size + 2 ≤ wr.heap.size ∧ Below w.heap.size w wr) (fun i _ _ _ => 32 - (intOf i).toNat)
      case atStart => exact ⟨0, by omega, rfl, rfl, rfl, ra2, rb2, hz2, hB2⟩
      case round =>
        obtain ⟨k, hk, rfl, rfl, hpre, ra3, rb3, hz3, hB3⟩ := hrel
        have HP := hide hpre
        clear hpre ra2 rb2 hz2 hB2
        by_cases hlt : k < 32
        · have hka : k < a.bytes.length := by rw [a.len]; exact hlt
          have hkb : k < b.bytes.length := by rw [b.len]; exact hlt
          have hca := cell_of_rowCells ra3 (dgst_get a k hka)
          have hcb := cell_of_rowCells rb3 (dgst_get b k hkb)
          by_cases hne : a.bytes[k] = b.bytes[k]
          · have hE : ((a.bytes[k].toNat : Int) != (b.bytes[k].toNat : Int)) = false := by rw [hne]; simp
            have HNE := hide hne
            clear hne
            go_wp2_with fail
            go_quiet (fail)
            go_wp2_with fail
            go_roundw
            case rel => exact ⟨k + 1, by omega, by go_num, rfl, take_more HP.out HNE.out, ra3, rb3, hz3, below_drewN hB3 _⟩
            case measure => simp [intOf]; omega
          · have hE : ((a.bytes[k].toNat : Int) != (b.bytes[k].toNat : Int)) = true := bne_bytes hne
            have HNE := hide hne
            clear hne
            go_wp2_with fail
            go_quiet (fail)
            go_wp2_with fail
            go_quiet (fail)
            go_wp2_with fail
            go_meet
            exact ⟨val_bool (less_at_int HP.out HNE.out), ra3, rb3, hz3, below_drewN (below_drewN hB3 _) _⟩
        · go_wp2_with fail
          go_meet
          exact ⟨val_bool (less_none a b (by omega) HP.out), ra3, rb3, hz3, hB3⟩
    case rest =>
      clear ra2 rb2 hz2 hB2
      obtain ⟨rfl, ra2, rb2, hz2, hB2⟩ := hcut
      generalize hL : Op.bytesLess a.bytes b.bytes = L
      have HL := hide hL
      clear hL
      obtain ⟨PA, HPA⟩ : ∃ PA : ByteArray, Hid (PA = ⟨(fileText 112 a).toArray⟩) := ⟨_, rfl⟩
      obtain ⟨PB, HPB⟩ : ∃ PB : ByteArray, Hid (PB = ⟨(fileText 112 b).toArray⟩) := ⟨_, rfl⟩
      obtain ⟨E, HE⟩ : ∃ E : Bool, Hid (E = (a.bytes == b.bytes)) := ⟨_, rfl⟩
      have h35 : Op.bytesLess X.toList Y.toList = L := by
        rw [HX.out, HY.out, toList_mk, toList_mk, fileText_less]; exact HL.out
      have h52 : Op.bytesLess PA.toList PB.toList = L := by
        rw [HPA.out, HPB.out, toList_mk, toList_mk, fileText_less]; exact HL.out
      have h60 : Op.bytesLess X.toList PB.toList = true := by
        rw [HX.out, HPB.out, toList_mk, toList_mk, fileText_kinds]
      have h41 : (X.toList == Y.toList) = E := by
        rw [HX.out, HY.out, HE.out, toList_mk, toList_mk, fileText_eq]
      have h44 : ∀ w, (Op.equalIn 10000 25 (.agg (dgst a)) (.agg (dgst b))).run Try.prog w = .ok E w := by
        intro w; rw [HE.out]; exact run_equalIn_dgst a b w
      have hR : ∀ w, Calls Try.prog 17 #[.string X] w fun e w' => e = .returned (.bool false) ∧ w = w' := by
        intro w
        have h66 := fileText_length 111 a
        have := ref_any X w (by rw [HX.out]; show (fileText 111 a).toArray.size ≤ maxLen; rw [List.size_toArray, h66]; decide)
        rw [show refText X.data.toList = false from refText_long X (by rw [HX.out]; show 24 < (fileText 111 a).toArray.size; rw [List.size_toArray, h66]; decide)] at this
        exact this
      have HR := hide hR
      clear hR
      go_wp2_with fail
      refine wp_region_after_lit (by kernel_rfl) (by kernel_rfl) ?_
      repeat (go_big_quiet_step ((first
        | (go_at_call_of 20 (dgst a); exact Calls.quiet_after (pack_named a PA HPA.out _))
        | (go_at_call_of 20 (dgst b); exact Calls.quiet_after (pack_named b PB HPB.out _))
        | (go_at_call 17; exact Calls.quiet_after_same (HR.out _)))))
      refine wpQuiet_nil ?_
      intro _ hw'
      obtain ⟨xw, hw''⟩ := hw'
      subst hw''
      go_wp2_with fail
      go_ret
      exact ⟨rfl, hB2.trans (xw.below.mono (le2 hz2))⟩

theorem own : ownKnob Try.prog.godebug = none := by kernel_rfl
theorem laidOut : laidOutB Try.prog = true := by kernel_rfl

set_option maxRecDepth 100000 in
theorem lifted (os : Os) (started : os.Started) (H : Type) (enc : TypeId × Value → H) :
    ReturnsInHanded {} Try.checked os 4 .any (Rows.nameOrdersSpec.pre6 enc Try.prog Try.f4 Rows.nameOrdersRow.domain false) (Rows.nameOrdersSpec.post enc Try.prog Try.f4 false true false false) := by
  refine returnsInHanded_of_change (C := Try.checked) own started (by kernel_rfl) Try.func4
    (ChangeSpec.witness6 (enc := enc) (C := Try.checked) false ⟨#[], #[.agg #[.int .u8 0, .int .u8 0, .int .u8 0, .int .u8 0, .int .u8 0, .int .u8 0, .int .u8 0, .int .u8 0, .int .u8 0, .int .u8 0, .int .u8 0, .int .u8 0, .int .u8 0, .int .u8 0, .int .u8 0, .int .u8 0, .int .u8 0, .int .u8 0, .int .u8 0, .int .u8 0, .int .u8 0, .int .u8 0, .int .u8 0, .int .u8 0, .int .u8 0, .int .u8 0, .int .u8 0, .int .u8 0, .int .u8 0, .int .u8 0, .int .u8 0, .int .u8 0], .agg #[.int .u8 0, .int .u8 0, .int .u8 0, .int .u8 0, .int .u8 0, .int .u8 0, .int .u8 0, .int .u8 0, .int .u8 0, .int .u8 0, .int .u8 0, .int .u8 0, .int .u8 0, .int .u8 0, .int .u8 0, .int .u8 0, .int .u8 0, .int .u8 0, .int .u8 0, .int .u8 0, .int .u8 0, .int .u8 0, .int .u8 0, .int .u8 0, .int .u8 0, .int .u8 0, .int .u8 0, .int .u8 0, .int .u8 0, .int .u8 0, .int .u8 0, .int .u8 0]], []⟩ 8 (by kernel_rfl) (by kernel_rfl) (by kernel_rfl) (by kernel_rfl)) ?_
  intro W base args ds gs before hval0 hW hcnd _
  have hval : ∀ (j : Nat) t v, Try.f4.params[j]? = some t → args[j]? = some v → Value.okWide Try.prog W .any base t v := hval0
  have hW' := hW
  obtain ⟨p, q, hA0, hV, rfl, hfz, hnd⟩ := hW
  have hA : DataW.TrodAll enc Try.prog W 0 (fun _ => true) true Try.f4.params.toList args.toList ds p := hA0
  rw [Try.params4] at hA hval
  obtain ⟨v0, vs0, d0, ds0, p0, q0, hargs, rfl, rfl, h0, r0⟩ := trodAll_cons hA
  obtain ⟨v1, vs1, d1, ds1, p1, q1, rfl, rfl, rfl, h1, r1⟩ := trodAll_cons r0
  obtain ⟨rfl, rfl, rfl⟩ := trodAll_nil r1
  obtain rfl : args = #[v0, v1] := by cases args; simp_all
  obtain ⟨rfl, rfl⟩ := trodVars_none hV
  have k0 := h0
  have lt0 : ∀ x ∈ p0, x.block < W.heap.size := by obtain ⟨m, hm⟩ := k0; exact DataW.trod_lt m _ _ _ hm
  obtain ⟨D0, rfl⟩ := open_dgst (hval 0 25 v0 rfl rfl) h0
  have k1 := h1
  have lt1 : ∀ x ∈ p1, x.block < W.heap.size := by obtain ⟨m, hm⟩ := k1; exact DataW.trod_lt m _ _ _ hm
  obtain ⟨D1, rfl⟩ := open_dgst (hval 1 25 v1 rfl rfl) h1
  clear hA0 hval0
  refine (walk D0 D1 W ).mono fun e W' ⟨he, bel⟩ => ?_
  subst he
  exact ⟨_, rfl, _, _, _, [], _, [], hW', trodAll_mk1 (shut_bool Try.underlying4 _), (trodAll_cons_mk (Below.trod laidOut (by kernel_rfl) (of_decide_eq_true (by kernel_rfl)) k0 bel lt0) (trodAll_cons_mk (Below.trod laidOut (by kernel_rfl) (of_decide_eq_true (by kernel_rfl)) k1 bel lt1) trodAll_mk0)), rfl, bel.frame _, fun h => by cases h⟩

theorem proved : Rows.NameOrdersSaid :=
  OpenClaim.holds_of_wide 4 Try.f4 rfl rfl rfl rfl rfl rfl rfl ⟨rfl, rfl, rfl, rfl, rfl⟩ rfl rfl rfl rfl rfl (by kernel_rfl) Try.func4 (by kernel_rfl)
    (of_decide_eq_true (by kernel_rfl)) (by unfold Func.isWrapper; first | (rw [if_pos (by decide +kernel)]; kernel_rfl) | (rw [if_neg (by decide +kernel)]; exact ⟨rfl, rfl⟩))
    (fun os started H enc _ => lifted os started H enc)
end Go.Proofs.Ytkkfnpbbigcpbaa.nameOrders
