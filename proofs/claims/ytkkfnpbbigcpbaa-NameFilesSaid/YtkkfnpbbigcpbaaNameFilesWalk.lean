/- NameFiles: what it returns of any digest and any text. -/
import Derived.Test.YtkkfnpbbigcpbaaNameLaw
import Derived.Test.YtkkfnpbbigcpbaaOrder
import Derived.Test.YtkkfnpbbigcpbaaHexRef
import Derived.Test.YtkkfnpbbigcpbaaNamed
import Derived.Deep.DeepCutAuto
import Derived.Deep.CutBlock
namespace Go.Proofs.Ytkkfnpbbigcpbaa.nameFiles
open Go.RowKit

def tup (k : Int) (e : Dig) (b : Bool) : Value := .tuple #[.int .u8 k, .agg (dgst e), .bool b]
theorem nameVal_tup (o : Option (UInt8 × Dig)) : ∃ k e b, nameVal o = tup k e b ∧ 0 ≤ k ∧ k ≤ 255 := by
  cases o with
  | none => exact ⟨0, dig0, false, rfl, by omega, by omega⟩
  | some p => obtain ⟨k, d⟩ := p; exact ⟨k.toNat, d, true, rfl, byte_le k⟩
theorem parse_is (S : ByteArray) (k : Int) (e : Dig) (b : Bool) (h : nameVal (nameOf S.data.toList) = tup k e b) (hs : S.size ≤ maxLen) (w : World) :
    Calls Try.prog 71 #[.string S] w fun r w' => r = .returned (.tuple #[.int .u8 k, .agg (dgst e), .bool b]) ∧ Below w.heap.size w w' := by
  have := nameParse_any S w hs
  rw [h] at this
  exact this
theorem refParse_is (S : ByteArray) (k : Int) (e : Dig) (b : Bool) (h : nameVal (nameOf S.data.toList) = tup k e b) (hs : S.size ≤ maxLen) (w : World) :
    Calls Try.prog 72 #[.string S] w fun r w' => r = .returned (.tuple #[.int .u8 k, .agg (dgst e), .bool b]) ∧ Below w.heap.size w w' := by
  have := refParse_any S w hs
  rw [h] at this
  exact this
theorem file_is (k : UInt8) (d : Dig) (S : ByteArray) (hS : S = ⟨(fileText k d).toArray⟩) (w : World) :
    Calls Try.prog 73 #[.int .u8 (k.toNat : Int), .agg (dgst d)] w fun e w' => e = .returned (.string S) ∧ Below w.heap.size w w' := hS ▸ fileRef_any k d w
theorem nameOf_file (k : UInt8) (d : Dig) (hk : kindOk k = true) (S : ByteArray) (hS : S = ⟨(fileText k d).toArray⟩) : nameVal (nameOf S.data.toList) = tup (k.toNat : Int) d true := by
  subst hS
  show nameVal (nameOf (k :: 46 :: hexText d.bytes)) = _
  rw [nameOf_two, if_pos ⟨rfl, hk⟩, unhex_hex]
  rfl
theorem size_file (k : UInt8) (d : Dig) (S : ByteArray) (hS : S = ⟨(fileText k d).toArray⟩) : S.size = 66 := by
  subst hS
  rw [len_str, fileText_length]
theorem named_file (k : UInt8) (d : Dig) (hk : kindOk k = true) (S : ByteArray) (hS : S = ⟨(fileText k d).toArray⟩) (w : World) :
    Calls Try.prog 74 #[.string S] w fun e w' => e = .returned (.bool true) ∧ w = w' := by
  have hsz := size_file k d S hS
  have := named_any S w (by rw [hsz]; decide)
  rw [show namedText S.data.toList = true from ?_] at this
  · exact this
  · subst hS
    show namedText (fileText k d) = true
    have hd : ∀ c, isDigit c = true → namedByte c = true := by
      apply each_byte
      set_option maxRecDepth 10000 in decide
    have h1 : (fileText k d).all namedByte = true := by
      have hx := hexText_digits d.bytes
      rw [List.all_eq_true] at hx ⊢
      intro c hc
      simp only [fileText, List.mem_append, List.mem_cons, List.not_mem_nil, or_false] at hc
      rcases hc with (rfl | rfl) | hc
      · have : c = 111 ∨ c = 112 := by simpa [kindOk] using hk
        rcases this with rfl | rfl <;> rfl
      · rfl
      · exact hd c (hx c hc)
    rw [namedText, h1, fileText_length]
    rfl

set_option maxHeartbeats 1600000 in
set_option maxRecDepth 100000 in
theorem walk (d : Dig) (s : ByteArray) (w : World) (hs : s.size ≤ maxLen) :
    Calls Try.prog 13 #[.agg (dgst d), .string s] w fun e w' => e = .returned (.bool true) ∧ Below w.heap.size w w' := by
  have HM := hide hs
  unfold maxLen at hs
  by_cases h200 : 200 < s.size
  · go_enter Try.func13, Try.ntmps13
    go_wp2_with (go_at_call 16; refine (awake07_any _).mono ?_; rintro e w' ⟨rfl, hb⟩)
    go_ret
    exact ⟨rfl, ((Below.refl _ _).alloc (Nat.le_refl _) _).trans (hb.mono (by simp))⟩
  obtain ⟨X, HX⟩ : ∃ X : ByteArray, Hid (X = ⟨(fileText 111 d).toArray⟩) := ⟨_, rfl⟩
  obtain ⟨Y, HY⟩ : ∃ Y : ByteArray, Hid (Y = ⟨(fileText 112 d).toArray⟩) := ⟨_, rfl⟩
  obtain ⟨k, e, b, ht, hk0, hk1⟩ := nameVal_tup (nameOf s.data.toList)
  have HP := hide (parse_is s k e b ht HM.out)
  have HR := hide (refParse_is s k e b ht HM.out)
  have HA := hide (parse_is X _ d true (nameOf_file 111 d rfl X HX.out) (by rw [size_file 111 d X HX.out]; decide))
  have HB := hide (parse_is Y _ d true (nameOf_file 112 d rfl Y HY.out) (by rw [size_file 112 d Y HY.out]; decide))
  have HNX := hide (named_file 111 d rfl X HX.out)
  have HNY := hide (named_file 112 d rfl Y HY.out)
  clear ht
  go_enter Try.func13, Try.ntmps13
  go_wp2_with fail
  refine (awake07_any _).mono ?_
  rintro e1 w1 ⟨rfl, hb1⟩
  have rd : w1.rowCells w.heap.size = dgst d := rowAt_below hb1 (by simp) (rowCells_new _ _ _ _)
  have hz1 : w.heap.size + 1 ≤ w1.heap.size := by have := hb1.size; simp at this; omega
  have hB1 : Below w.heap.size w w1 := ((Below.refl _ w).alloc (Nat.le_refl _) _).trans (hb1.mono (by simp))
  clear hb1
  go_wp2_with fail
  refine wp_region_after_lit (by kernel_rfl) (by kernel_rfl) ?_
  repeat (go_big_quiet_step ((first
    | (go_at_call 19; exact Calls.quiet_after (object_named d X HX.out _))
    | (go_at_call 20; exact Calls.quiet_after (pack_named d Y HY.out _)))))
  refine wpQuiet_nil ?_
  intro _ hw'
  obtain ⟨xw, hw''⟩ := hw'
  subst hw''
  have rd2 : xw.world.rowCells w.heap.size = dgst d := rowAt_below xw.below hz1 rd
  have hz2 := Nat.le_trans hz1 xw.below.size
  have hB2 := hB1.trans (xw.below.mono (by omega : w.heap.size ≤ w1.heap.size))
  generalize xw.world = w2 at *
  clear rd hz1 hB1 xw w1
  go_wp2_with fail
  refine (HA.out _).mono ?_
  rintro r3 w3 ⟨rfl, hb3⟩
  have rd3 : w3.rowCells w.heap.size = dgst d := rowAt_below hb3 (by omega) rd2
  have hz3 := hb3.size
  have hB3 := hB2.trans (hb3.mono (by omega : w.heap.size ≤ w2.heap.size))
  clear rd2 hB2 hb3
  go_wp2_with fail
  refine (HB.out _).mono ?_
  rintro r4 w4 ⟨rfl, hb4⟩
  have hz4 := hb4.size
  rw [size_setRow, World.size_alloc] at hz4
  have rd4 : w4.rowCells w.heap.size = dgst d := rowAt_below hb4 (by simp [go_sem]; omega) (by rw [rowCells_setRow_other _ _ _ _ (by omega), rowCells_old _ _ _ (by omega)]; exact rd3)
  have ra4 : w4.rowCells w3.heap.size = dgst d := rowAt_below hb4 (by simp [go_sem]) (rowCells_setRow_same (n := 32) _ (by simp [go_sem]))
  have hB4 := (below_setRow (hB3.alloc (by omega) (.cells (dgst dig0) 25)) (g := w3.heap.size) (by omega) (dgst d)).trans (hb4.mono (by simp [go_sem]; omega))
  clear rd3 hB3 hb4
  go_wp2_with fail
  refine (HP.out _).mono ?_
  rintro r5 w5 ⟨rfl, hb5⟩
  have hz5 := hb5.size
  rw [size_setRow, World.size_alloc] at hz5
  have rd5 : w5.rowCells w.heap.size = dgst d := rowAt_below hb5 (by simp [go_sem]; omega) (by rw [rowCells_setRow_other _ _ _ _ (by omega), rowCells_old _ _ _ (by omega)]; exact rd4)
  have ra5 : w5.rowCells w3.heap.size = dgst d := rowAt_below hb5 (by simp [go_sem]; omega) (by rw [rowCells_setRow_other _ _ _ _ (by omega), rowCells_old _ _ _ (by omega)]; exact ra4)
  have rb5 : w5.rowCells w4.heap.size = dgst d := rowAt_below hb5 (by simp [go_sem]) (rowCells_setRow_same (n := 32) _ (by simp [go_sem]))
  have hB5 := (below_setRow (hB4.alloc (by omega) (.cells (dgst dig0) 25)) (g := w4.heap.size) (by omega) (dgst d)).trans (hb5.mono (by simp [go_sem]; omega))
  clear rd4 hB4 hb5 ra4
  go_wp2_with fail
  refine (HR.out _).mono ?_
  rintro r6 w6 ⟨rfl, hb6⟩
  have hz6 := hb6.size
  rw [size_setRow, World.size_alloc] at hz6
  have rd6 : w6.rowCells w.heap.size = dgst d := rowAt_below hb6 (by simp [go_sem]; omega) (by rw [rowCells_setRow_other _ _ _ _ (by omega), rowCells_old _ _ _ (by omega)]; exact rd5)
  have ra6 : w6.rowCells w3.heap.size = dgst d := rowAt_below hb6 (by simp [go_sem]; omega) (by rw [rowCells_setRow_other _ _ _ _ (by omega), rowCells_old _ _ _ (by omega)]; exact ra5)
  have rb6 : w6.rowCells w4.heap.size = dgst d := rowAt_below hb6 (by simp [go_sem]; omega) (by rw [rowCells_setRow_other _ _ _ _ (by omega), rowCells_old _ _ _ (by omega)]; exact rb5)
  have rp6 : w6.rowCells w5.heap.size = dgst e := rowAt_below hb6 (by simp [go_sem]) (rowCells_setRow_same (n := 32) _ (by simp [go_sem]))
  have hB6 := (below_setRow (hB5.alloc (by omega) (.cells (dgst dig0) 25)) (g := w5.heap.size) (by omega) (dgst e)).trans (hb6.mono (by simp [go_sem]; omega))
  clear rd5 hB5 hb6 ra5 rb5
  go_upto_region 10 with fail
  have rd7 : ((w6.alloc (.cells (dgst dig0) 25)).setRow w6.heap.size (dgst e)).rowCells w.heap.size = dgst d := by rw [rowCells_setRow_other _ _ _ _ (by omega), rowCells_old _ _ _ (by omega)]; exact rd6
  have ra7 : ((w6.alloc (.cells (dgst dig0) 25)).setRow w6.heap.size (dgst e)).rowCells w3.heap.size = dgst d := by rw [rowCells_setRow_other _ _ _ _ (by omega), rowCells_old _ _ _ (by omega)]; exact ra6
  have rb7 : ((w6.alloc (.cells (dgst dig0) 25)).setRow w6.heap.size (dgst e)).rowCells w4.heap.size = dgst d := by rw [rowCells_setRow_other _ _ _ _ (by omega), rowCells_old _ _ _ (by omega)]; exact rb6
  have rp7 : ((w6.alloc (.cells (dgst dig0) 25)).setRow w6.heap.size (dgst e)).rowCells w5.heap.size = dgst e := by rw [rowCells_setRow_other _ _ _ _ (by omega), rowCells_old _ _ _ (by omega)]; exact rp6
  have rq7 : ((w6.alloc (.cells (dgst dig0) 25)).setRow w6.heap.size (dgst e)).rowCells w6.heap.size = dgst e := rowCells_setRow_same (n := 32) _ (by simp [go_sem])
  have hz7 : w6.heap.size < ((w6.alloc (.cells (dgst dig0) 25)).setRow w6.heap.size (dgst e)).heap.size := by simp [go_sem]
  have hB7 := below_setRow (hB6.alloc (by omega) (.cells (dgst dig0) 25)) (g := w6.heap.size) (by omega) (dgst e)
  clear rd6 ra6 rb6 rp6 hB6
  generalize (w6.alloc (.cells (dgst dig0) 25)).setRow w6.heap.size (dgst e) = w7 at *
  go_wp2_with fail
  refine (file_is 111 d X HX.out _).mono ?_
  rintro r8 w8 ⟨rfl, hb8⟩
  have hz8 := hb8.size
  have rd8 := rowAt_below (b := w.heap.size) hb8 (by omega) rd7
  have ra8 := rowAt_below (b := w3.heap.size) hb8 (by omega) ra7
  have rb8 := rowAt_below (b := w4.heap.size) hb8 (by omega) rb7
  have rp8 := rowAt_below (b := w5.heap.size) hb8 (by omega) rp7
  have rq8 := rowAt_below (b := w6.heap.size) hb8 (by omega) rq7
  have hB8 := hB7.trans (hb8.mono (by omega))
  clear rd7 ra7 rb7 rp7 rq7 hB7 hb8
  go_wp2_with fail
  refine (file_is 112 d Y HY.out _).mono ?_
  rintro r9 w9 ⟨rfl, hb9⟩
  have hz9 := hb9.size
  have rd9 := rowAt_below (b := w.heap.size) hb9 (by omega) rd8
  have ra9 := rowAt_below (b := w3.heap.size) hb9 (by omega) ra8
  have rb9 := rowAt_below (b := w4.heap.size) hb9 (by omega) rb8
  have rp9 := rowAt_below (b := w5.heap.size) hb9 (by omega) rp8
  have rq9 := rowAt_below (b := w6.heap.size) hb9 (by omega) rq8
  have hB9 := hB8.trans (hb9.mono (by omega))
  clear rd8 ra8 rb8 rp8 rq8 hB8 hb9
  have hqd : ∀ w, (Op.equalIn 10000 25 (.agg (dgst d)) (.agg (dgst d))).run Try.prog w = .ok true w := fun w => by
    rw [run_equalIn_dgst d d w, beq_self_eq_true]
  have hqe : ∀ w, (Op.equalIn 10000 25 (.agg (dgst e)) (.agg (dgst e))).run Try.prog w = .ok true w := fun w => by
    rw [run_equalIn_dgst e e w, beq_self_eq_true]
  have hxy : (X.toList == Y.toList) = false := by
    rw [HX.out, HY.out, toList_mk, toList_mk]; rfl
  go_wp2_with fail
  refine (HNX.out _).mono ?_
  rintro r10 w10 ⟨rfl, rfl⟩
  go_wp2_with fail
  refine (HNY.out _).mono ?_
  rintro r11 w11 ⟨rfl, rfl⟩
  go_wp2_with fail
  go_ret
  exact ⟨rfl, hB9⟩
end Go.Proofs.Ytkkfnpbbigcpbaa.nameFiles
