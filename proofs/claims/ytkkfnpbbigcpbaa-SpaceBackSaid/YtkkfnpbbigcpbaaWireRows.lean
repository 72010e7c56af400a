/- wire.Rows at texts: of what was laid. -/
import Derived.Test.YtkkfnpbbigcpbaaWireRow
import Derived.Test.YtkkfnpbbigcpbaaConcat
namespace Go.Proofs.Ytkkfnpbbigcpbaa
open Go.RowKit

theorem owned_grown {w w' : World} {base size n b : Nat} {e : TypeId} {v : Value} {cs : List Value} (h : w.ownsRow base e size v n cs) (hg : w.grownBy w' (some b)) (hb : b < base) : w'.ownsRow base e size v n cs := by
  obtain ⟨h1, h2 | ⟨g, cap, cur, e1, hgb, hc, h3⟩⟩ := h
  · exact ⟨h1, .inl h2⟩
  · refine ⟨h1, .inr ⟨g, cap, cur, e1, hgb, ?_, h3⟩⟩
    rw [hg.block g (lt_of_heap hc) (by intro e2; cases e2; omega)]
    exact hc
/-- What was there but for block b lies on, whatever row of the call's own grows. -/
theorem grown_own {w w0 w' : World} {b : Nat} {v : Value} (h : w.grownBy w0 (some b)) (hg : w0.grownBy w' v.ownBlock) (hv : ∀ k, v.ownBlock = some k → w.heap.size ≤ k) : w.grownBy w' (some b) :=
  h.andThen hg (fun j hj => .inl (hv j hj))
/-- Function f takes a text of at most 300 bytes. -/
def Takes1 (f : FuncId) : Prop := ∀ (b : Nat) (r r' : Rd) (l : List UInt8) (w : World), IsIn w b r → r.s.length ≤ 1000000000 → (r.text 300).1 = l → (r.text 300).2 = r' →
  Calls Try.prog f #[.pointer (some ⟨b, 0, none⟩)] w fun q w' => q = .returned (.string ⟨l.toArray⟩) ∧ IsIn w' b r' ∧ w.grownBy w' (some b)
theorem take1 : Takes1 77 := by
  intro b r r' l w h hs hl hr
  have H := hide h
  clear h
  have HL := hide hl
  have HR := hide hr
  clear hl hr
  go_enter Try.func77, Try.ntmps77
  go_wp2_with fail
  refine (text_named b r r' 300 l _ H.out hs (by omega) (by omega) HL.out HR.out).mono ?_
  rintro e w1 ⟨rfl, h1, h2⟩
  have H1 := hide h1
  have H2 := hide h2
  clear h1 h2
  go_wp2_with fail
  go_ret
  exact ⟨rfl, H1.out, H2.out⟩
theorem call3 : ∀ (args : Array Value) (w' : World), (callFunc 77 args).run Try.prog w' = .ok (.enter 77 args) w' := fun _ _ => by kernel_rfl
theorem count_named (b : Nat) (r r' : Rd) (most n : Int) (w : World) (h : IsIn w b r) (hs : r.s.length ≤ 1000000000) (hm0 : 0 ≤ most) (hm1 : most ≤ 1000000000) (hn : (r.count most).1 = n) (hr : (r.count most).2 = r') :
    Calls Try.prog 54 #[.pointer (some ⟨b, 0, none⟩), .int .i64 most] w fun q w' => q = .returned (.int .i64 n) ∧ IsIn w' b r' ∧ w.grownBy w' (some b) := by
  subst hn hr; exact count_any b r most w h hs hm0 hm1
theorem info_str : (Try.prog.info? 9).map (fun i => (i.zero, i.size, i.bytes)) = some (some (.string ByteArray.empty), 1, 16) := by kernel_rfl
theorem ok_true (b : Nat) (r : Rd) (w : World) (h : IsIn w b r) (he : r.err = 0) : Calls Try.prog 101 #[.pointer (some ⟨b, 0, none⟩)] w fun q w' => q = .returned (.bool true) ∧ w = w' := by
  have := ok_any b r w h
  rw [he] at this
  exact this
theorem ok_false (b : Nat) (r : Rd) (w : World) (h : IsIn w b r) (he : r.err ≠ 0) : Calls Try.prog 101 #[.pointer (some ⟨b, 0, none⟩)] w fun q w' => q = .returned (.bool false) ∧ w = w' := by
  have := ok_any b r w h
  rw [show (r.err == 0) = false by simpa using he] at this
  exact this
set_option maxRecDepth 20000 in
set_option maxHeartbeats 2000000 in
theorem rows_many (f : FuncId) (b : Nat) (n : Nat) (rest : List UInt8) (most : Int) (w : World) (h : IsIn w b ⟨0, be 4 n ++ rest⟩) (hs : rest.length ≤ 1000000) (hn : n ≤ 1000) (hm0 : 0 ≤ most) (hm : most < n) :
    Calls Try.prog 80 #[.pointer (some ⟨b, 0, none⟩), .int .i64 most, .func (.func f) #[] #[]] w fun q w' => q = .returned (.slice none 0 0) ∧ IsIn w' b ⟨6, rest⟩ ∧ w.grownBy w' (some b) := by
  have H := hide h
  have hc := Rd.count_app n rest most (by omega)
  rw [if_pos (by omega)] at hc
  have HC := hide hc
  clear h hc
  go_enter Try.func80, Try.ntmps80
  go_wp2_with fail
  refine (count_named b _ ⟨6, rest⟩ most 0 _ H.out (by simp [be_length]; omega) hm0 (by omega) (by rw [HC.out]) (by rw [HC.out])).mono ?_
  rintro e w1 ⟨rfl, h1, h2⟩
  have H1 := hide h1
  have H2 := hide h2
  clear h1 h2
  go_wp2_with fail
  go_loop [8] (fun i => i = .int .i64 0) (fun i => 0 - (intOf i).toNat)
  case atStart => rfl
  case round =>
    subst hrel
    go_wp2_with fail
    refine (ok_false b _ _ H1.out (by simp)).mono ?_
    rintro e w1 ⟨rfl, rfl⟩
    go_wp2_with fail
    go_ret
    exact ⟨rfl, H1.out, H2.out⟩
set_option maxRecDepth 20000 in
set_option maxHeartbeats 4000000 in
theorem rows_any (f : FuncId) (hcall : ∀ (args : Array Value) (w' : World), (callFunc f args).run Try.prog w' = .ok (.enter f args) w') (hf : Takes1 f) (b : Nat) (xs : List ByteArray) (rest : List UInt8) (most : Int) (w : World) (h : IsIn w b ⟨0, be 4 xs.length ++ (xs.flatMap lenText ++ rest)⟩) (hs : rest.length ≤ 1000000) (hn : xs.length ≤ 1000) (hx : ∀ x ∈ xs, x.size ≤ 300) (hm0 : 0 ≤ most) (hm : xs.length ≤ most) (hm1 : most ≤ 1000000) :
    Calls Try.prog 80 #[.pointer (some ⟨b, 0, none⟩), .int .i64 most, .func (.func f) #[] #[]] w fun q w' => (∃ a c, q = .returned (.slice a xs.length c) ∧ w'.ownsRow w.heap.size 9 1 (.slice a xs.length c) xs.length (strs xs)) ∧ IsIn w' b ⟨0, rest⟩ ∧ w.grownBy w' (some b) := by
  obtain ⟨i0, hi, hz0, hz1, hz2⟩ := info_parts info_str
  have HI := hide hi
  have Hz0 := hide hz0
  have Hz1 := hide hz1
  have Hz2 := hide hz2
  have H := hide h
  have HX := hide hx
  have HF := hide hf
  have hblt := h.lt
  have hc := Rd.count_app xs.length (xs.flatMap lenText ++ rest) most (by omega)
  rw [if_neg (by omega)] at hc
  have HC := hide hc
  have hfl := flat_len lenText 304 xs (lenText_le xs 300 hx)
  clear h hc hx hi hz0 hz1 hz2 hf
  go_enter Try.func80, Try.ntmps80
  go_wp2_with fail
  refine (count_named b _ ⟨0, xs.flatMap lenText ++ rest⟩ most xs.length _ H.out (by simp only [List.length_append, be_length]; omega) hm0 (by omega) (by rw [HC.out]) (by rw [HC.out])).mono ?_
  rintro e w1 ⟨rfl, h1, h2⟩
  have H1 := hide h1
  have H2 := hide h2
  clear h1 h2
  go_wp2_with fail
  go_loopw [8, 7] (fun i v wr => ∃ k : Nat, k ≤ xs.length ∧ i = .int .i64 ((xs.length - k : Nat) : Int) ∧ (∃ a c, v = .slice a k c) ∧ wr.ownsRow w.heap.size 9 1 v k (strs (xs.take k)) ∧ IsIn wr b ⟨0, (xs.drop k).flatMap lenText ++ rest⟩ ∧ w.grownBy wr (some b)) (fun i _ _ => (intOf i).toNat)
  case atStart => exact ⟨0, by omega, rfl, ⟨none, 0, rfl⟩, World.ownsRow_nil _ _ _ _, H1.out, H2.out⟩
  case round =>
    obtain ⟨k, hk, rfl, ⟨a, c, rfl⟩, hown, hin, hg⟩ := hrel
    have HO := hide hown
    have HN := hide hin
    have HG := hide hg
    clear hown hin hg
    by_cases hlt : k < xs.length
    · obtain ⟨m, hmk⟩ : ∃ m, Hid (xs.length - k = m + 1) := ⟨xs.length - k - 1, hide (by omega)⟩
      rw [hmk.out]
      obtain ⟨x, hxk⟩ : ∃ x, Hid (xs[k] = x) := ⟨_, hide rfl⟩
      have hxm := hide (show x.size ≤ 300 from hxk.out ▸ HX.out _ (List.getElem_mem hlt))
      have HD := hide (show (xs.drop k).flatMap lenText ++ rest = be 4 x.data.toList.length ++ x.data.toList ++ ((xs.drop (k + 1)).flatMap lenText ++ rest) by
        rw [List.drop_eq_getElem_cons hlt, List.flatMap_cons, hxk.out, lenText]
        have : x.data.toList.length = x.size := by simp
        rw [this]; simp)
      have hxl : x.data.toList.length ≤ 300 := by have := hxm.out; simpa using this
      have HT := hide (Rd.text_app x.data.toList ((xs.drop (k + 1)).flatMap lenText ++ rest) 300 (by omega) (by omega))
      have hml : m < 1000 := by have := hmk.out; omega
      have hlen := hide (show ((xs.drop k).flatMap lenText ++ rest).length ≤ 1000000000 by
        have := flat_len lenText 304 (xs.drop k) (fun y hy => lenText_le xs 300 HX.out y (List.mem_of_mem_drop hy))
        rw [List.length_drop] at this
        rw [List.length_append]; omega)
      clear hxl
      go_wp2_with fail
      refine (ok_true b _ _ HN.out rfl).mono ?_
      rintro e w2 ⟨rfl, rfl⟩
      go_wp2_with fail
      refine (HF.out b _ ⟨0, (xs.drop (k + 1)).flatMap lenText ++ rest⟩ x.data.toList _ HN.out hlen.out (by rw [HD.out, HT.out]) (by rw [HD.out, HT.out])).mono ?_
      rintro e w2 ⟨rfl, hin2, hg2⟩
      have hxx : (⟨x.data.toList.toArray⟩ : ByteArray) = x := by simp
      rw [hxx]
      have HN2 := hide hin2
      have HO2 := hide (owned_below (owned_grown HO.out hg2 hblt) ((Below.refl _ w2).alloc (Nat.le_refl _) (.cells #[.string x] 9)))
      have HG2 := hide (World.grownBy.trans (HG.out.trans hg2) (World.grownBy_alloc w2 (.cells #[.string x] 9) (some b)))
      have HZ := hide HG2.out.size
      clear hin2 hg2 hxx
      have HS := hide (show strs (xs.take (k + 1)) = strs (xs.take k) ++ [.string x] by rw [List.take_succ_eq_append_getElem hlt, hxk.out]; simp [strs])
      go_wp2_with (at_builtin; refine wpList_append_reads rfl _ _ 75 rfl w.heap.size 9 i0 (.string ByteArray.empty) 1 16 Try.underlying75 HI.out Hz0.out Hz1.out Hz2.out rfl (by decide) _ k (strs (xs.take k)) rfl HO2.out _ 1 [.string x] rfl (reads_fresh _ [.string x] 9 1 1 rfl (by simp [Value.oneCell']) (by unfold maxLen; omega)) (by unfold maxLen; omega) (by omega) HZ.out ?_; intro a' c' w3 hown3 hg3)
      have HO3 := hide hown3
      have HG3 := hide hg3
      clear hown3 hg3
      go_roundw
      case rel =>
        refine ⟨k + 1, by omega, ?_, ⟨a', c', rfl⟩, by rw [HS.out]; exact HO3.out, ?_, grown_own HG2.out HG3.out (fun j hj => owned_ge HO2.out j hj)⟩
        · have := hmk.out
          congr 1; omega
        · have h1 : IsIn (w2.alloc (.cells #[.string x] 9)) b ⟨0, (xs.drop (k + 1)).flatMap lenText ++ rest⟩ := HN2.out.below ((Below.refl _ w2).alloc (Nat.le_refl _) _)
          exact (HG3.out.block b h1.lt (fun e => by have := owned_ge HO2.out b e.symm; omega)).trans h1
      case measure => simp [intOf]
    · obtain rfl : k = xs.length := by omega
      rw [Nat.sub_self]
      go_wp2_with fail
      refine (ok_true b _ _ HN.out rfl).mono ?_
      rintro e w2 ⟨rfl, rfl⟩
      go_wp2_with fail
      go_ret
      have h3 := HN.out
      have h4 := HO.out
      rw [List.drop_length] at h3
      rw [List.take_length] at h4
      exact ⟨⟨a, c, rfl, h4⟩, h3, HG.out⟩
end Go.Proofs.Ytkkfnpbbigcpbaa
