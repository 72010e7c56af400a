/- wire.Rows over parts of a delta: what was laid is taken. -/
import Derived.Test.YtjmbnfcjambdkaaDeltaTake
namespace Go.Proofs.Ytjmbnfcjambdkaa
open Go.RowKit
theorem info_pt : (Try.prog.info? 78).map (fun i => (i.zero, i.size, i.bytes)) = some (some (.agg #[.int .u8 0, .int .i64 0, .int .i64 0, .string ⟨#[]⟩]), 4, 40) := by kernel_rfl
set_option maxRecDepth 20000 in
set_option maxHeartbeats 4000000 in
theorem rowsPt_any (b : Nat) (xs : List Pt) (rest : List UInt8) (w : World) (h : IsIn w b ⟨0, be 4 xs.length ++ (xs.flatMap layPt ++ rest)⟩) (hs : rest.length ≤ 1000000) (hn : xs.length ≤ 64) (hx : ∀ x ∈ xs, x.plain) :
    Calls Try.prog 51 #[.pointer (some ⟨b, 0, none⟩), .int .i64 64, .func (.func 52) #[] #[]] w fun q w' => (∃ a c, q = .returned (.slice a xs.length c) ∧ w'.ownsRow w.heap.size 78 4 (.slice a xs.length c) xs.length (ptCells xs)) ∧ IsIn w' b ⟨0, rest⟩ ∧ w.grownBy w' (some b) := by
  obtain ⟨i0, hi, hz0, hz1, hz2⟩ := info_parts info_pt
  have HI := hide hi
  have Hz0 := hide hz0
  have Hz1 := hide hz1
  have Hz2 := hide hz2
  have H := hide h
  have HX := hide hx
  have hblt := h.lt
  have hc := Rd.count_app xs.length (xs.flatMap layPt ++ rest) 64 (by omega)
  rw [if_neg (by omega)] at hc
  have HC := hide hc
  have hfl := flat_len layPt 100005 xs (fun p hp => layPt_length p (hx p hp).1)
  clear h hc hx hi hz0 hz1 hz2
  go_enter Try.func51, Try.ntmps51
  go_wp2_with fail
  refine (count_named b _ ⟨0, xs.flatMap layPt ++ rest⟩ 64 xs.length _ H.out (by simp only [List.length_append, be_length]; omega) (by omega) (by omega) (by rw [HC.out]) (by rw [HC.out])).mono ?_
  rintro e w1 ⟨rfl, h1, h2⟩
  have H1 := hide h1
  have H2 := hide h2
  clear h1 h2
  go_wp2_with fail
  go_loopw [8, 7] (fun i v wr => ∃ k : Nat, k ≤ xs.length ∧ i = .int .i64 ((xs.length - k : Nat) : Int) ∧ (∃ a c, v = .slice a k c) ∧ wr.ownsRow w.heap.size 78 4 v k (ptCells (xs.take k)) ∧ IsIn wr b ⟨0, (xs.drop k).flatMap layPt ++ rest⟩ ∧ w.grownBy wr (some b)) (fun i _ _ => (intOf i).toNat)
  case atStart => exact ⟨0, by omega, rfl, ⟨none, 0, rfl⟩, World.ownsRow_nil _ _ _ _, H1.out, H2.out⟩
  case round =>
    obtain ⟨k, hk, rfl, ⟨a, c, rfl⟩, hown, hin, hg⟩ := hrel
    have HO := hide hown
    have HN := hide hin
    have HG := hide hg
    clear hown hin hg
    by_cases hlt : k < xs.length
    · obtain ⟨m, hmk⟩ : ∃ m, Hid (xs.length - k = m + 1) := ⟨xs.length - k - 1, hide (by omega)⟩
      rw [hmk.out]
      obtain ⟨x, hxk⟩ : ∃ x, Hid (xs[k] = x) := ⟨_, hide rfl⟩
      have hxm := hide (hxk.out ▸ HX.out _ (List.getElem_mem hlt))
      have HD := hide (show (xs.drop k).flatMap layPt ++ rest = layPt x ++ ((xs.drop (k + 1)).flatMap layPt ++ rest) by
        rw [List.drop_eq_getElem_cons hlt, List.flatMap_cons, hxk.out, List.append_assoc])
      have hml : m < 1000 := by have := hmk.out; omega
      have hlen := hide (show ((xs.drop k).flatMap layPt ++ rest).length ≤ 100000000 by
        have := flat_len layPt 100005 (xs.drop k) (fun y hy => layPt_length y (HX.out y (List.mem_of_mem_drop hy)).1)
        rw [List.length_drop] at this
        rw [List.length_append]; omega)
      go_wp2_with fail
      refine (ok_true b _ _ HN.out rfl).mono ?_
      rintro e w2 ⟨rfl, rfl⟩
      go_wp2_with fail
      refine (take_pt b x ((xs.drop (k + 1)).flatMap layPt ++ rest) _ HD.out _ HN.out (by have := hlen.out; omega) hxm.out).mono ?_
      rintro e w2 ⟨rfl, hin2, hg2⟩
      have HN2 := hide hin2
      have HO2 := hide (owned_below (owned_grown HO.out hg2 hblt) ((Below.refl _ w2).alloc (Nat.le_refl _) (.cells #[.int .u8 (x.kind : Int), .int .i64 (x.at' : Int), .int .i64 (x.ln : Int), .string ⟨x.text.toArray⟩] 78)))
      have HG2 := hide (World.grownBy.trans (HG.out.trans hg2) (World.grownBy_alloc w2 (.cells #[.int .u8 (x.kind : Int), .int .i64 (x.at' : Int), .int .i64 (x.ln : Int), .string ⟨x.text.toArray⟩] 78) (some b)))
      have HZ := hide HG2.out.size
      clear hin2 hg2
      have HS := hide (show ptCells (xs.take (k + 1)) = ptCells (xs.take k) ++ [.int .u8 (x.kind : Int), .int .i64 (x.at' : Int), .int .i64 (x.ln : Int), .string ⟨x.text.toArray⟩] by rw [List.take_succ_eq_append_getElem hlt, hxk.out]; exact ptCells_snoc _ _)
      go_wp2_with (at_builtin; refine wpList_append_reads rfl _ _ 76 rfl w.heap.size 78 i0 (.agg #[.int .u8 0, .int .i64 0, .int .i64 0, .string ⟨#[]⟩]) 4 40 Try.underlying76 HI.out Hz0.out Hz1.out Hz2.out rfl (by decide) _ k (ptCells (xs.take k)) rfl HO2.out _ 1 [.int .u8 (x.kind : Int), .int .i64 (x.at' : Int), .int .i64 (x.ln : Int), .string ⟨x.text.toArray⟩] rfl (reads_fresh _ [.int .u8 (x.kind : Int), .int .i64 (x.at' : Int), .int .i64 (x.ln : Int), .string ⟨x.text.toArray⟩] 78 4 1 rfl (by simp [Value.oneCell']) (by unfold maxLen; omega)) (by unfold maxLen; omega) (by omega) HZ.out ?_; intro a' c' w3 hown3 hg3)
      have HO3 := hide hown3
      have HG3 := hide hg3
      clear hown3 hg3
      go_roundw
      case rel =>
        refine ⟨k + 1, by omega, ?_, ⟨a', c', rfl⟩, by rw [HS.out]; exact HO3.out, ?_, grown_own HG2.out HG3.out (fun j hj => owned_ge HO2.out j hj)⟩
        · have := hmk.out
          congr 1; omega
        · have h1 : IsIn (w2.alloc (.cells #[.int .u8 (x.kind : Int), .int .i64 (x.at' : Int), .int .i64 (x.ln : Int), .string ⟨x.text.toArray⟩] 78)) b ⟨0, (xs.drop (k + 1)).flatMap layPt ++ rest⟩ := HN2.out.below ((Below.refl _ w2).alloc (Nat.le_refl _) _)
          exact (HG3.out.block b h1.lt (fun e => by have := owned_ge HO2.out b e.symm; omega)).trans h1
      case measure => simp [intOf]
    · obtain rfl : k = xs.length := by omega
      rw [Nat.sub_self]
      go_wp2_with fail
      refine (ok_true b _ _ HN.out rfl).mono ?_
      rintro e w2 ⟨rfl, rfl⟩
      go_wp2_with fail
      go_ret
      have h3 := HN.out
      have h4 := HO.out
      rw [List.drop_length] at h3
      rw [List.take_length] at h4
      exact ⟨⟨a, c, rfl, h4⟩, h3, HG.out⟩
end Go.Proofs.Ytjmbnfcjambdkaa
