/- DeltaShort: what it returns. -/
import Derived.Test.YtjmbnfcjambdkaaDeltaAwake
namespace Go.Proofs.Ytjmbnfcjambdkaa.deltaShort
open Go.RowKit
theorem cp_ge (a b : List UInt8) (k : Nat) (h1 : k ≤ a.length) (h2 : k ≤ b.length) (h : a.take k = b.take k) : k ≤ cp a b := by
  by_cases hk : cp a b < k
  · exfalso
    refine cp_stop a b (by omega) (by omega) ?_
    have := congrArg (fun l => l[cp a b]?) h
    simpa [List.getElem?_take, hk] using this
  · omega
theorem mid_le (f m k o : List UInt8) : (midOf (f ++ o ++ k) (f ++ m ++ k)).length ≤ m.length := by
  obtain ⟨a, ha⟩ : ∃ a, f ++ o ++ k = a := ⟨_, rfl⟩
  obtain ⟨b, hb⟩ : ∃ b, f ++ m ++ k = b := ⟨_, rfl⟩
  have hal : a.length = f.length + o.length + k.length := by rw [← ha]; simp; omega
  have hbl : b.length = f.length + m.length + k.length := by rw [← hb]; simp; omega
  have h1 : f.length ≤ cp a b := by
    refine cp_ge a b _ (by omega) (by omega) ?_
    rw [← ha, ← hb, List.append_assoc, List.append_assoc, List.take_left, List.take_left]
  have hc := cp_le a b
  have hbk := back_le a b
  have key : min (min (a.length - cp a b) (b.length - cp a b)) k.length ≤ backOf a b := by
    unfold backOf
    refine cp_ge _ _ _ (by simp; omega) (by simp; omega) ?_
    have side : ∀ (x y : List UInt8) (c n : Nat), n ≤ (x ++ y).length - c → n ≤ y.length → ((x ++ y).drop c).reverse.take n = y.reverse.take n := by
      intro x y c n h1 h2
      rw [List.reverse_drop, List.take_take, Nat.min_eq_left h1, List.reverse_append, List.take_append_of_le_length (by simpa using h2)]
    have ea := side (f ++ o) k (cp a b) (min (min (a.length - cp a b) (b.length - cp a b)) k.length) (by rw [ha]; omega) (by omega)
    have eb := side (f ++ m) k (cp a b) (min (min (a.length - cp a b) (b.length - cp a b)) k.length) (by rw [hb]; omega) (by omega)
    rw [ha] at ea
    rw [hb] at eb
    rw [ea, eb]
  rw [ha, hb, mid_length]
  unfold frontOf at *
  omega
theorem short_d (a b : List UInt8) : (dOf a b).length ≤ (midOf a b).length + 35 := by
  have e : (dOf a b).length = 12 + ((partsOf a b).flatMap layPt).length := by
    unfold dOf deltaOf
    simp only [List.length_append, be_length, List.length_nil]; omega
  rw [e]
  have h1 : ((if 0 < frontOf a b then [(⟨0, 0, frontOf a b, []⟩ : Pt)] else []).flatMap layPt).length ≤ 9 := by
    split <;> simp [layPt, be_length]
  have h2 : ((if midOf a b ≠ [] then [(⟨1, 0, 0, midOf a b⟩ : Pt)] else []).flatMap layPt).length ≤ 5 + (midOf a b).length := by
    split <;> simp [layPt, lenL, be_length] <;> omega
  have h3 : ((if 0 < backOf a b then [(⟨0, a.length - backOf a b, backOf a b, []⟩ : Pt)] else []).flatMap layPt).length ≤ 9 := by
    split <;> simp [layPt, be_length]
  unfold partsOf
  rw [List.flatMap_append, List.flatMap_append, List.length_append, List.length_append]
  omega
theorem run_max4 (x y z u : Int) (w : World) : (Builtin.max_ #[3, 3, 3, 3] 3 #[.int .i64 x, .int .i64 y, .int .i64 z, .int .i64 u]).run Try.prog w = .ok (.int .i64 (max (max (max x y) z) u)) w := by
  have e : ∀ a b : Int, (if b > a then b else a) = max a b := fun a b => by split <;> omega
  simp [Builtin.max_, Builtin.max2, e]
set_option maxRecDepth 20000 in
set_option maxHeartbeats 4000000 in
theorem walk (s1 s2 s3 s4 : ByteArray) (w : World) (q1 : s1.size ≤ maxLen) (q2 : s2.size ≤ maxLen) (q3 : s3.size ≤ maxLen) (q4 : s4.size ≤ maxLen) :
    Calls Try.prog 6 #[.string s1, .string s2, .string s3, .string s4] w fun e w' => e = .returned (.bool true) ∧ Below w.heap.size w w' := by
  obtain ⟨f, rfl⟩ : ∃ a : List UInt8, s1 = ⟨a.toArray⟩ := ⟨s1.data.toList, by simp⟩
  obtain ⟨m, rfl⟩ : ∃ a : List UInt8, s2 = ⟨a.toArray⟩ := ⟨s2.data.toList, by simp⟩
  obtain ⟨k, rfl⟩ : ∃ a : List UInt8, s3 = ⟨a.toArray⟩ := ⟨s3.data.toList, by simp⟩
  obtain ⟨o, rfl⟩ : ∃ a : List UInt8, s4 = ⟨a.toArray⟩ := ⟨s4.data.toList, by simp⟩
  have l1 := ba_len f
  have l2 := ba_len m
  have l3 := ba_len k
  have l4 := ba_len o
  unfold maxLen at q1 q2 q3 q4
  by_cases h0 : f.length ≤ 1000 ∧ m.length ≤ 1000 ∧ k.length ≤ 1000 ∧ o.length ≤ 1000
  · obtain ⟨h1, h2, h3, h4⟩ := h0
    have c1 := cat_str f o
    have c2 := cat_str (f ++ o) k
    have c3 := cat_str f m
    have c4 := cat_str (f ++ m) k
    have HML := hide (mid_le f m k o)
    have HSD := hide (short_d (f ++ o ++ k) (f ++ m ++ k))
    obtain ⟨a, ha⟩ : ∃ a, Hid (f ++ o ++ k = a) := ⟨_, hide rfl⟩
    obtain ⟨b, hb⟩ : ∃ b, Hid (f ++ m ++ k = b) := ⟨_, hide rfl⟩
    have hal := hide (show a.length ≤ 3000 by rw [← ha.out]; simp; omega)
    have hbl := hide (show b.length ≤ 3000 by rw [← hb.out]; simp; omega)
    rw [ha.out] at c2 HML HSD
    rw [hb.out] at c4 HML HSD
    have z1 := ba_len (f ++ o)
    have z2 := ba_len (f ++ m)
    rw [List.length_append] at z1 z2
    have imax : ¬ (1000 : Int) < max (max (max (f.length : Int) (m.length : Int)) (k.length : Int)) (o.length : Int) := by omega
    have hmx := fun w => run_max4 (f.length : Int) (m.length : Int) (k.length : Int) (o.length : Int) w
    obtain ⟨MX, hMX⟩ : ∃ MX, max (max (max (f.length : Int) (m.length : Int)) (k.length : Int)) (o.length : Int) = MX := ⟨_, rfl⟩
    rw [hMX] at imax
    simp only [hMX] at hmx
    clear hMX
    go_enter Try.func6, Try.ntmps6
    go_wp2_with fail
    refine (awake20_any _).mono ?_
    rintro e1 w1 ⟨rfl, hb1⟩
    have HB1 := hide hb1
    clear hb1
    go_wp2_with fail
    refine (make_d a b w1 (by have := hal.out; omega) (by have := hbl.out; omega)).mono ?_
    rintro e2 w2 ⟨rfl, hb2⟩
    have HB2 := hide (HB1.out.trans (hb2.mono HB1.out.size))
    have HA := hide (apply_d a b w2 (by have := hal.out; omega) (by have := hbl.out; omega))
    clear hb2
    obtain ⟨D, hDD⟩ : ∃ D, Hid (dOf a b = D) := ⟨_, hide rfl⟩
    rw [hDD.out] at HA HSD ⊢
    go_wp2_with fail
    refine HA.out.mono ?_
    rintro e3 w3 ⟨rfl, hb3⟩
    have HB3 := hide (HB2.out.trans (hb3.mono HB2.out.size))
    clear hb3 HA
    go_wp2_with fail
    refine (make_d [] m w3 (by simp) (by omega)).mono ?_
    rintro e4 w4 ⟨rfl, hb4⟩
    have HB4 := hide (HB3.out.trans (hb4.mono HB3.out.size))
    have HA2 := hide (apply_d [] m w4 (by simp) (by omega))
    clear hb4
    obtain ⟨D2, hDD2⟩ : ∃ D, Hid (dOf [] m = D) := ⟨_, hide rfl⟩
    rw [hDD2.out] at HA2 ⊢
    go_wp2_with fail
    refine HA2.out.mono ?_
    rintro e5 w5 ⟨rfl, hb5⟩
    have HB5 := hide (HB4.out.trans (hb5.mono HB4.out.size))
    clear hb5 HA2
    have hlen := ba_len D
    have hshort : (D.length : Int) ≤ (m.length : Int) + 35 := by have := HML.out; have := HSD.out; omega
    go_wp2_with fail
    go_ret
    exact ⟨rfl, HB5.out⟩
  · have imax : (1000 : Int) < max (max (max (f.length : Int) (m.length : Int)) (k.length : Int)) (o.length : Int) := by omega
    clear h0
    have hmx := fun w => run_max4 (f.length : Int) (m.length : Int) (k.length : Int) (o.length : Int) w
    obtain ⟨MX, hMX⟩ : ∃ MX, max (max (max (f.length : Int) (m.length : Int)) (k.length : Int)) (o.length : Int) = MX := ⟨_, rfl⟩
    rw [hMX] at imax
    simp only [hMX] at hmx
    clear hMX
    go_enter Try.func6, Try.ntmps6
    go_wp2_with (go_at_call 16; refine (awake20_any _).mono ?_; rintro e1 w1 ⟨rfl, hb1⟩; have HB1 := hide hb1; clear hb1)
    go_ret
    exact ⟨rfl, HB1.out⟩
end Go.Proofs.Ytjmbnfcjambdkaa.deltaShort
