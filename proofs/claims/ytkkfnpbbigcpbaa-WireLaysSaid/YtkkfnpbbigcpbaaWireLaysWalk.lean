/- WireLays: what it returns of any things. -/
import Derived.Test.YtkkfnpbbigcpbaaWireRow
namespace Go.Proofs.Ytkkfnpbbigcpbaa.wireLays
open Go.RowKit

theorem outByte' (s : List UInt8) (c : UInt8) (B : List UInt8) (hB : B = s ++ [c]) (w : World) (hs : s.length ≤ 1000000000) :
    Calls Try.prog 62 #[.agg #[.string ⟨s.toArray⟩], .int .u8 (c.toNat : Int)] w fun e w' => e = .returned (.agg #[.string ⟨B.toArray⟩]) ∧ Below w.heap.size w w' := hB ▸ outByte s c w hs
theorem outFour' (s : List UInt8) (v : Value) (xs : List Int) (B : List UInt8) (hB : B = s ++ xs.flatMap fun n => be 4 n.toNat) (w : World) (hr : Reads w 1 v xs.length (nums xs)) (hx : ∀ n ∈ xs, (Lit.int .u32 n).wf = true) (hs : s.length + 4 * xs.length ≤ 1000000000) :
    Calls Try.prog 63 #[.agg #[.string ⟨s.toArray⟩], v] w fun e w' => e = .returned (.agg #[.string ⟨B.toArray⟩]) ∧ Below w.heap.size w w' := hB ▸ outFour s v xs w hr hx hs
theorem outEight' (s : List UInt8) (v : Value) (xs : List Int) (B : List UInt8) (hB : B = s ++ xs.flatMap fun n => be 8 n.toNat) (w : World) (hr : Reads w 1 v xs.length (nums8 xs)) (hx : ∀ n ∈ xs, (Lit.int .u64 n).wf = true) (hs : s.length + 8 * xs.length ≤ 1000000000) :
    Calls Try.prog 64 #[.agg #[.string ⟨s.toArray⟩], v] w fun e w' => e = .returned (.agg #[.string ⟨B.toArray⟩]) ∧ Below w.heap.size w w' := hB ▸ outEight s v xs w hr hx hs
theorem outText' (s : List UInt8) (v : Value) (xs : List ByteArray) (B : List UInt8) (hB : B = s ++ xs.flatMap lenText) (w : World) (hr : Reads w 1 v xs.length (strs xs)) (hx : ∀ x ∈ xs, x.size ≤ 1000) (hs : s.length ≤ 1000000) (hn : xs.length ≤ 100) :
    Calls Try.prog 65 #[.agg #[.string ⟨s.toArray⟩], v] w fun e w' => e = .returned (.agg #[.string ⟨B.toArray⟩]) ∧ Below w.heap.size w w' := hB ▸ outText s v xs 1000 w hr hx (by omega) (by omega)
theorem outDigest' (s : List UInt8) (v : Value) (xs : List Dig) (B : List UInt8) (hB : B = s ++ xs.flatMap Dig.bytes) (w : World) (hr : Reads w 32 v xs.length (dcells xs)) (hs : s.length + 32 * xs.length ≤ 1000000000) :
    Calls Try.prog 66 #[.agg #[.string ⟨s.toArray⟩], v] w fun e w' => e = .returned (.agg #[.string ⟨B.toArray⟩]) ∧ Below w.heap.size w w' := hB ▸ outDigest s v xs w hr hs
theorem wf_lt {n : Int} (h : (Lit.int .u32 n).wf = true) : n < 4294967296 := by
  simp [Lit.wf, IntKind.min, IntKind.max, IntKind.signed, IntKind.bits] at h; omega
theorem digestRef' (d : Dig) (C : List UInt8) (hC : d.bytes = C) (w : World) :
    Calls Try.prog 61 #[.agg (dgst d)] w fun e w' => e = .returned (.string ⟨C.toArray⟩) ∧ Below w.heap.size w w' := hC ▸ digestRef d w
theorem raw_len (xs : List ByteArray) (h : ∀ x ∈ xs, x.size ≤ 1000) : (raw xs).length ≤ 1000 * xs.length := flat_len _ 1000 xs (fun x hx => by have := h x hx; simpa using this)
theorem outRaw' (s : List UInt8) (v : Value) (xs : List ByteArray) (B : List UInt8) (hB : B = s ++ raw xs) (w : World) (hr : Reads w 1 v xs.length (strs xs)) (hx : ∀ x ∈ xs, x.size ≤ 1000) (hs : s.length ≤ 1000000) (hn : xs.length ≤ 100) :
    Calls Try.prog 67 #[.agg #[.string ⟨s.toArray⟩], v] w fun e w' => e = .returned (.agg #[.string ⟨B.toArray⟩]) ∧ Below w.heap.size w w' := hB ▸ outRaw s v xs w hr (by omega) (by have := raw_len xs hx; omega)
set_option maxRecDepth 100000 in
set_option maxHeartbeats 8000000 in
theorem walk (b0 : Int) (v1 : Value) (xs : List Int) (v2 : Value) (ms : List Int) (v3 : Value) (ls : List ByteArray) (v4 : Value) (ds : List Dig) (w : World)
    (hb0 : (Lit.int .u8 b0).wf = true) (h1 : Reads w 1 v1 xs.length (nums xs)) (hx : ∀ n ∈ xs, (Lit.int .u32 n).wf = true) (h2 : Reads w 1 v2 ms.length (nums8 ms)) (hm : ∀ n ∈ ms, (Lit.int .u64 n).wf = true) (h3 : Reads w 1 v3 ls.length (strs ls)) (hls : ∀ x ∈ ls, x.size ≤ maxLen) (h4 : Reads w 32 v4 ds.length (dcells ds)) (z1 : xs.length ≤ 140737488351232) (z2 : ms.length ≤ 140737488351232) (z3 : ls.length ≤ 140737488351232) (z4 : ds.length ≤ 140737488351232) :
    Calls Try.prog 12 #[.int .u8 b0, v1, v2, v3, v4] w fun e w' => e = .returned (.bool true) ∧ Below w.heap.size w w' := by
  obtain ⟨c, rfl⟩ : ∃ c : UInt8, b0 = (c.toNat : Int) := by
    have hb8 : 0 ≤ b0 ∧ b0 ≤ 255 := by simpa [Lit.wf, IntKind.min, IntKind.max, IntKind.signed, IntKind.bits] using hb0
    exact ⟨UInt8.ofNat b0.toNat, by simp; omega⟩
  obtain ⟨a1, c1, rfl⟩ := h1.shape
  obtain ⟨a2, c2, rfl⟩ := h2.shape
  obtain ⟨a3, c3, rfl⟩ := h3.shape
  obtain ⟨a4, c4, rfl⟩ := h4.shape
  have hcb := byte_le c
  have R1 := hide h1
  have R2 := hide h2
  have R3 := hide h3
  have R4 := hide h4
  have HX := hide hx
  have HM := hide hm
  have HLS := hide hls
  clear h1 h2 h3 h4 hx hm hb0 hls
  by_cases h100 : 100 < xs.length + ms.length + ls.length + ds.length
  · have hd : (100 : Int) < (xs.length : Int) + (ms.length : Int) + (ls.length : Int) + (ds.length : Int) := by omega
    go_enter Try.func12, Try.ntmps12
    go_wp2_with fail
    refine (awake03_any _).mono ?_
    rintro e1 w1 ⟨rfl, hb1⟩
    have HB1 := hide hb1
    clear hb1
    go_wp2_with fail
    go_ret
    exact ⟨rfl, HB1.out⟩
  have hd : ¬ (100 : Int) < (xs.length : Int) + (ms.length : Int) + (ls.length : Int) + (ds.length : Int) := by omega
  have hcv := fun (w' : World) b => run_one c b w'
  go_enter Try.func12, Try.ntmps12
  go_wp2_with fail
  refine (awake03_any _).mono ?_
  rintro e1 w1 ⟨rfl, hb1⟩
  have HB1 := hide hb1
  clear hb1
  --LOOPS
  go_wp2_with fail
  obtain ⟨A0, hA0⟩ : ∃ A0, Hid (A0 = [c]) := ⟨_, hide rfl⟩
  have HA0 := hide (show A0.length = 1 by rw [hA0.out]; rfl)
  have HBa := hide (HB1.out.alloc HB1.out.size (.cells #[.int .u8 (c.toNat : Int)] 5))
  clear HB1
  rw [show (⟨#[c]⟩ : ByteArray) = ⟨A0.toArray⟩ by rw [hA0.out]]
  go_loopw [45, 11, 13] (fun i s _ wr => ∃ k : Nat, k ≤ xs.length ∧ i = .int .i64 k ∧ s = .string ⟨(A0 ++ (xs.take k).flatMap (fun n : Int => be 4 n.toNat)).toArray⟩ ∧ Below w.heap.size w wr) (fun i s _ _ => xs.length - (intOf i).toNat)
  case atStart => exact ⟨0, by omega, rfl, by simp, HBa.out⟩
  case round =>
    obtain ⟨k, hk, rfl, rfl, hb⟩ := hrel
    clear HBa
    have HBb := hide hb
    clear hb
    by_cases hlt : k < xs.length
    · have hlen := hide (flat_take_len (fun n : Int => be 4 n.toNat) 4 xs k (fun x _ => by rw [be_length]; omega))
      obtain ⟨b, o, c2, hv⟩ := R1.out.isRow (by omega)
      cases hv
      have HS := hide (flat_snoc (fun n : Int => be 4 n.toNat) xs k hlt)
      obtain ⟨T, hT⟩ : ∃ T, Hid (A0 ++ (xs.take k).flatMap (fun n : Int => be 4 n.toNat) = T) := ⟨_, hide rfl⟩
      rw [hT.out]
      have hTl := hide (show T.length ≤ 900000000 by have h1 := hlen.out; have h2 := HA0.out; rw [← hT.out, List.length_append]; omega)
      obtain ⟨x, hxk⟩ : ∃ x, Hid (xs[k] = x) := ⟨_, hide rfl⟩
      have hcell := (R1.out.below HBb.out).cellAt k _ (nums_get xs k hlt)
      rw [hxk.out] at hcell
      have hwf := hide (show (Lit.int .u32 x).wf = true from hxk.out ▸ HX.out _ (List.getElem_mem hlt))
      obtain ⟨C, hC⟩ : ∃ C, Hid (C = be 4 x.toNat) := ⟨_, hide rfl⟩
      have hCl := hide (show C.length = 4 by rw [hC.out, be_length])
      have hcat := cat_str T C
      have l0 : ¬ 9223372036854775807 < T.length + C.length := by have h1 := hTl.out; have h2 := hCl.out; omega
      have hwr : IntKind.u64.wrap x = x := wf_u32 hwf.out
      go_wp2_with fail
      refine (num4_named x C (wf_nonneg hwf.out) (wf_lt hwf.out) hC.out _).mono ?_
      rintro e2 w2 ⟨rfl, hb2⟩
      have HB2 := hide (HBb.out.trans (hb2.mono HBb.out.size))
      clear hb2
      go_wp2_with fail
      go_roundw
      case rel => exact ⟨k + 1, by omega, by go_num, by rw [HS.out, ← List.append_assoc, hT.out, hxk.out, hC.out], HB2.out⟩
      case measure => simp [intOf]; omega
    · obtain rfl : k = xs.length := by omega
      rw [List.take_length]
      obtain ⟨A1, hA1⟩ : ∃ A1, Hid (A1 = A0 ++ xs.flatMap (fun n : Int => be 4 n.toNat)) := ⟨_, hide rfl⟩
      rw [← hA1.out]
      have HA1 := hide (show A1.length ≤ 401 by rw [hA1.out, List.length_append]; have := flat_len (fun n : Int => be 4 n.toNat) 4 xs (fun x _ => by rw [be_length]; omega); have := HA0.out; omega)
      clear hk hlt
      go_wp2_with fail
      go_loopw [57, 11, 15] (fun i s _ wr => ∃ k : Nat, k ≤ ms.length ∧ i = .int .i64 k ∧ s = .string ⟨(A1 ++ (ms.take k).flatMap (fun n : Int => be 8 n.toNat)).toArray⟩ ∧ Below w.heap.size w wr) (fun i s _ _ => ms.length - (intOf i).toNat)
      case atStart => exact ⟨0, by omega, rfl, by simp, HBb.out⟩
      case round =>
        obtain ⟨k, hk, rfl, rfl, hb⟩ := hrel
        clear HBb
        have HBb := hide hb
        clear hb
        by_cases hlt : k < ms.length
        · have hlen := hide (flat_take_len (fun n : Int => be 8 n.toNat) 8 ms k (fun x _ => by rw [be_length]; omega))
          obtain ⟨b, o, c2, hv⟩ := R2.out.isRow (by omega)
          cases hv
          have HS := hide (flat_snoc (fun n : Int => be 8 n.toNat) ms k hlt)
          obtain ⟨T, hT⟩ : ∃ T, Hid (A1 ++ (ms.take k).flatMap (fun n : Int => be 8 n.toNat) = T) := ⟨_, hide rfl⟩
          rw [hT.out]
          have hTl := hide (show T.length ≤ 900000000 by have h1 := hlen.out; have h2 := HA1.out; rw [← hT.out, List.length_append]; omega)
          obtain ⟨x, hxk⟩ : ∃ x, Hid (ms[k] = x) := ⟨_, hide rfl⟩
          have hcell := (R2.out.below HBb.out).cellAt k _ (nums8_get ms k hlt)
          rw [hxk.out] at hcell
          have hwf := hide (show (Lit.int .u64 x).wf = true from hxk.out ▸ HM.out _ (List.getElem_mem hlt))
          obtain ⟨C, hC⟩ : ∃ C, Hid (C = be 8 x.toNat) := ⟨_, hide rfl⟩
          have hCl := hide (show C.length = 8 by rw [hC.out, be_length])
          have hcat := cat_str T C
          have l0 : ¬ 9223372036854775807 < T.length + C.length := by have h1 := hTl.out; have h2 := hCl.out; omega
          go_wp2_with fail
          refine (num8_named x C hwf.out hC.out _).mono ?_
          rintro e2 w2 ⟨rfl, hb2⟩
          have HB2 := hide (HBb.out.trans (hb2.mono HBb.out.size))
          clear hb2
          go_wp2_with fail
          go_roundw
          case rel => exact ⟨k + 1, by omega, by go_num, by rw [HS.out, ← List.append_assoc, hT.out, hxk.out, hC.out], HB2.out⟩
          case measure => simp [intOf]; omega
        · obtain rfl : k = ms.length := by omega
          rw [List.take_length]
          obtain ⟨A2, hA2⟩ : ∃ A2, Hid (A2 = A1 ++ ms.flatMap (fun n : Int => be 8 n.toNat)) := ⟨_, hide rfl⟩
          rw [← hA2.out]
          have HA2 := hide (show A2.length ≤ 1201 by rw [hA2.out, List.length_append]; have := flat_len (fun n : Int => be 8 n.toNat) 8 ms (fun x _ => by rw [be_length]; omega); have := HA1.out; omega)
          clear hk hlt
          go_wp2_with fail
          go_loopw [68, 11, 16, 18] (fun i s r _ wr => ∃ k : Nat, k ≤ ls.length ∧ i = .int .i64 k ∧ s = .string ⟨(A2 ++ (ls.take k).flatMap lenText).toArray⟩ ∧ r = .string ⟨(raw (ls.take k)).toArray⟩ ∧ (∀ x ∈ ls.take k, x.size ≤ 1000) ∧ Below w.heap.size w wr) (fun i _ _ _ _ => ls.length - (intOf i).toNat)
          case atStart => exact ⟨0, by omega, rfl, by simp, by simp [raw], by simp, HBb.out⟩
          case round =>
            obtain ⟨k, hk, rfl, rfl, rfl, hsz, hb⟩ := hrel
            clear HBb
            have HBb := hide hb
            have HSZ := hide hsz
            clear hb hsz
            by_cases hlt : k < ls.length
            · obtain ⟨b, o, c2, hv⟩ := R3.out.isRow (by omega)
              cases hv
              obtain ⟨x, hxk⟩ : ∃ x, Hid (ls[k] = x) := ⟨_, hide rfl⟩
              have hcell := (R3.out.below HBb.out).cellAt k _ (strs_get ls k hlt)
              rw [hxk.out] at hcell
              have hxm : x.size ≤ maxLen := hxk.out ▸ HLS.out _ (List.getElem_mem hlt)
              unfold maxLen at hxm
              by_cases hx1 : 1000 < x.size
              · have hx2 : (1000 : Int) < (x.size : Int) := by omega
                go_wp2_with fail
                go_ret
                exact ⟨rfl, HBb.out⟩
              have hx2 : ¬ (1000 : Int) < (x.size : Int) := by omega
              have hlen := hide (flat_take_len lenText 1004 (ls.take k) k (lenText_le _ 1000 HSZ.out))
              have hlr := hide (raw_len (ls.take k) HSZ.out)
              have htk := hide (show (ls.take k).length ≤ 100 by rw [List.length_take]; omega)
              have HS := hide (flat_snoc lenText ls k hlt)
              have HSR := hide (flat_snoc (fun x : ByteArray => x.data.toList) ls k hlt)
              obtain ⟨T, hT⟩ : ∃ T, Hid (A2 ++ (ls.take k).flatMap lenText = T) := ⟨_, hide rfl⟩
              rw [hT.out]
              have hTl := hide (show T.length ≤ 900000 by
                have h1 := hlen.out
                have h2 := HA2.out
                have h3 := htk.out
                rw [List.take_take, Nat.min_self] at h1
                rw [← hT.out, List.length_append]; omega)
              obtain ⟨U, hU⟩ : ∃ U, Hid (raw (ls.take k) = U) := ⟨_, hide rfl⟩
              rw [hU.out]
              have hUl := hide (show U.length ≤ 900000 by have h1 := hlr.out; have h3 := htk.out; rw [← hU.out]; omega)
              obtain ⟨C, hC⟩ : ∃ C, Hid (C = lenText x) := ⟨_, hide rfl⟩
              have hCl := hide (show C.length = 4 + x.size by rw [hC.out, lenText_length])
              obtain ⟨X, hX⟩ : ∃ X, Hid (x = ⟨X.toArray⟩ ∧ X = x.data.toList) := ⟨_, hide ⟨by simp, rfl⟩⟩
              have hcat := cat_str T C
              have hcat2 : (⟨U.toArray⟩ : ByteArray) ++ x = ⟨(U ++ X).toArray⟩ := by rw [hX.out.1]; exact cat_str U X
              have l0 : ¬ 9223372036854775807 < T.length + C.length := by have h1 := hTl.out; have h2 := hCl.out; omega
              have l1 : ¬ 9223372036854775807 < U.length + x.size := by have h1 := hUl.out; omega
              go_wp2_with fail
              refine (textRef x C hC.out _ (by omega)).mono ?_
              rintro e2 w2 ⟨rfl, hb2⟩
              have HB2 := hide (HBb.out.trans (hb2.mono HBb.out.size))
              clear hb2
              go_wp2_with fail
              go_roundw
              case rel =>
                refine ⟨k + 1, by omega, by go_num, by rw [HS.out, ← List.append_assoc, hT.out, hxk.out, hC.out], ?_, ?_, HB2.out⟩
                · have h1 : raw (ls.take (k + 1)) = U ++ X := by
                    have h2 := HSR.out
                    rw [hxk.out, ← hX.out.2] at h2
                    rw [← hU.out]; exact h2
                  rw [h1]
                · intro y hy
                  rw [List.take_succ_eq_append_getElem hlt, List.mem_append, List.mem_singleton, hxk.out] at hy
                  rcases hy with hy | rfl
                  · exact HSZ.out y hy
                  · omega
              case measure => simp [intOf]; omega
            · obtain rfl : k = ls.length := by omega
              rw [List.take_length]
              have HLX := hide (show ∀ x ∈ ls, x.size ≤ 1000 from fun x hx => HSZ.out x (by rw [List.take_length]; exact hx))
              obtain ⟨A3, hA3⟩ : ∃ A3, Hid (A3 = A2 ++ ls.flatMap lenText) := ⟨_, hide rfl⟩
              rw [← hA3.out]
              have HA3 := hide (show A3.length ≤ 101601 by rw [hA3.out, List.length_append]; have := flat_len lenText 1004 ls (lenText_le _ 1000 HLX.out); have := HA2.out; omega)
              obtain ⟨RW, hRW⟩ : ∃ RW, Hid (RW = raw ls) := ⟨_, hide rfl⟩
              rw [← hRW.out]
              have HRW := hide (show RW.length ≤ 100000 by rw [hRW.out]; have := raw_len ls HLX.out; omega)
              clear hk hlt HSZ
              go_wp2_with fail
              go_loopw [85, 11, 20] (fun i s _ wr => ∃ k : Nat, k ≤ ds.length ∧ i = .int .i64 k ∧ s = .string ⟨(A3 ++ (ds.take k).flatMap Dig.bytes).toArray⟩ ∧ Below w.heap.size w wr) (fun i s _ _ => ds.length - (intOf i).toNat)
              case atStart => exact ⟨0, by omega, rfl, by simp, HBb.out⟩
              case round =>
                obtain ⟨k, hk, rfl, rfl, hb⟩ := hrel
                clear HBb
                have HBb := hide hb
                clear hb
                by_cases hlt : k < ds.length
                · have hlen := hide (flat_take_len Dig.bytes 32 ds k (fun d _ => by rw [d.len]; omega))
                  obtain ⟨b, o, c2, hv⟩ := R4.out.isRow (by omega)
                  cases hv
                  have HS := hide (flat_snoc Dig.bytes ds k hlt)
                  obtain ⟨T, hT⟩ : ∃ T, Hid (A3 ++ (ds.take k).flatMap Dig.bytes = T) := ⟨_, hide rfl⟩
                  rw [hT.out]
                  have hTl := hide (show T.length ≤ 900000000 by have h1 := hlen.out; have h2 := HA3.out; rw [← hT.out, List.length_append]; omega)
                  obtain ⟨x, hxk⟩ : ∃ x, Hid (ds[k] = x) := ⟨_, hide rfl⟩
                  have hcell := reads_span (R4.out.below HBb.out) k hlt
                  rw [hxk.out] at hcell
                  obtain ⟨C, hC⟩ : ∃ C, Hid (x.bytes = C) := ⟨_, hide rfl⟩
                  have hCl := hide (show C.length = 32 by rw [← hC.out, x.len])
                  have hcat := cat_str T C
                  have l0 : ¬ 9223372036854775807 < T.length + C.length := by have h1 := hTl.out; have h2 := hCl.out; omega
                  go_wp2_with fail
                  refine (digestRef' x C hC.out _).mono ?_
                  rintro e2 w2 ⟨rfl, hb2⟩
                  have hq : Below wr.heap.size wr ((wr.alloc (.cells (dgst dig0) 25)).setRow wr.heap.size (dgst x)) := below_setRow ((Below.refl _ wr).alloc (Nat.le_refl _) _) (Nat.le_refl _) _
                  have HB2 := hide (HBb.out.trans ((hq.trans (hb2.mono hq.size)).mono HBb.out.size))
                  clear hb2 hq
                  go_wp2_with fail
                  go_roundw
                  case rel => exact ⟨k + 1, by omega, by go_num, by rw [HS.out, ← List.append_assoc, hT.out, hxk.out, hC.out], HB2.out⟩
                  case measure => simp [intOf]; omega
                · obtain rfl : k = ds.length := by omega
                  rw [List.take_length]
                  obtain ⟨A4, hA4⟩ : ∃ A4, Hid (A4 = A3 ++ ds.flatMap Dig.bytes) := ⟨_, hide rfl⟩
                  rw [← hA4.out]
                  have HA4 := hide (show A4.length ≤ 104801 by rw [hA4.out, List.length_append]; have := flat_len Dig.bytes 32 ds (fun d _ => by rw [d.len]; omega); have := HA3.out; omega)
                  clear hk hlt
                  go_wp2_with fail
                  refine (outByte' [] c A0 (by rw [hA0.out]; rfl) _ (by simp)).mono ?_
                  rintro e5 w5 ⟨rfl, hb5⟩
                  have HB5 := hide (HBb.out.trans (hb5.mono HBb.out.size))
                  clear hb5 HBb
                  have ho : (w5.alloc (.cells #[.string ⟨A0.toArray⟩] 80)).heap[w5.heap.size]? = some (.cells #[.string ⟨A0.toArray⟩] 80 (0, 0)) := heap_alloc_new _ _
                  have hb6 := HB5.out.alloc HB5.out.size (.cells #[.string ⟨A0.toArray⟩] 80)
                  have HR1 := hide (R1.out.below hb6)
                  have HR2 := hide (R2.out.below hb6)
                  have HR3 := hide (R3.out.below hb6)
                  have HR4 := hide (R4.out.below hb6)
                  have HO := hide ho
                  have HB6 := hide hb6
                  clear ho hb6 HB5
                  go_wp2_with fail
                  refine (outFour' A0 _ xs A1 hA1.out _ HR1.out HX.out (by have := HA0.out; omega)).mono ?_
                  rintro e7 w7 ⟨rfl, hb7⟩
                  have HR1_7 := hide (HR1.out.below hb7)
                  have HR2_7 := hide (HR2.out.below hb7)
                  have HR3_7 := hide (HR3.out.below hb7)
                  have HR4_7 := hide (HR4.out.below hb7)
                  have HO_7 := hide ((hb7.block _ (lt_of_heap HO.out)).trans HO.out)
                  have HB_7 := hide (HB6.out.trans (hb7.mono HB6.out.size))
                  clear hb7 HR1 HR2 HR3 HR4 HO HB6
                  go_wp2_with fail
                  refine (outEight' A1 _ ms A2 hA2.out _ HR2_7.out HM.out (by have := HA1.out; omega)).mono ?_
                  rintro e8 w8 ⟨rfl, hb8⟩
                  have HR1_8 := hide (HR1_7.out.below hb8)
                  have HR2_8 := hide (HR2_7.out.below hb8)
                  have HR3_8 := hide (HR3_7.out.below hb8)
                  have HR4_8 := hide (HR4_7.out.below hb8)
                  have HO_8 := hide ((hb8.block _ (lt_of_heap HO_7.out)).trans HO_7.out)
                  have HB_8 := hide (HB_7.out.trans (hb8.mono HB_7.out.size))
                  clear hb8 HR1_7 HR2_7 HR3_7 HR4_7 HO_7 HB_7
                  go_wp2_with fail
                  refine (outText' A2 _ ls A3 hA3.out _ HR3_8.out HLX.out (by have := HA2.out; omega) (by omega)).mono ?_
                  rintro e9 w9 ⟨rfl, hb9⟩
                  have HR1_9 := hide (HR1_8.out.below hb9)
                  have HR2_9 := hide (HR2_8.out.below hb9)
                  have HR3_9 := hide (HR3_8.out.below hb9)
                  have HR4_9 := hide (HR4_8.out.below hb9)
                  have HO_9 := hide ((hb9.block _ (lt_of_heap HO_8.out)).trans HO_8.out)
                  have HB_9 := hide (HB_8.out.trans (hb9.mono HB_8.out.size))
                  clear hb9 HR1_8 HR2_8 HR3_8 HR4_8 HO_8 HB_8
                  go_wp2_with fail
                  refine (outDigest' A3 _ ds A4 hA4.out _ HR4_9.out (by have := HA3.out; omega)).mono ?_
                  rintro e10 w10 ⟨rfl, hb10⟩
                  have HR1_10 := hide (HR1_9.out.below hb10)
                  have HR2_10 := hide (HR2_9.out.below hb10)
                  have HR3_10 := hide (HR3_9.out.below hb10)
                  have HR4_10 := hide (HR4_9.out.below hb10)
                  have HO_10 := hide ((hb10.block _ (lt_of_heap HO_9.out)).trans HO_9.out)
                  have HB_10 := hide (HB_9.out.trans (hb10.mono HB_9.out.size))
                  clear hb10 HR1_9 HR2_9 HR3_9 HR4_9 HO_9 HB_9
                  go_wp2_with fail
                  obtain ⟨F, hF⟩ : ∃ F, Hid (F = A4 ++ RW) := ⟨_, hide rfl⟩
                  refine (outRaw' A4 _ ls F (by rw [hF.out, hRW.out]) _ HR3_10.out HLX.out (by have := HA4.out; omega) (by omega)).mono ?_
                  rintro e11 w11 ⟨rfl, hb11⟩
                  have HR1_11 := hide (HR1_10.out.below hb11)
                  have HR2_11 := hide (HR2_10.out.below hb11)
                  have HR3_11 := hide (HR3_10.out.below hb11)
                  have HR4_11 := hide (HR4_10.out.below hb11)
                  have HO_11 := hide ((hb11.block _ (lt_of_heap HO_10.out)).trans HO_10.out)
                  have HB_11 := hide (HB_10.out.trans (hb11.mono HB_10.out.size))
                  clear hb11 HR1_10 HR2_10 HR3_10 HR4_10 HO_10 HB_10
                  go_wp2_with fail
                  refine (outString' F _).mono ?_
                  rintro e12 w12 ⟨rfl, hb12⟩
                  have HR1_12 := hide (HR1_11.out.below hb12)
                  have HR2_12 := hide (HR2_11.out.below hb12)
                  have HR3_12 := hide (HR3_11.out.below hb12)
                  have HR4_12 := hide (HR4_11.out.below hb12)
                  have HO_12 := hide ((hb12.block _ (lt_of_heap HO_11.out)).trans HO_11.out)
                  have HB_12 := hide (HB_11.out.trans (hb12.mono HB_11.out.size))
                  clear hb12 HR1_11 HR2_11 HR3_11 HR4_11 HO_11 HB_11
                  obtain ⟨Q0, hQ0⟩ : ∃ Q0, Hid (Q0 = be 4 ls.length) := ⟨_, hide rfl⟩
                  have HQ0 := hide (show Q0.length = 4 by rw [hQ0.out, be_length])
                  go_wp2_with fail
                  refine (num4_named (ls.length : Int) Q0 (by omega) (by omega) (by rw [hQ0.out]; rfl) _).mono ?_
                  rintro e13 w13 ⟨rfl, hb13⟩
                  have HR1_13 := hide (HR1_12.out.below hb13)
                  have HR2_13 := hide (HR2_12.out.below hb13)
                  have HR3_13 := hide (HR3_12.out.below hb13)
                  have HR4_13 := hide (HR4_12.out.below hb13)
                  have HO_13 := hide ((hb13.block _ (lt_of_heap HO_12.out)).trans HO_12.out)
                  have HB_13 := hide (HB_12.out.trans (hb13.mono HB_12.out.size))
                  clear hb13 HR1_12 HR2_12 HR3_12 HR4_12 HO_12 HB_12
                  go_wp2_with fail
                  go_loopw [115, 23, 25] (fun i s _ wr => ∃ k : Nat, k ≤ ls.length ∧ i = .int .i64 k ∧ s = .string ⟨(Q0 ++ (ls.take k).flatMap lenText).toArray⟩ ∧ wr.heap[w5.heap.size]? = some (.cells #[.string ⟨A0.toArray⟩] 80 (0, 0)) ∧ Below w.heap.size w wr) (fun i _ _ _ => ls.length - (intOf i).toNat)
                  case atStart => exact ⟨0, by omega, rfl, by simp, HO_13.out, HB_13.out⟩
                  case round =>
                    obtain ⟨k, hk, rfl, rfl, ho, hb⟩ := hrel
                    clear HR1_13 HR2_13 HR3_13 HR4_13 HO_13 HB_13
                    have HBb := hide hb
                    have HO := hide ho
                    clear hb ho
                    by_cases hlt : k < ls.length
                    · obtain ⟨b, o, c2, hv⟩ := R3.out.isRow (by omega)
                      cases hv
                      obtain ⟨x, hxk⟩ : ∃ x, Hid (ls[k] = x) := ⟨_, hide rfl⟩
                      have hcell := (R3.out.below HBb.out).cellAt k _ (strs_get ls k hlt)
                      rw [hxk.out] at hcell
                      have hxm := hide (show x.size ≤ 1000 from hxk.out ▸ HLX.out _ (List.getElem_mem hlt))
                      have hlen := hide (flat_take_len lenText 1004 ls k (lenText_le _ 1000 HLX.out))
                      have HS := hide (flat_snoc lenText ls k hlt)
                      obtain ⟨T, hT⟩ : ∃ T, Hid (Q0 ++ (ls.take k).flatMap lenText = T) := ⟨_, hide rfl⟩
                      rw [hT.out]
                      have hTl := hide (show T.length ≤ 900000 by have h1 := hlen.out; have h2 := HQ0.out; rw [← hT.out, List.length_append]; omega)
                      obtain ⟨C, hC⟩ : ∃ C, Hid (C = lenText x) := ⟨_, hide rfl⟩
                      have hCl := hide (show C.length = 4 + x.size by rw [hC.out, lenText_length])
                      have hcat := cat_str T C
                      have l0 : ¬ 9223372036854775807 < T.length + C.length := by have h1 := hTl.out; have h2 := hCl.out; have h3 := hxm.out; omega
                      go_wp2_with fail
                      refine (textRef x C hC.out _ (by have := hxm.out; omega)).mono ?_
                      rintro e2 w2 ⟨rfl, hb2⟩
                      have HB2 := hide (HBb.out.trans (hb2.mono HBb.out.size))
                      have HO2 := hide ((hb2.block _ (lt_of_heap HO.out)).trans HO.out)
                      clear hb2
                      go_wp2_with fail
                      go_roundw
                      case rel => exact ⟨k + 1, by omega, by go_num, by rw [HS.out, ← List.append_assoc, hT.out, hxk.out, hC.out], HO2.out, HB2.out⟩
                      case measure => simp [intOf]; omega
                    · obtain rfl : k = ls.length := by omega
                      rw [List.take_length]
                      obtain ⟨Q1, hQ1⟩ : ∃ Q1, Hid (Q1 = Q0 ++ ls.flatMap lenText) := ⟨_, hide rfl⟩
                      rw [← hQ1.out]
                      clear hk hlt
                      have hst := one_cell HO.out
                      have hcat := cat_str A4 RW
                      rw [← hF.out] at hcat
                      have hsz4 := size_str A4
                      have hA4p := hide (show A4 = A0 ++ A4.drop 1 by
                        have : ∃ l, A4 = [c] ++ l := ⟨xs.flatMap (fun n : Int => be 4 n.toNat) ++ (ms.flatMap (fun n : Int => be 8 n.toNat) ++ (ls.flatMap lenText ++ ds.flatMap Dig.bytes)), by rw [hA4.out, hA3.out, hA2.out, hA1.out, hA0.out]; simp⟩
                        obtain ⟨l, hl⟩ := this
                        rw [hl, hA0.out]; rfl)
                      have hsl : (⟨A4.toArray⟩ : ByteArray).extract 0 1 = ⟨A0.toArray⟩ := by
                        rw [slice_front, hA4p.out, hA0.out]; simp
                      have hA4n : 1 ≤ A4.length := by
                        have := congrArg List.length hA4p.out
                        rw [List.length_append, HA0.out] at this; omega
                      have l0 : ¬ 9223372036854775807 < A4.length + RW.length := by have h1 := HA4.out; have h2 := HRW.out; omega
                      have HRr := hide (R3.out.below HBb.out)
                      go_wp2_with fail
                      refine wp_region_after_lit (by kernel_rfl) (by kernel_rfl) ?_
                      repeat go_big_quiet_step ((first | (go_at_call 68; exact Calls.quiet_after (outString' _ _)) | (go_at_call 69; exact Calls.quiet_after (row_any _ call1 lay1 [] _ ls Q1 (by rw [hQ1.out, hQ0.out]; rfl) _ (HRr.out.below (After.below _)) (by omega) (fun y hy => by have := HLX.out y hy; omega) (by simp)))))
                      refine wpQuiet_nil ?_
                      intro _ hw'
                      obtain ⟨xw, hw''⟩ := hw'
                      subst hw''
                      go_wp2_with fail
                      go_ret
                      exact ⟨rfl, HBb.out.trans (xw.below.mono HBb.out.size)⟩
end Go.Proofs.Ytkkfnpbbigcpbaa.wireLays
