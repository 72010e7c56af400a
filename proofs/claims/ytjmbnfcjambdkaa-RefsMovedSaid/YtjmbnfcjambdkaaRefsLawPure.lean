/- What moves do to tables. -/
import Derived.Test.YtjmbnfcjambdkaaRefsMove
namespace Go.Proofs.Ytjmbnfcjambdkaa
open Go.RowKit
theorem rising_iff (L : List RefT) : Rising L ↔ L.Pairwise (fun r s => lessL r.1 s.1 = true) := by
  rw [List.pairwise_iff_getElem]
  exact ⟨fun h i j hi hj hij => h i j hi hj hij, fun h i j hi hj hij => h i j hi hj hij⟩
theorem take_low (L : List RefT) (n : List UInt8) : L.take (lowI L n) = L.takeWhile fun r => lessL r.1 n :=
  (List.prefix_iff_eq_take.1 (List.takeWhile_prefix _)).symm
theorem take_less (L : List RefT) (n : List UInt8) (r : RefT) (h : r ∈ L.take (lowI L n)) : lessL r.1 n = true := by
  rw [take_low] at h
  have := List.all_takeWhile (p := fun r : RefT => lessL r.1 n) (l := L)
  exact List.all_eq_true.1 this r h
theorem take_length (L : List RefT) (n : List UInt8) : (L.take (lowI L n)).length = lowI L n := by
  rw [List.length_take]; have := lowI_le L n; omega
theorem low_mid (L B : List RefT) (n : List UInt8) (d : Dig) : lowI (L.take (lowI L n) ++ [(n, d)] ++ B) n = lowI L n := by
  show (List.takeWhile (fun r : RefT => lessL r.1 n) (L.take (lowI L n) ++ [(n, d)] ++ B)).length = lowI L n
  rw [List.append_assoc, List.takeWhile_append_of_pos (fun r hr => take_less L n r hr), List.singleton_append, List.takeWhile_cons_of_neg (by simp [less_irrefl]), List.append_nil, take_length]
theorem mid_get (L B : List RefT) (n : List UInt8) (d : Dig) : (L.take (lowI L n) ++ [(n, d)] ++ B)[lowI L n]? = some (n, d) := by
  rw [List.append_assoc, List.getElem?_append_right (by rw [take_length]; exact Nat.le_refl _), take_length, Nat.sub_self]; rfl
theorem mid_found (L B : List RefT) (n : List UInt8) (d : Dig) : foundI (L.take (lowI L n) ++ [(n, d)] ++ B) n = true := by
  unfold foundI; rw [low_mid, mid_get]; simp
theorem mid_at (L B : List RefT) (n : List UInt8) (d : Dig) : atI (L.take (lowI L n) ++ [(n, d)] ++ B) n = d := by
  unfold atI; rw [low_mid, mid_get]; simp
theorem mid_take (L B : List RefT) (n : List UInt8) (d : Dig) : (L.take (lowI L n) ++ [(n, d)] ++ B).take (lowI L n) = L.take (lowI L n) := by
  rw [List.append_assoc, List.take_append_of_le_length (by rw [take_length]; exact Nat.le_refl _), List.take_of_length_le (by rw [take_length]; exact Nat.le_refl _)]
theorem mid_drop (L B : List RefT) (n : List UInt8) (d : Dig) : (L.take (lowI L n) ++ [(n, d)] ++ B).drop (lowI L n + 1) = B := by
  have h : (L.take (lowI L n) ++ [(n, d)]).length = lowI L n + 1 := by rw [List.length_append, take_length]; rfl
  rw [← h, List.drop_left]
/-- Taken away again, or put back. -/
theorem ins_del (L : List RefT) (n : List UInt8) (d : Dig) : delI (insI L n d) n = L := by
  unfold delI insI
  rw [low_mid, mid_take, mid_drop, List.take_append_drop]
theorem set_back (L : List RefT) (n : List UInt8) (d : Dig) (h : foundI L n = true) : setI (setI L n d) n (atI L n) = L := by
  have hl := found_lt h
  have h1 := found_name h hl
  have h2 := atI_found h hl
  unfold setI
  rw [low_mid, mid_take, mid_drop]
  have e : (n, atI L n) = L[lowI L n] := by rw [h2]; exact Prod.ext h1.symm rfl
  rw [e, List.append_assoc, List.singleton_append, ← List.drop_eq_getElem_cons hl, List.take_append_drop]
theorem rising_del (L : List RefT) (n : List UInt8) (h : Rising L) : Rising (delI L n) := by
  rw [rising_iff] at h ⊢
  refine h.sublist ?_
  have : L = L.take (lowI L n) ++ L.drop (lowI L n) := (List.take_append_drop _ _).symm
  conv => rhs; rw [this]
  exact List.Sublist.append (List.Sublist.refl _) (List.drop_sublist_drop_left _ (by omega))
theorem rising_names (L M : List RefT) (h : L.map (·.1) = M.map (·.1)) (hL : Rising L) : Rising M := by
  rw [rising_iff] at hL ⊢
  have h1 : (L.map (·.1)).Pairwise (fun a b => lessL a b = true) := List.pairwise_map.2 hL
  rw [h] at h1
  exact List.pairwise_map.1 h1
theorem rising_set (L : List RefT) (n : List UInt8) (d : Dig) (hf : foundI L n = true) (h : Rising L) : Rising (setI L n d) := by
  have hl := found_lt hf
  have h1 := found_name hf hl
  refine rising_names L _ ?_ h
  have e : L = L.take (lowI L n) ++ [L[lowI L n]] ++ L.drop (lowI L n + 1) := by
    rw [List.append_assoc, List.singleton_append, ← List.drop_eq_getElem_cons hl, List.take_append_drop]
  conv => lhs; rw [e]
  unfold setI
  simp only [List.map_append, List.map_cons, List.map_nil, h1]
theorem drop_more (L : List RefT) (n : List UInt8) (hL : Rising L) (hf : foundI L n = false) (r : RefT) (hr : r ∈ L.drop (lowI L n)) : lessL n r.1 = true := by
  obtain ⟨k, hk, rfl⟩ := List.mem_drop_iff_getElem.1 hr
  have hl : lowI L n < L.length := by omega
  have h0 : lessL n L[lowI L n].1 = true := by
    have h1 := lowI_at L n hl
    rw [found_eq hl] at hf
    cases h2 : lessL n L[lowI L n].1 with
    | true => rfl
    | false =>
      have := less_total _ _ h1 h2
      rw [this] at hf
      simp at hf
  by_cases e : k = 0
  · subst e; simpa using h0
  · exact less_trans _ _ _ h0 (hL _ _ hl (by omega) (by omega))
theorem rising_ins (L : List RefT) (n : List UInt8) (d : Dig) (hf : foundI L n = false) (h : Rising L) : Rising (insI L n d) := by
  have hd := drop_more L n h hf
  rw [rising_iff] at h ⊢
  unfold insI
  have hL : L.take (lowI L n) ++ L.drop (lowI L n) = L := List.take_append_drop _ _
  have hp : (L.take (lowI L n) ++ L.drop (lowI L n)).Pairwise (fun r s => lessL r.1 s.1 = true) := by rw [hL]; exact h
  obtain ⟨p1, p2, p3⟩ := List.pairwise_append.1 hp
  rw [List.append_assoc, List.singleton_append]
  refine List.pairwise_append.2 ⟨p1, List.pairwise_cons.2 ⟨fun r hr => hd r hr, p2⟩, fun a ha b hb => ?_⟩
  rcases List.mem_cons.1 hb with rfl | hb
  · exact take_less L n a ha
  · exact p3 a ha b hb
/-- A table as moves make it. -/
structure Tab (L : List RefT) : Prop where
  rising : Rising L
  few : L.length ≤ 16
  full : ∀ r ∈ L, zeroD r.2 = false
theorem Tab.nil : Tab [] := ⟨fun i j hi => absurd hi (by simp), by simp, fun r hr => by simp at hr⟩
theorem Tab.set {L : List RefT} (h : Tab L) (n : List UInt8) (d : Dig) (h0 : (setR L n d).2 = 0) : Tab (setR L n d).1 := by
  have hlo := lowI_le L n
  unfold setR at h0 ⊢
  split at h0
  · rename_i hz
    rw [if_pos hz]
    split
    · rename_i hf
      have hl := found_lt hf
      refine ⟨rising_del L n h.rising, ?_, fun r hr => ?_⟩
      · unfold delI; have := h.few; simp; omega
      · refine h.full r ?_
        unfold delI at hr
        rcases List.mem_append.1 hr with hr | hr
        · exact List.mem_of_mem_take hr
        · exact List.mem_of_mem_drop hr
    · exact h
  · rename_i hz
    have hz : zeroD d = false := by simpa using hz
    rw [if_neg (by rw [hz]; simp)]
    split at h0
    · rename_i hf
      rw [if_pos hf]
      have hl := found_lt hf
      refine ⟨rising_set L n d hf h.rising, ?_, fun r hr => ?_⟩
      · unfold setI; have := h.few; simp; omega
      · unfold setI at hr
        rcases List.mem_append.1 hr with hr | hr
        · rcases List.mem_append.1 hr with hr | hr
          · exact h.full r (List.mem_of_mem_take hr)
          · simp at hr; subst hr; exact hz
        · exact h.full r (List.mem_of_mem_drop hr)
    · rename_i hf
      have hf : foundI L n = false := by simpa using hf
      rw [if_neg (by rw [hf]; simp)]
      split at h0
      · simp at h0
      · rename_i h16
        rw [if_neg h16]
        refine ⟨rising_ins L n d hf h.rising, ?_, fun r hr => ?_⟩
        · unfold insI; simp; omega
        · unfold insI at hr
          rcases List.mem_append.1 hr with hr | hr
          · rcases List.mem_append.1 hr with hr | hr
            · exact h.full r (List.mem_of_mem_take hr)
            · simp at hr; subst hr; exact hz
          · exact h.full r (List.mem_of_mem_drop hr)
theorem zero_dig0 : zeroD dig0 = true := by simp [zeroD]
theorem moveE_at (L : List RefT) (n : List UInt8) (t : Dig) : moveE L n (atI L n) t = if refText n = false then 12 else (setR L n t).2 := by
  unfold moveE; rw [beq_self_eq_true, if_pos rfl]
theorem setR_full (L : List RefT) (n : List UInt8) (t : Dig) (hz : zeroD t = false) : setR L n t = if foundI L n = true then (setI L n t, 0) else if 16 ≤ L.length then ([], 6) else (insI L n t, 0) := by
  unfold setR; rw [if_neg (by rw [hz]; simp)]
/-- What stands behind a move that went well: it is where it was moved; moved back, all is as it was. -/
theorem move_back (L : List RefT) (hT : Tab L) (n : List UInt8) (t o : Dig) (hz : zeroD t = false) (h0 : moveE L n (atI L n) t = 0) :
    Tab (setR L n t).1 ∧ moveE (setR L n t).1 n t (atI L n) = 0 ∧ (setR (setR L n t).1 n (atI L n)).1 = L ∧ moveE (setR L n t).1 n o (atI L n) = if o.bytes == t.bytes then 0 else 29 := by
  rw [moveE_at] at h0
  have hr : refText n = true := by
    cases h : refText n with
    | true => rfl
    | false => rw [h] at h0; simp at h0
  rw [hr] at h0
  have h0 : (setR L n t).2 = 0 := by simpa using h0
  have hTab := hT.set n t h0
  have key : atI (setR L n t).1 n = t ∧ setR (setR L n t).1 n (atI L n) = (L, 0) := by
    rw [setR_full L n t hz] at h0 ⊢
    by_cases hf : foundI L n = true
    · have hl := found_lt hf
      rw [if_pos hf]
      have hza : zeroD (atI L n) = false := by rw [atI_found hf hl]; exact hT.full _ (List.getElem_mem hl)
      refine ⟨mid_at L _ n t, ?_⟩
      show setR (setI L n t) n (atI L n) = (L, 0)
      have hq : foundI (setI L n t) n = true := mid_found L _ n t
      rw [setR_full _ n _ hza, if_pos hq, set_back L n t hf]
    · rw [if_neg hf] at h0 ⊢
      have hf : foundI L n = false := by simpa using hf
      split at h0
      · simp at h0
      · rename_i h16
        rw [if_neg h16]
        refine ⟨mid_at L _ n t, ?_⟩
        show setR (insI L n t) n (atI L n) = (L, 0)
        have hq : foundI (insI L n t) n = true := mid_found L _ n t
        rw [atI_none hf]
        unfold setR
        rw [if_pos zero_dig0, if_pos hq, ins_del]
  obtain ⟨k1, k2⟩ := key
  refine ⟨hTab, ?_, by rw [k2], ?_⟩
  · unfold moveE; rw [hr, k1, beq_self_eq_true, k2]; rfl
  · unfold moveE; rw [hr, k1, k2]
    have : (t.bytes == o.bytes) = (o.bytes == t.bytes) := BEq.comm
    rw [this]; rfl
/-- Why a move from where it is may go wrong. -/
theorem move_bad (L : List RefT) (hT : Tab L) (n : List UInt8) (t : Dig) (hz : zeroD t = false) (h0 : moveE L n (atI L n) t ≠ 0) : moveE L n (atI L n) t = 12 ∨ (moveE L n (atI L n) t = 6 ∧ L.length = 16) := by
  rw [moveE_at] at h0 ⊢
  split at h0
  · rename_i h; rw [if_pos h]; exact .inl rfl
  · rename_i h
    rw [if_neg h]
    rw [setR_full L n t hz] at h0 ⊢
    split at h0
    · simp at h0
    · rename_i hf
      rw [if_neg hf]
      split at h0
      · rename_i h16; rw [if_pos h16]; exact .inr ⟨rfl, by have := hT.few; omega⟩
      · simp at h0
theorem move_tab (L : List RefT) (hT : Tab L) (n : List UInt8) (f t : Dig) (h0 : moveE L n f t = 0) : Tab (setR L n t).1 := by
  refine hT.set n t ?_
  unfold moveE at h0
  split at h0
  · simp at h0
  · split at h0
    · exact h0
    · simp at h0
end Go.Proofs.Ytjmbnfcjambdkaa
