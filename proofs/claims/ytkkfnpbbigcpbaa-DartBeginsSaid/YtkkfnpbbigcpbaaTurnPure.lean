/- Plain laws on rotations of rows of unlike numbers. -/
import Derived.Test.YtkkfnpbbigcpbaaInsertNil
namespace Go.Proofs.Ytkkfnpbbigcpbaa
open Go.RowKit

theorem ext_nth {xs ys : List Int} (hl : xs.length = ys.length) (h : ∀ i, i < xs.length → nth xs i = nth ys i) : xs = ys := by
  apply List.ext_getElem hl
  intro i h1 h2
  have := h i h1
  rwa [nth_eq xs i h1, nth_eq ys i h2] at this
theorem nodup_nth {xs : List Int} (hn : xs.Nodup) {i j : Nat} (hi : i < xs.length) (hj : j < xs.length) (h : nth xs i = nth xs j) : i = j := by
  rw [nth_eq xs i hi, nth_eq xs j hj] at h
  exact (List.getElem_inj hn).1 h
theorem idx_nth {xs : List Int} (hn : xs.Nodup) {i : Nat} (hi : i < xs.length) : idx xs (nth xs i) = i := by
  apply idx_at hi
  · rw [nth_eq xs i hi]; simp
  · intro j hj
    rw [beq_eq_false_iff_ne]
    intro h
    have := nodup_nth hn hi (by omega : j < xs.length) (by rw [h, nth_eq xs j (by omega)])
    omega
theorem mem_nth {xs : List Int} {d : Int} (h : d ∈ xs) : ∃ i, i < xs.length ∧ nth xs i = d := by
  obtain ⟨i, hi, rfl⟩ := List.mem_iff_getElem.1 h
  exact ⟨i, hi, nth_eq xs i hi⟩
theorem nth_mem {xs : List Int} {i : Nat} (h : i < xs.length) : nth xs i ∈ xs := by rw [nth_eq xs i h]; exact List.getElem_mem h
theorem idx_not {xs : List Int} {d : Int} (h : d ∉ xs) : idx xs d = -1 := idx_none fun j hj => by
  rw [beq_eq_false_iff_ne]; intro he; exact h (he ▸ List.getElem_mem hj)
theorem rotAt_mem (xs : List Int) (k : Nat) (d : Int) : d ∈ rotAt xs k ↔ d ∈ xs := by
  have h : d ∈ xs ↔ d ∈ xs.take k ++ xs.drop k := by rw [List.take_append_drop]
  rw [h, rotAt, List.mem_append, List.mem_append]; exact Or.comm
theorem rotAt_nodup {xs : List Int} (h : xs.Nodup) (k : Nat) : (rotAt xs k).Nodup := by
  have h2 := List.take_append_drop k xs ▸ h
  rw [rotAt]
  exact (List.perm_append_comm.nodup_iff).1 h2
theorem rotAt_zero (xs : List Int) : rotAt xs 0 = xs := by simp [rotAt]
theorem rotAt_full (xs : List Int) : rotAt xs xs.length = xs := by simp [rotAt]
theorem rotAt_rotAt {xs : List Int} {k j : Nat} (hk : k < xs.length) (hj : j < xs.length) : rotAt (rotAt xs k) j = rotAt xs ((k + j) % xs.length) := by
  apply ext_nth (by rw [rotAt_length, rotAt_length, rotAt_length])
  intro i hi
  rw [rotAt_length, rotAt_length] at hi
  rw [rotAt_get (by rw [rotAt_length]; exact hj) (by rw [rotAt_length]; exact hi), rotAt_length, rotAt_get hk (Nat.mod_lt _ (by omega)), rotAt_get (Nat.mod_lt _ (by omega)) hi, Nat.add_mod_mod, Nat.mod_add_mod, Nat.add_assoc]
theorem minOf_eq {xs ys : List Int} (h : ∀ d, d ∈ ys ↔ d ∈ xs) (hx : 0 < xs.length) (hy : 0 < ys.length) : minOf ys = minOf xs := by
  have h1 := minOf_le _ ((h _).1 (minOf_mem hy))
  have h2 := minOf_le _ ((h _).2 (minOf_mem hx))
  omega
theorem rot_at {xs : List Int} (h0 : 0 < xs.length) : ∃ i, i < xs.length ∧ nth xs i = minOf xs ∧ rot xs = rotAt xs i := by
  obtain ⟨i, hi, he⟩ := idx_mem (minOf_mem h0)
  refine ⟨i, hi, ?_, by rw [rot, he]; rfl⟩
  have : xs.findIdx? (fun x => minOf xs == x) = some i := by
    unfold idx at he
    split at he
    · rename_i j hj; rw [hj]; congr; omega
    · omega
  have := (List.findIdx?_eq_some_iff_getElem.1 this).2.1
  rw [nth_eq xs i hi]
  simpa using (beq_iff_eq.1 this).symm
/-- A row of unlike numbers: whence it is told makes no difference. -/
theorem rot_rotAt {xs : List Int} (hn : xs.Nodup) (k : Nat) (hk : k ≤ xs.length) : rot (rotAt xs k) = rot xs := by
  by_cases h0 : xs.length = 0
  · have : xs = [] := List.eq_nil_of_length_eq_zero h0
    subst this; simp [rotAt]
  by_cases hke : k = xs.length
  · rw [hke, rotAt_full]
  have hk' : k < xs.length := by omega
  have hl := rotAt_length xs k
  obtain ⟨j, hj, hjm, hjr⟩ := rot_at (xs := rotAt xs k) (by omega)
  obtain ⟨i, hi, him, hir⟩ := rot_at (xs := xs) (by omega)
  rw [hl] at hj
  rw [hjr, hir, rotAt_rotAt hk' hj]
  congr 1
  apply nodup_nth hn (Nat.mod_lt _ (by omega)) hi
  rw [← rotAt_get hk' hj, hjm, him]
  exact minOf_eq (rotAt_mem xs k) (by omega) (by omega)
theorem idx_rotAt {xs : List Int} (hn : xs.Nodup) {k i : Nat} (hk : k < xs.length) (hi : i < xs.length) : ∃ j, j < xs.length ∧ (k + j) % xs.length = i ∧ idx (rotAt xs k) (nth xs i) = j := by
  have hm : nth xs i ∈ rotAt xs k := (rotAt_mem xs k _).2 (nth_mem hi)
  obtain ⟨j, hj, he⟩ := mem_nth hm
  rw [rotAt_length] at hj
  refine ⟨j, hj, ?_, by rw [← he]; exact idx_nth (rotAt_nodup hn k) (by rw [rotAt_length]; exact hj)⟩
  apply nodup_nth hn (Nat.mod_lt _ (by omega)) hi
  rw [← rotAt_get hk hj, he]
theorem next_rotAt {xs : List Int} (hn : xs.Nodup) (k : Nat) (hk : k ≤ xs.length) (d : Int) : nextOf (rotAt xs k) d = nextOf xs d := by
  by_cases hd : d ∈ xs
  · obtain ⟨i, hi, rfl⟩ := mem_nth hd
    by_cases hke : k = xs.length
    · rw [hke, rotAt_full]
    obtain ⟨j, hj, hji, he⟩ := idx_rotAt hn (by omega : k < xs.length) hi
    rw [nextOf_at he, nextOf_at (idx_nth hn hi), rotAt_length, rotAt_get (by omega) (Nat.mod_lt _ (by omega)), Nat.add_mod_mod, ← Nat.add_assoc, ← Nat.mod_add_mod, hji]
  · rw [nextOf_no (idx_not hd), nextOf_no (idx_not (fun h => hd ((rotAt_mem xs k d).1 h)))]
theorem prev_rotAt {xs : List Int} (hn : xs.Nodup) (k : Nat) (hk : k ≤ xs.length) (d : Int) : prevOf (rotAt xs k) d = prevOf xs d := by
  by_cases hd : d ∈ xs
  · obtain ⟨i, hi, rfl⟩ := mem_nth hd
    by_cases hke : k = xs.length
    · rw [hke, rotAt_full]
    obtain ⟨j, hj, hji, he⟩ := idx_rotAt hn (by omega : k < xs.length) hi
    rw [prevOf_at he, prevOf_at (idx_nth hn hi), rotAt_length, rotAt_get (by omega) (Nat.mod_lt _ (by omega)), Nat.add_mod_mod]
    congr 1
    rw [show k + (j + xs.length - 1) = (k + j) + (xs.length - 1) by omega, ← Nat.mod_add_mod, hji]
    congr 1; omega
  · rw [prevOf_no (idx_not hd), prevOf_no (idx_not (fun h => hd ((rotAt_mem xs k d).1 h)))]
theorem prev_next {xs : List Int} (hn : xs.Nodup) {d : Int} (hd : d ∈ xs) : prevOf xs (nextOf xs d) = d := by
  obtain ⟨i, hi, rfl⟩ := mem_nth hd
  have hq : (i + 1) % xs.length < xs.length := Nat.mod_lt _ (by omega)
  rw [nextOf_at (idx_nth hn hi), prevOf_at (idx_nth hn hq)]
  congr 1
  by_cases h : i + 1 = xs.length
  · rw [h, Nat.mod_self, Nat.zero_add, Nat.mod_eq_of_lt (by omega)]; omega
  · rw [Nat.mod_eq_of_lt (by omega : i + 1 < xs.length), show i + 1 + xs.length - 1 = i + xs.length by omega, Nat.add_mod_right, Nat.mod_eq_of_lt hi]
theorem insAt_nodup {xs : List Int} (hn : xs.Nodup) {x : Int} (hx : x ∉ xs) (p : Nat) : (insAt xs p [x]).Nodup := by
  have h : (insAt xs p [x]).Perm (x :: xs) := by
    have h1 : (insAt xs p [x]).Perm (x :: (xs.take p ++ xs.drop p)) := by
      rw [insAt, List.append_assoc]
      exact List.perm_middle
    rwa [List.take_append_drop] at h1
  rw [h.nodup_iff]
  exact List.nodup_cons.2 ⟨hx, hn⟩
theorem insAt_rot {xs : List Int} {x : Int} {p : Nat} (hp : p ≤ xs.length) : rotAt (insAt xs p [x]) p = x :: rotAt xs p := by
  have hl : (xs.take p).length = p := List.length_take_of_le hp
  rw [rotAt, insAt, List.append_assoc, List.drop_append, List.take_append, hl, Nat.sub_self, List.drop_of_length_le (by omega), List.take_of_length_le (by omega)]
  simp [rotAt]
theorem placeOf_nth {xs : List Int} (hn : xs.Nodup) {i : Nat} (hi : i < xs.length) : placeOf xs (nth xs i) = i + 1 := by
  rw [placeOf, idx_nth hn hi, if_neg (by omega)]; rfl
theorem insert_rotAt {xs : List Int} (hn : xs.Nodup) (k : Nat) (hk : k ≤ xs.length) {d x : Int} (hd : d ∈ xs) (hx : x ∉ xs) : rot (insAt (rotAt xs k) (placeOf (rotAt xs k) d) [x]) = rot (insAt xs (placeOf xs d) [x]) := by
  by_cases hke : k = xs.length
  · rw [hke, rotAt_full]
  obtain ⟨i, hi, rfl⟩ := mem_nth hd
  have hk' : k < xs.length := by omega
  obtain ⟨j, hj, hji, he⟩ := idx_rotAt hn hk' hi
  have hm : nth xs i = nth (rotAt xs k) j := by rw [rotAt_get hk' hj, hji]
  have hny := rotAt_nodup hn k
  have hly := rotAt_length xs k
  have hxy : x ∉ rotAt xs k := fun h => hx ((rotAt_mem xs k x).1 h)
  have p1 : placeOf (rotAt xs k) (nth xs i) = j + 1 := by rw [hm]; exact placeOf_nth hny (by omega)
  rw [p1, placeOf_nth hn hi]
  rw [← rot_rotAt (insAt_nodup hny hxy (j + 1)) (j + 1) (by rw [insAt_length]; simp; omega), ← rot_rotAt (insAt_nodup hn hx (i + 1)) (i + 1) (by rw [insAt_length]; simp; omega)]
  rw [insAt_rot (by omega), insAt_rot (by omega)]
  congr 2
  -- rotAt (rotAt xs k) (j + 1) = rotAt xs (i + 1)
  apply ext_nth (by rw [rotAt_length, rotAt_length, rotAt_length])
  intro m hmm
  rw [rotAt_length, rotAt_length] at hmm
  have key : ∀ (ys : List Int) (q m : Nat), q ≤ ys.length → m < ys.length → nth (rotAt ys q) m = nth ys ((q + m) % ys.length) := by
    intro ys q m hq hm
    by_cases hqe : q = ys.length
    · rw [hqe, rotAt_full, Nat.add_mod_left, Nat.mod_eq_of_lt hm]
    · exact rotAt_get (by omega) hm
  rw [key _ _ _ (by omega) (by omega), key _ _ _ (by omega) hmm, hly, rotAt_get hk' (Nat.mod_lt _ (by omega)), Nat.add_mod_mod, show k + (j + 1 + m) = (k + j) + (1 + m) by omega, ← Nat.mod_add_mod, hji, Nat.add_assoc]
theorem reverse_rotAt (xs : List Int) (k : Nat) (hk : k ≤ xs.length) : (rotAt xs k).reverse = rotAt xs.reverse (xs.length - k) := by
  rw [rotAt, rotAt, List.reverse_append, List.drop_reverse, List.take_reverse, show xs.length - (xs.length - k) = k by omega]
theorem mirror_rotAt {xs : List Int} (hn : xs.Nodup) (k : Nat) (hk : k ≤ xs.length) : rot (rotAt xs k).reverse = rot xs.reverse := by
  rw [reverse_rotAt xs k hk]
  exact rot_rotAt ((List.reverse_perm xs).nodup_iff.2 hn) _ (by simp)
theorem outOf_append (ms xs ys : List Int) : outOf ms (xs ++ ys) = outOf ms xs ++ outOf ms ys := by simp [outOf]
theorem idx_one (x d : Int) : (idx [x] d < 0) ↔ d ≠ x := by
  by_cases h : d = x
  · subst h
    have : idx [d] d = (0 : Nat) := idx_at (by simp) (by simp) (fun j hj => by omega)
    rw [this]; simp
  · rw [idx_not (by simpa using h)]; simp [h]
theorem outOf_not {xs : List Int} {x : Int} (h : x ∉ xs) : outOf [x] xs = xs := by
  rw [outOf, List.filter_eq_self]
  intro y hy
  rw [decide_eq_true_iff, idx_one]
  intro e; exact h (e ▸ hy)
theorem outOf_ins {xs : List Int} {x : Int} (h : x ∉ xs) (p : Nat) : outOf [x] (insAt xs p [x]) = xs := by
  rw [insAt, outOf_append, outOf_append, outOf_not (fun hh => h (List.mem_of_mem_take hh)), outOf_not (fun hh => h (List.mem_of_mem_drop hh))]
  have : outOf [x] [x] = [] := by simp [outOf, idx_one]
  rw [this, List.append_nil, List.take_append_drop]
theorem outOf_rotAt (ms zs : List Int) (j : Nat) : outOf ms (rotAt zs j) = rotAt (outOf ms zs) (outOf ms (zs.take j)).length := by
  have h : outOf ms zs = outOf ms (zs.take j) ++ outOf ms (zs.drop j) := by rw [← outOf_append, List.take_append_drop]
  rw [rotAt, outOf_append, h, rotAt]
  simp
theorem without_insert {xs : List Int} (hn : xs.Nodup) {x : Int} (hx : x ∉ xs) (p : Nat) : rot (outOf [x] (rot (insAt xs p [x]))) = rot xs := by
  obtain ⟨j, _, _, hr⟩ := rot_at (xs := insAt xs p [x]) (by rw [insAt_length]; simp)
  rw [hr, outOf_rotAt, outOf_ins hx]
  exact rot_rotAt hn _ (by
    have := outOf_append [x] ((insAt xs p [x]).take j) ((insAt xs p [x]).drop j)
    rw [List.take_append_drop, outOf_ins hx] at this
    have := congrArg List.length this
    rw [List.length_append] at this
    omega)
theorem next_insert {xs : List Int} (hn : xs.Nodup) {d x : Int} (hd : d ∈ xs) (hx : x ∉ xs) : nextOf (rot (insAt xs (placeOf xs d) [x])) d = x := by
  obtain ⟨i, hi, rfl⟩ := mem_nth hd
  have hz := insAt_nodup hn hx (placeOf xs (nth xs i))
  have hzl := insAt_length xs (placeOf xs (nth xs i)) [x]
  obtain ⟨j, hj, _, hr⟩ := rot_at (xs := insAt xs (placeOf xs (nth xs i)) [x]) (by rw [hzl]; simp)
  rw [hr, next_rotAt hz _ (by omega)]
  rw [placeOf_nth hn hi] at hzl hz ⊢
  simp only [List.length_singleton] at hzl
  have g1 : nth (insAt xs (i + 1) [x]) i = nth xs i := by
    simp only [nth, insAt, List.getD_eq_getElem?_getD]
    rw [List.append_assoc, List.getElem?_append_left (by simp; omega), List.getElem?_take, if_pos (by omega)]
  have g2 : nth (insAt xs (i + 1) [x]) (i + 1) = x := by
    simp only [nth, insAt, List.getD_eq_getElem?_getD]
    rw [List.append_assoc, List.getElem?_append_right (by simp; omega)]
    simp [List.length_take, Nat.min_eq_left (by omega : i + 1 ≤ xs.length)]
  rw [← g1, nextOf_at (idx_nth hz (by omega)), hzl, Nat.mod_eq_of_lt (by omega), g2]
end Go.Proofs.Ytkkfnpbbigcpbaa
