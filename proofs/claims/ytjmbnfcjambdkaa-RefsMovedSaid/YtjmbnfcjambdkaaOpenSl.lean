/- Slices that come in as arguments: rows of digests, of bools, of texts, of whole numbers. -/
import Derived.Test.YtjmbnfcjambdkaaOpenDig
import Derived.Test.YtjmbnfcjambdkaaDigSl
import Derived.ChangeOld
import Derived.ShutString
import Derived.SizedLaws
namespace Go.Proofs.Ytjmbnfcjambdkaa
open Go.ChangeShapes Go.WideShapes Go.ChangeAt Go.RowKit

theorem list_choose {α : Type} {P : Nat → α → Prop} (n : Nat) (h : ∀ i, i < n → ∃ x, P i x) : ∃ l : List α, l.length = n ∧ ∀ i x, l[i]? = some x → P i x := by
  induction n with
  | zero => exact ⟨[], rfl, by simp⟩
  | succ n ih =>
    obtain ⟨l, hl, hp⟩ := ih fun i hi => h i (by omega)
    obtain ⟨x, hx⟩ := h n (by omega)
    refine ⟨l ++ [x], by simp [hl], fun i y hy => ?_⟩
    by_cases hi : i < l.length
    · rw [List.getElem?_append_left hi] at hy; exact hp i y hy
    · have hlt := (List.getElem?_eq_some_iff.1 hy).1
      simp at hlt
      have : i = n := by omega
      subst this
      rw [List.getElem?_append_right (by omega)] at hy
      simp [hl] at hy
      exact hy ▸ hx
section
variable {P : Program} {H : Type} {enc : TypeId × Value → H} {W : World} {base : Nat} {b0 : Nat} {v : Value} {d : DataW H} {p : List MemPlace} {spare : Nat → Bool} {held : Bool}
theorem open_sl {t e : TypeId} (k : Nat) (ht : P.underlying t = some (.slice e)) (hk : P.cellsOf e = k) (hv : Value.okWide P W .any base t v) (h : DataW.Trod enc P W b0 spare held t v d p) :
    v = .slice none 0 0 ∨ ∃ b o len cap, v = .slice (some ⟨b, o, none⟩) len cap ∧ len ≤ cap ∧ cap ≤ maxLen ∧
      ∃ n, ∀ i, i < len → ∃ cs y, cs.length = k ∧ (∀ j u, cs[j]? = some u → W.cell? ⟨b, o + (i * k + j), none⟩ = some u) ∧ DataW.trod enc P W b0 spare held n e cs = some y := by
  obtain ⟨a, len, cap, rfl⟩ := okWide_slice ht hv
  obtain ⟨fuel, hf⟩ := h
  have hcells : (Value.slice a len cap).cells.toList = [.slice a len cap] := rfl
  rw [hcells] at hf
  rcases DataW.trod_slice ht hf with ⟨hc, _⟩ | ⟨a', len', cap', elems, rest, n, _, hc, hx, hb, hl, hm, hlen, hel, _⟩
  · simp at hc; obtain ⟨rfl, rfl, rfl⟩ := hc; exact .inl rfl
  · simp at hc
    obtain ⟨rfl, rfl, rfl⟩ := hc
    have hspot : a'.spot = none := by
      simp only [Value.okWide, ht, Cell.okWide, Cell.ok] at hv
      exact hv.2.2.2.1
    obtain ⟨b, o, s⟩ := a'
    simp only at hspot
    subst hspot
    refine .inr ⟨b, o, len, cap, rfl, hl, hm, n, fun i hi => ?_⟩
    have hE := hel i hi
    rw [List.getElem?_eq_getElem (by omega : i < elems.length)] at hE
    simp only [Option.bind_eq_some_iff] at hE
    obtain ⟨cs, hcs, hy⟩ := hE
    obtain ⟨_, hlen2, hget⟩ := World.cells?_some hcs
    refine ⟨cs, _, by rw [hlen2, hk], fun j u hj => ?_, hy⟩
    have hlt := (List.getElem?_eq_some_iff.1 hj).1
    have := hget j (by omega)
    rw [hj] at this
    rw [hk] at this
    rw [← this]
    simp only [Addr.add]
    congr 1
    split <;> split <;> simp_all <;> omega
/-- The form's own reach, of a slice that came in. -/
theorem sl_reach {t e : TypeId} {k n : Nat} {cells : List Value} (ht : P.underlying t = some (.slice e)) (hb : 1 ≤ P.bytesOf e) (h : DataW.Trod enc P W b0 spare held t v d p) (hR : Reads W k v n cells) (hw : ∀ m ∈ d.weights P t, m ≤ reachBytes) : n ≤ 140737488351232 := by
  rcases hR.form with ⟨rfl, rfl⟩ | ⟨b, o, c, rfl⟩
  · omega
  · obtain ⟨fuel, hf⟩ := h
    have hcells : (Value.slice (some ⟨b, o, none⟩) n c).cells.toList = [.slice (some ⟨b, o, none⟩) n c] := rfl
    rw [hcells] at hf
    rcases DataW.trod_slice ht hf with ⟨hc, _⟩ | ⟨a', len', cap', elems, rest, m, _, hc, hx, _, _, _, hlen, _, _⟩
    · simp at hc
    · simp at hc
      obtain ⟨_, rfl, _⟩ := hc
      have hd : d = .slice (elems.map (·.1)) (rest.map (·.1)) := congrArg Prod.fst hx
      subst hd
      have h1 := hw (((elems.map (·.1)).length + (rest.map (·.1)).length) * P.bytesOf e) (by simp [DataW.weights, ht])
      rw [List.length_map, hlen] at h1
      have h2 : n * 1 ≤ (n + (rest.map (·.1)).length) * P.bytesOf e := Nat.mul_le_mul (by omega) hb
      simp only [reachBytes] at h1
      omega
theorem flat_length {α : Type} (k : Nat) (f : α → List Value) (hf : ∀ x, (f x).length = k) (L : List α) : (L.flatMap f).length = L.length * k := by
  induction L with
  | nil => simp
  | cons x L ih => rw [List.flatMap_cons, List.length_append, ih, hf, List.length_cons, Nat.add_mul]; omega
theorem flat_get {α : Type} (k : Nat) (f : α → List Value) (hf : ∀ x, (f x).length = k) (L : List α) (i r : Nat) (x : α) (hi : L[i]? = some x) (hr : r < k) : (L.flatMap f)[i * k + r]? = (f x)[r]? := by
  induction L generalizing i with
  | nil => simp at hi
  | cons y L ih =>
    rw [List.flatMap_cons]
    cases i with
    | zero =>
      simp at hi; subst hi
      rw [Nat.zero_mul, Nat.zero_add, List.getElem?_append_left (by rw [hf]; exact hr)]
    | succ i =>
      rw [List.getElem?_append_right (by rw [hf, Nat.add_mul]; omega), hf]
      rw [show (i + 1) * k + r - k = i * k + r by rw [Nat.add_mul]; omega]
      exact ih i (by simpa using hi)
theorem reads_open {α : Type} {t e : TypeId} (k : Nat) (hk0 : 0 < k) (f : α → List Value) (Q : α → Prop) (hf : ∀ x, (f x).length = k) (hf1 : ∀ x, ∀ u ∈ f x, u.oneCell' = true)
    (hE : ∀ n cs y, cs.length = k → DataW.trod enc P W b0 spare held n e cs = some y → ∃ x, Q x ∧ cs = f x)
    (ht : P.underlying t = some (.slice e)) (hk : P.cellsOf e = k) (hv : Value.okWide P W .any base t v) (h : DataW.Trod enc P W b0 spare held t v d p) :
    ∃ L : List α, Reads W k v L.length (L.flatMap f) ∧ ∀ x ∈ L, Q x := by
  rcases open_sl k ht hk hv h with rfl | ⟨b, o, len, cap, rfl, hl, hm, n, hE2⟩
  · exact ⟨[], Reads.nil W k, by simp⟩
  · obtain ⟨L, hL, hP⟩ := list_choose (P := fun i x => Q x ∧ ∀ j u, (f x)[j]? = some u → W.cell? ⟨b, o + (i * k + j), none⟩ = some u) len (fun i hi => by
      obtain ⟨cs, y, hcl, hcell, hy⟩ := hE2 i hi
      obtain ⟨x, hq, rfl⟩ := hE n cs y hcl hy
      exact ⟨x, hq, hcell⟩)
    refine ⟨L, ⟨flat_length k f hf L, ?_, by omega, .inr ⟨b, o, cap, by rw [hL], by omega, hm, fun j u hj => ?_⟩⟩, fun x hx => ?_⟩
    · intro u hu
      simp only [List.mem_flatMap] at hu
      obtain ⟨x, _, hx⟩ := hu
      exact hf1 x u hx
    · have hj2 := (List.getElem?_eq_some_iff.1 hj).1
      rw [flat_length k f hf L] at hj2
      have hi : j / k < L.length := (Nat.div_lt_iff_lt_mul hk0).2 hj2
      have hjk : j = j / k * k + j % k := by rw [Nat.mul_comm]; exact (Nat.div_add_mod j k).symm
      have hx := List.getElem?_eq_getElem hi
      rw [hjk, flat_get k f hf L _ _ _ hx (Nat.mod_lt _ hk0)] at hj
      have := (hP _ _ hx).2 _ _ hj
      rw [← hjk] at this
      exact this
    · obtain ⟨i, hi⟩ := List.getElem?_of_mem hx
      exact (hP i x hi).1
theorem flat_one {α β : Type} (g : α → β) (L : List α) : (L.flatMap fun x => [g x]) = L.map g := by induction L <;> simp_all
theorem open_bools {t e : TypeId} (ht : P.underlying t = some (.slice e)) (he : P.underlying e = some .bool) (hk : P.cellsOf e = 1) (hv : Value.okWide P W .any base t v) (h : DataW.Trod enc P W b0 spare held t v d p) :
    ∃ L : List Bool, Reads W 1 v L.length (L.map Value.bool) := by
  obtain ⟨L, h1, _⟩ := reads_open 1 (by omega) (fun b : Bool => [Value.bool b]) (fun _ => True) (fun _ => rfl) (fun x u hu => by simp at hu; subst hu; rfl) (fun n cs y hc hy => by
    obtain ⟨b, e, _⟩ := DataW.trod_bool he hy
    exact ⟨b, trivial, e⟩) ht hk hv h
  exact ⟨L, by rwa [flat_one] at h1⟩
theorem open_texts {t e : TypeId} (ht : P.underlying t = some (.slice e)) (he : P.underlying e = some .string) (hk : P.cellsOf e = 1) (hv : Value.okWide P W .any base t v) (h : DataW.Trod enc P W b0 spare held t v d p) :
    ∃ L : List ByteArray, Reads W 1 v L.length (L.map Value.string) ∧ ∀ s ∈ L, s.size ≤ maxLen := by
  obtain ⟨L, h1, h2⟩ := reads_open 1 (by omega) (fun b : ByteArray => [Value.string b]) (fun s => s.size ≤ maxLen) (fun _ => rfl) (fun x u hu => by simp at hu; subst hu; rfl) (fun n cs y hc hy => by
    obtain ⟨b, e, _, hs⟩ := DataW.trod_string he hy
    exact ⟨b, hs, e⟩) ht hk hv h
  exact ⟨L, by rwa [flat_one] at h1, h2⟩
theorem open_nums {t e : TypeId} {K : IntKind} (ht : P.underlying t = some (.slice e)) (he : P.underlying e = some (.int K)) (hk : P.cellsOf e = 1) (hv : Value.okWide P W .any base t v) (h : DataW.Trod enc P W b0 spare held t v d p) :
    ∃ L : List Int, Reads W 1 v L.length (L.map (Value.int K)) ∧ ∀ n ∈ L, (Lit.int K n).wf = true := by
  obtain ⟨L, h1, h2⟩ := reads_open 1 (by omega) (fun n : Int => [Value.int K n]) (fun n => (Lit.int K n).wf = true) (fun _ => rfl) (fun x u hu => by simp at hu; subst hu; rfl) (fun n cs y hc hy => by
    obtain ⟨b, e, _, hs⟩ := DataW.trod_int he hy
    exact ⟨b, hs, e⟩) ht hk hv h
  exact ⟨L, by rwa [flat_one] at h1, h2⟩
end
theorem dig_of_trod {H : Type} {enc : TypeId × Value → H} {W : World} {b0 n : Nat} {spare : Nat → Bool} {held : Bool} {cs : List Value} {y : DataW H × List MemPlace}
    (hlen : cs.length = 32) (hf : DataW.trod enc Try.prog W b0 spare held n 24 cs = some y) : ∃ D : Dig, cs = (dgst D).toList := by
  have hc : Try.prog.cellsOf 5 = 1 := by kernel_rfl
  obtain ⟨xs, m, _, _, _, hl, hx⟩ := DataW.trod_array Try.underlying24 hf
  rw [hc] at hx
  have hb := bytes_of_cells cs (fun i hi => by
    have hi32 : i < 32 := by omega
    have h1 := hx i hi32
    rw [List.getElem?_eq_getElem (by omega : i < xs.length)] at h1
    obtain ⟨n, e, _, w⟩ := DataW.trod_int Try.underlying5 h1
    refine ⟨n, ?_, w⟩
    have h2 : ((cs.drop (i * 1)).take 1)[0]? = some (.int .u8 n) := by rw [e]; rfl
    rw [List.getElem?_take, if_pos (by omega), List.getElem?_drop] at h2
    simpa using h2)
  refine ⟨⟨cs.map byteOf, by simpa using hlen⟩, ?_⟩
  simp only [dgst]
  rw [hb]
set_option maxRecDepth 100000 in
theorem open_digs {H : Type} {enc : TypeId × Value → H} {W : World} {base : Nat} {b0 : Nat} {v : Value} {d : DataW H} {p : List MemPlace} {spare : Nat → Bool} {held : Bool}
    (hv : Value.okWide Try.prog W .any base 170 v) (h : DataW.Trod enc Try.prog W b0 spare held 170 v d p) : ∃ L : List Dig, Reads W 32 v L.length (dcells L) := by
  obtain ⟨L, h1, _⟩ := reads_open 32 (by omega) (fun D : Dig => (dgst D).toList) (fun _ => True) (fun _ => by simp) (fun x u hu => dcells_cell [x] u (by rw [dcells_one]; exact hu)) (fun n cs y hc hy => by
    obtain ⟨D, e⟩ := dig_of_trod hc hy
    exact ⟨D, trivial, e⟩) Try.underlying170 (by kernel_rfl) hv h
  exact ⟨L, h1⟩
end Go.Proofs.Ytjmbnfcjambdkaa
