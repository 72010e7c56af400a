/- Deltas: how two texts begin and end alike; the parts. Plain. -/
import Derived.Test.YtjmbnfcjambdkaaWireOwn
namespace Go.Proofs.Ytjmbnfcjambdkaa
open Go.RowKit
/-- How many bytes two texts have alike ahead. -/
def cp : List UInt8 → List UInt8 → Nat
  | x :: a, y :: b => if x = y then cp a b + 1 else 0
  | _, _ => 0
theorem cp_le : ∀ a b : List UInt8, cp a b ≤ a.length ∧ cp a b ≤ b.length
  | [], b => by simp [cp]
  | x :: a, [] => by simp [cp]
  | x :: a, y :: b => by
    have := cp_le a b
    simp only [cp, List.length_cons]; split <;> omega
theorem cp_same : ∀ (a b : List UInt8) (j : Nat), j < cp a b → a[j]? = b[j]?
  | [], b, j, h => by simp [cp] at h
  | x :: a, [], j, h => by simp [cp] at h
  | x :: a, y :: b, j, h => by
    simp only [cp] at h
    split at h
    · rename_i e
      cases j with
      | zero => simp [e]
      | succ j => simpa using cp_same a b j (by omega)
    · omega
theorem cp_stop : ∀ (a b : List UInt8), cp a b < a.length → cp a b < b.length → a[cp a b]? ≠ b[cp a b]?
  | [], b, h, _ => by simp at h
  | x :: a, [], _, h => by simp at h
  | x :: a, y :: b, h1, h2 => by
    simp only [cp] at h1 h2 ⊢
    split
    · rename_i e
      rw [if_pos e] at h1 h2
      simpa using cp_stop a b (by simpa using h1) (by simpa using h2)
    · rename_i e; simpa using e
theorem cp_more (a b : List UInt8) (k : Nat) (h : k ≤ cp a b) (h1 : k < a.length) (h2 : k < b.length) (he : a[k]? = b[k]?) : k + 1 ≤ cp a b := by
  by_cases hk : k = cp a b
  · subst hk; exact absurd he (cp_stop a b h1 h2)
  · omega
theorem cp_done (a b : List UInt8) (k : Nat) (h : k ≤ cp a b) (hs : k = a.length ∨ k = b.length ∨ a[k]? ≠ b[k]?) : k = cp a b := by
  have := cp_le a b
  by_cases hk : k < cp a b
  · rcases hs with hs | hs | hs
    · omega
    · omega
    · exact absurd (cp_same a b k hk) hs
  · omega
theorem cp_take (a b : List UInt8) : a.take (cp a b) = b.take (cp a b) := by
  apply List.ext_getElem?
  intro j
  rw [List.getElem?_take, List.getElem?_take]
  split
  · exact cp_same a b j ‹_›
  · rfl
def frontOf (a b : List UInt8) : Nat := cp a b
def backOf (a b : List UInt8) : Nat := cp (a.drop (cp a b)).reverse (b.drop (cp a b)).reverse
theorem front_le (a b : List UInt8) : frontOf a b ≤ a.length ∧ frontOf a b ≤ b.length := cp_le a b
theorem back_le (a b : List UInt8) : frontOf a b + backOf a b ≤ a.length ∧ frontOf a b + backOf a b ≤ b.length := by
  have h1 := cp_le a b
  have h2 := cp_le (a.drop (cp a b)).reverse (b.drop (cp a b)).reverse
  simp only [List.length_reverse, List.length_drop] at h2
  unfold frontOf backOf
  omega
theorem back_same (a b : List UInt8) : a.drop (a.length - backOf a b) = b.drop (b.length - backOf a b) := by
  have h1 := cp_le a b
  have h2 := cp_le (a.drop (cp a b)).reverse (b.drop (cp a b)).reverse
  have h3 := cp_take (a.drop (cp a b)).reverse (b.drop (cp a b)).reverse
  simp only [List.length_reverse, List.length_drop] at h2
  have h4 := congrArg List.reverse h3
  rw [List.take_reverse, List.take_reverse, List.reverse_reverse, List.reverse_reverse, List.length_drop, List.length_drop, List.drop_drop, List.drop_drop] at h4
  unfold backOf
  rw [show cp a b + (a.length - cp a b - cp (a.drop (cp a b)).reverse (b.drop (cp a b)).reverse) = a.length - cp (a.drop (cp a b)).reverse (b.drop (cp a b)).reverse by omega, show cp a b + (b.length - cp a b - cp (a.drop (cp a b)).reverse (b.drop (cp a b)).reverse) = b.length - cp (a.drop (cp a b)).reverse (b.drop (cp a b)).reverse by omega] at h4
  exact h4
/-- A part: copied (0), or new (1). -/
structure Pt where
  kind : Nat
  at' : Nat
  ln : Nat
  text : List UInt8
def Pt.cells (p : Pt) : List Value := [.int .u8 (p.kind : Int), .int .i64 (p.at' : Int), .int .i64 (p.ln : Int), .string ⟨p.text.toArray⟩]
def ptCells (l : List Pt) : List Value := l.flatMap Pt.cells
def lenL (t : List UInt8) : List UInt8 := be 4 t.length ++ t
def layPt (p : Pt) : List UInt8 := if p.kind = 0 then [0] ++ (be 4 p.at' ++ be 4 p.ln) else [UInt8.ofNat p.kind] ++ lenL p.text
def midOf (a b : List UInt8) : List UInt8 := (b.drop (frontOf a b)).take (b.length - backOf a b - frontOf a b)
def partsOf (a b : List UInt8) : List Pt :=
  (if 0 < frontOf a b then [⟨0, 0, frontOf a b, []⟩] else []) ++ (if midOf a b ≠ [] then [⟨1, 0, 0, midOf a b⟩] else []) ++ (if 0 < backOf a b then [⟨0, a.length - backOf a b, backOf a b, []⟩] else [])
def makeOf (a b : List UInt8) : List UInt8 := be 4 a.length ++ be 4 b.length ++ (be 4 (partsOf a b).length ++ (partsOf a b).flatMap layPt)
theorem mid_length (a b : List UInt8) : (midOf a b).length = b.length - backOf a b - frontOf a b := by
  have := back_le a b
  simp [midOf]; omega
theorem ptCells_length (l : List Pt) : (ptCells l).length = l.length * 4 := by
  induction l with
  | nil => rfl
  | cons p l ih => simp only [ptCells, List.flatMap_cons, List.length_append] at ih ⊢; rw [ih]; simp [Pt.cells]; omega
theorem ptCells_one (l : List Pt) : ∀ u ∈ ptCells l, u.oneCell' = true := by
  intro u hu
  simp only [ptCells, List.mem_flatMap] at hu
  obtain ⟨p, _, hp⟩ := hu
  simp [Pt.cells] at hp
  rcases hp with rfl | rfl | rfl | rfl <;> rfl
theorem ptCells_snoc (l : List Pt) (p : Pt) : ptCells (l ++ [p]) = ptCells l ++ p.cells := by simp [ptCells]
theorem ptCells_get : ∀ (l : List Pt) (k : Nat) (h : k < l.length) (j : Nat) (u : Value), l[k].cells[j]? = some u → (ptCells l)[k * 4 + j]? = some u
  | p :: l, 0, _, j, u, hu => by
    have hj := (List.getElem?_eq_some_iff.1 hu).1
    simp only [ptCells, List.flatMap_cons]
    rw [Nat.zero_mul, Nat.zero_add, List.getElem?_append_left (by simpa using hj)]
    simpa using hu
  | p :: l, k + 1, h, j, u, hu => by
    have ih := ptCells_get l k (by simpa using h) j u (by simpa using hu)
    simp only [ptCells, List.flatMap_cons] at ih ⊢
    rw [List.getElem?_append_right (by simp [Pt.cells]; omega)]
    simp only [Pt.cells, List.length_cons, List.length_nil]
    rw [show (k + 1) * 4 + j - (0 + 1 + 1 + 1 + 1) = k * 4 + j by omega]
    exact ih
theorem Reads.pt {w : World} {b o c n : Nat} {l : List Pt} (h : Reads w 4 (.slice (some ⟨b, o, none⟩) n c) n (ptCells l)) (k : Nat) (hk : k < l.length) (p : Pt) (hp : l[k] = p) :
    w.cell? ⟨b, o + k * 4, none⟩ = some (.int .u8 (p.kind : Int)) ∧ w.cell? ⟨b, o + k * 4 + 1, none⟩ = some (.int .i64 (p.at' : Int)) ∧ w.cell? ⟨b, o + k * 4 + 2, none⟩ = some (.int .i64 (p.ln : Int)) ∧ w.cell? ⟨b, o + k * 4 + 3, none⟩ = some (.string ⟨p.text.toArray⟩) := by
  subst hp
  obtain ⟨_, _, _, ⟨h, _⟩ | ⟨b', o', c', h, _, _, h4⟩⟩ := h
  · cases h
  · cases h
    have g := fun j u hu => h4 _ _ (ptCells_get l k hk j u hu)
    refine ⟨g 0 _ rfl, ?_, ?_, ?_⟩
    · rw [Nat.add_assoc]; exact g 1 _ rfl
    · rw [Nat.add_assoc]; exact g 2 _ rfl
    · rw [Nat.add_assoc]; exact g 3 _ rfl
end Go.Proofs.Ytjmbnfcjambdkaa
