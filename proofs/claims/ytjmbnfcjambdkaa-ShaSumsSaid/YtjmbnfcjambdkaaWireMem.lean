/- Blocks laid one behind another. -/
import Derived.Test.YtjmbnfcjambdkaaWireRef
namespace Go.Proofs.Ytjmbnfcjambdkaa
open Go.RowKit
theorem heap_mid3 (w : World) (o p q : Obj) : (((w.alloc o).alloc p).alloc q).heap[w.heap.size + 1]? = some p := by
  rw [heap_alloc_old _ _ (by simp)]; exact heap_two w o p
theorem heap_fst3 (w : World) (o p q : Obj) : (((w.alloc o).alloc p).alloc q).heap[w.heap.size]? = some o := by
  rw [heap_alloc_old _ _ (by simp; omega)]; exact heap_one w o p
theorem below3 (w : World) (o p q : Obj) : Below w.heap.size w (((w.alloc o).alloc p).alloc q) := (((Below.refl _ w).alloc (Nat.le_refl _) _).alloc (by simp) _).alloc (by simp; omega) _
theorem size3 (w : World) (o p q : Obj) : (((w.alloc o).alloc p).alloc q).heap.size = w.heap.size + 1 + 1 + 1 := by simp
theorem reads_fresh_at (w : World) (b : Nat) (hb : b = w.heap.size) (cs : List Value) (T : TypeId) (size m : Nat) (hl : cs.length = m * size) (h1 : ∀ u ∈ cs, u.oneCell' = true) (hm : m ≤ maxLen) : Reads (w.alloc (.cells cs.toArray T)) size (.slice (some ⟨b, 0, none⟩) m m) m cs :=
  hb ▸ reads_fresh w cs T size m hl h1 hm
end Go.Proofs.Ytjmbnfcjambdkaa
