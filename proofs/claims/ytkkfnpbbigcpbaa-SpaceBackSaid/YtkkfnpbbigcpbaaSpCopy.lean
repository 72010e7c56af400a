/- space.Copy of a space. -/
import Derived.Test.YtkkfnpbbigcpbaaSpTake
namespace Go.Proofs.Ytkkfnpbbigcpbaa
open Go.RowKit Go.Shelf
set_option maxRecDepth 100000 in
set_option maxHeartbeats 4000000 in
theorem copy_any (b : Nat) (f : Int) (fs : List Bool) (w : World) (h : IsSp w b f fs) :
    Calls Try.prog 31 #[.pointer (some ⟨b, 0, none⟩)] w fun e w' => ∃ B, e = .returned (.pointer (some ⟨B, 0, none⟩)) ∧ w.heap.size ≤ B ∧ IsSp w' B f fs ∧ Below w.heap.size w w' := by
  refine (callsIn_wide (n := 3)).1 ?_
  have H := hide h
  obtain ⟨v, hh, hr, hl⟩ := h
  have cF : w.cell? ⟨b, 0, none⟩ = some (.int .i64 f) := by rw [cell_of_row w b 0 _ _ _ hh]; rfl
  have cV : w.cell? ⟨b, 1, none⟩ = some v := by rw [cell_of_row w b 1 _ _ _ hh]; rfl
  have HH := hide hh
  have HR := hide hr
  clear hh hr
  have hmix : Try.prog.follows .mixedOrders = true := by kernel_rfl
  have hblt := H.out.lt
  refine callsIn_of_wp Try.func31 rfl trivial ?_
  simp only [Try.ntmps31, List.size_toArray, List.length_cons, List.length_nil, Nat.reduceAdd, Nat.reduceSub, Array.replicate_succ, Array.replicate_zero, List.push_toArray, List.append_toArray, List.nil_append, List.cons_append]
  gi_wp2
  have hC0 : w.drew.cell? ⟨b, 0, none⟩ = some (.int .i64 f) ∧ w.drew.cell? ⟨b, 1, none⟩ = some v := ⟨cF, cV⟩
  refine wpIn_region_C (fun w' => w'.cell? ⟨b, 0, none⟩ = some (.int .i64 f) ∧ w'.cell? ⟨b, 1, none⟩ = some v) hmix ?_
  change wpAnyC _ _ _ _ _ _ _ _ _ _ (World.drew _)
  refine wpAnyC_take (i := 0) (.pointer (some ⟨b, 0, none⟩)) rfl (by kernel_rfl) (by kernel_rfl) (by kernel_rfl) (by kernel_rfl) (fun _ _ _ h => h) hC0 ⟨.inl ⟨by rfl, fun w' hw' => by (obtain ⟨k1, k2⟩ := hw'; first | (go_simp; done) | (go_simp; with_reducible rfl))⟩, fun _ => rfl⟩ ?_
  refine wpAnyC_take (i := 1) (.pointer (some ⟨b, 0, none⟩)) rfl (by kernel_rfl) (by kernel_rfl) (by kernel_rfl) (by kernel_rfl) (fun _ _ _ h => h) hC0 ⟨.inl ⟨by rfl, fun w' hw' => by (obtain ⟨k1, k2⟩ := hw'; first | (go_simp; done) | (go_simp; with_reducible rfl))⟩, fun _ => rfl⟩ ?_
  refine wpAnyC_take (i := 2) (.pointer (some ⟨b, 0, none⟩)) rfl (by kernel_rfl) (by kernel_rfl) (by kernel_rfl) (by kernel_rfl) (fun _ _ _ h => h) hC0 ⟨.inl ⟨by rfl, fun w' hw' => by (obtain ⟨k1, k2⟩ := hw'; first | (go_simp; done) | (go_simp; with_reducible rfl))⟩, fun _ => rfl⟩ ?_
  refine wpAnyC_take (i := 3) (.int .i64 f) rfl (by kernel_rfl) (by kernel_rfl) (by kernel_rfl) (by kernel_rfl) (fun _ _ _ h => h) hC0 ⟨.inl ⟨by rfl, fun w' hw' => by (obtain ⟨k1, k2⟩ := hw'; first | (go_simp; done) | (go_simp; with_reducible rfl))⟩, fun _ => rfl⟩ ?_
  refine wpAnyC_take (i := 4) (.pointer (some ⟨b, 0, none⟩)) rfl (by kernel_rfl) (by kernel_rfl) (by kernel_rfl) (by kernel_rfl) (fun _ _ _ h => h) hC0 ⟨.inl ⟨by rfl, fun w' hw' => by (obtain ⟨k1, k2⟩ := hw'; first | (go_simp; done) | (go_simp; with_reducible rfl))⟩, fun _ => rfl⟩ ?_
  refine wpAnyC_take (i := 5) (.pointer (some ⟨b, 0, none⟩)) rfl (by kernel_rfl) (by kernel_rfl) (by kernel_rfl) (by kernel_rfl) (fun _ _ _ h => h) hC0 ⟨.inl ⟨by rfl, fun w' hw' => by (obtain ⟨k1, k2⟩ := hw'; first | (go_simp; done) | (go_simp; with_reducible rfl))⟩, fun _ => rfl⟩ ?_
  refine wpAnyC_take (i := 6) (.pointer (some ⟨b, 1, none⟩)) rfl (by kernel_rfl) (by kernel_rfl) (by kernel_rfl) (by kernel_rfl) (fun _ _ _ h => h) hC0 ⟨.inl ⟨by rfl, fun w' hw' => by (obtain ⟨k1, k2⟩ := hw'; first | (go_simp; done) | (go_simp; with_reducible rfl))⟩, fun _ => rfl⟩ ?_
  refine wpAnyC_take (i := 7) (v) rfl (by kernel_rfl) (by kernel_rfl) (by kernel_rfl) (by kernel_rfl) (fun _ _ _ h => h) hC0 ⟨.inl ⟨by rfl, fun w' hw' => by (obtain ⟨k1, k2⟩ := hw'; first | (go_simp; done) | (go_simp; with_reducible rfl))⟩, fun _ => rfl⟩ ?_
  refine wpAnyC_one (i := 8) (by kernel_rfl) rfl (fun K hK => ?_)
  go_simp
  refine ⟨trivial, ?_⟩
  refine (callsIn_wide.2 (clone_bool v fs _ (HR.out.below ((Below.refl _ _).drew)) (by omega))).mono ?_
  rintro e w' ⟨⟨a1, c1, rfl, ho⟩, hb⟩
  have Z1 : w.heap.size ≤ w'.heap.size := hb.size
  have d1 : w'.cell? ⟨b, 0, none⟩ = some (.int .i64 f) := (hb.cell (p := ⟨b, 0, none⟩) hblt).trans cF
  have d2 : w'.cell? ⟨b, 1, none⟩ = some v := (hb.cell (p := ⟨b, 1, none⟩) hblt).trans cV
  have hal : ∀ o, (w'.alloc o).cell? ⟨b, 0, none⟩ = some (.int .i64 f) ∧ (w'.alloc o).cell? ⟨b, 1, none⟩ = some v := fun o => ⟨(((Below.refl _ w').alloc (Nat.le_refl _) o).cell (p := ⟨b, 0, none⟩) (by show b < w'.heap.size; omega)).trans d1, (((Below.refl _ w').alloc (Nat.le_refl _) o).cell (p := ⟨b, 1, none⟩) (by show b < w'.heap.size; omega)).trans d2⟩
  have HB := hide hb
  have HO := hide ho
  clear hb ho
  refine hK _ _ ⟨d1, d2⟩ ?_; clear hK K
  refine wpAnyC_one (i := 9) (by kernel_rfl) rfl (fun K hK => ?_)
  go_simp
  refine hK _ _ ⟨d1, d2⟩ ?_; clear hK K
  refine wpAnyC_one (i := 10) (by kernel_rfl) rfl (fun K hK => ?_)
  go_simp
  refine hK _ _ (hal _) ?_; clear hK K
  refine wpAnyC_one (i := 11) (by kernel_rfl) rfl (fun K hK => ?_)
  go_simp
  refine hK _ _ (hal _) ?_; clear hK K
  refine wpAnyC_done (by kernel_rfl) ?_ _
  gi_wp2
  go_ret
  exact ⟨w'.heap.size, rfl, Z1, ⟨_, heap_alloc_new _ _, (Reads.owned HO.out (bools_one _) (by unfold maxLen; omega)).below ((Below.refl _ w').alloc (Nat.le_refl _) _), hl.1, (Typed.owned HO.out _).below ((Below.refl _ w').alloc (Nat.le_refl _) _)⟩, ((show Below w.heap.size w w' from ⟨HB.out.os, HB.out.tape, HB.out.output, HB.out.size, HB.out.block⟩).alloc Z1 _)⟩
end Go.Proofs.Ytkkfnpbbigcpbaa
