/-
  slices.Sorted(maps.Keys(m)) and maps.Clone(m), at a table's map.
-/
import Derived.Test.YtggeehmcjndlgaaKeys
import Derived.Test.YtggeehmcjndlgaaShelfT
namespace Go.Proofs.Ytggeehmcjndlgaa
open Go Go.RowKit Go.Sort Go.Shelf Go.Maps

theorem keysT (W : World) (b : Nat) : Calls Try.prog 93 #[.map (some b)] W fun e w' => e = .returned (.func (.func 120) #[] #[.pointer (some ⟨W.heap.size, 0, none⟩)]) ∧ w' = W.alloc (.cells #[.map (some b)] 126) :=
  (callsIn_wide (n := 5)).1 (AnyZI.keys_in Try.keysT Fence.wide 5 trivial rfl (some b) W)

theorem sortedT (w : World) (b : Nat) (l : Ents) (h : IMap w b l) (hs : l.Pairwise fun x y => x.1 < y.1) (hl : l.length ≤ 1000000) :
    Calls Try.prog 71 #[.func (.func 120) #[] #[.pointer (some ⟨w.heap.size, 0, none⟩)]] (w.alloc (.cells #[.map (some b)] 126)) fun e w' =>
      ∃ v, e = .returned v ∧ RowOf encI 1 3 w' w.heap.size v (l.map (·.1)) ∧ Below w.heap.size w w' := by
  have hbl := h.lt
  have hsz : Maps.size (mapD l) = l.length := sizeD l
  have hseq : SeqGives Fence.wide 2 Try.prog 120 #[.pointer (some ⟨w.heap.size, 0, none⟩)] encZ (fun ss => ss.Perm (intKeys (mapD l))) (Maps.size (mapD l)) (w.alloc (.cells #[.map (some b)] 126)) :=
    AnyZI.keys_gives (ρ := Try.keysT_ren) { Try.keysT with } Fence.wide _ trivial rfl (by omega) w.heap.size b l.length (mapD l) _ (by simp) (by simp) (by
      obtain ⟨es, clock, hb, Ft, hs, hD⟩ := h
      exact ⟨es, clock, (Below.heap_alloc _ _ b hbl).trans hb, Ft, hs, hD⟩)
  have cS := AnyZI.sorted_in Try.sortedP Fence.wide 5 trivial trivial trivial trivial rfl (by omega) (Try.sortsP _) (enters_of Try.func79 (by kernel_rfl) rfl) 120 #[.pointer (some ⟨w.heap.size, 0, none⟩)] trivial (enters_of Try.func120 (by kernel_rfl) rfl) _ _ (by rw [hsz]; unfold maxLen; omega) (by rw [hsz]; omega) _ hseq
  have cS' := (callsIn_wide).1 cS
  refine Calls.mono cS' ?_
  rintro e w' ⟨v, ss, rfl, hS, hrow, hnil, hb⟩
  rw [intKeys_map] at hS
  have hss := sorted_row (List.pairwise_map.2 hs) hS
  rw [hss] at hrow
  have hle := hS.length_eq
  refine ⟨v, rfl, ?_, ((Below.refl _ w).alloc (Nat.le_refl _) _).trans (hb.mono (by simp))⟩
  unfold RowOf
  rw [flat_ints, ← hle]
  exact ownsRow_base_a hrow (by simp)

theorem map_Clone (w : World) (b : Nat) (l : Ents) (h : IMap w b l) : Calls Try.prog 86 #[.map (some b)] w fun e w' => e = .returned (.map (some w.heap.size)) ∧ IMap w' w.heap.size l ∧ Below w.heap.size w w' := by
  have hc := AnyW.maps_Clone_owns Try.cloneT 3 RD b l.length (mapD l) w h
  change Calls Try.prog 86 _ _ _ at hc
  exact hc.mono fun e w' ⟨he, h1, _, h3⟩ => ⟨he, h1, h3⟩
end Go.Proofs.Ytggeehmcjndlgaa
