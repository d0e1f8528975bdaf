/-
  slices.Sorted(maps.Keys(m)), at this program's maps.
-/
import Derived.Test.YtggeehmcjndlgaaShelf
import Derived.Test.YtggeehmcjndlgaaRowPut
import Derived.Test.YtggeehmcjndlgaaMap
namespace Go.Proofs.Ytggeehmcjndlgaa
open Go Go.RowKit Go.Sort Go.Shelf Go.Maps


theorem Try.sortsP (m : Nat) : AnyZI.SortsIn Try.prog Try.sortedP_ren Fence.wide m :=
  ⟨fun blk off cap ss W hH hblk hsz => callsIn_wide.2 (AnyM.slices_Sort_int Try.sortInts blk off cap ss W hH hblk hsz),
   fun p cap W => callsIn_wide.2 (AnyM.slices_Sort_int_none Try.sortInts p cap W)⟩

theorem intKeys_map (l : Ents) : intKeys (mapD l) = l.map (·.1) := by
  simp only [intKeys, mapD, List.map_map]
  exact List.map_congr_left fun p _ => rfl

theorem sorted_row {l : List Int} (hs : l.Pairwise (· < ·)) {ss : List Int} (hp : ss.Perm l) : (ss.mergeSort fun x y => decide (x ≤ y)) = l := by
  refine List.Perm.eq_of_pairwise (le := fun x y => x ≤ y) (fun a b _ _ h1 h2 => by omega) ?_ (hs.imp (fun h => by omega)) ((List.mergeSort_perm _ _).trans hp)
  refine (List.pairwise_mergeSort (fun a b c h1 h2 => ?_) (fun a b => ?_) _).imp (fun h => ?_)
  · simp only [decide_eq_true_eq] at *; omega
  · simp only [Bool.or_eq_true, decide_eq_true_eq]; omega
  · simpa using h

theorem keysP (W : World) (b : Nat) : Calls Try.prog 72 #[.map (some b)] W fun e w' => e = .returned (.func (.func 102) #[] #[.pointer (some ⟨W.heap.size, 0, none⟩)]) ∧ w' = W.alloc (.cells #[.map (some b)] 104) :=
  (callsIn_wide (n := 5)).1 (AnyZI.keys_in Try.keysP Fence.wide 5 trivial rfl (some b) W)

theorem sortedP (w : World) (b : Nat) (l : Ents) (h : IMap w b l) (hs : l.Pairwise fun x y => x.1 < y.1) (hl : l.length ≤ 1000000) :
    Calls Try.prog 71 #[.func (.func 102) #[] #[.pointer (some ⟨w.heap.size, 0, none⟩)]] (w.alloc (.cells #[.map (some b)] 104)) fun e w' =>
      ∃ v, e = .returned v ∧ RowOf encI 1 3 w' w.heap.size v (l.map (·.1)) ∧ Below w.heap.size w w' := by
  have hbl := h.lt
  have hsz : Maps.size (mapD l) = l.length := sizeD l
  have hseq : SeqGives Fence.wide 2 Try.prog 102 #[.pointer (some ⟨w.heap.size, 0, none⟩)] encZ (fun ss => ss.Perm (intKeys (mapD l))) (Maps.size (mapD l)) (w.alloc (.cells #[.map (some b)] 104)) :=
    AnyZI.keys_gives (ρ := Try.keysP_ren) { Try.keysP with } Fence.wide _ trivial rfl (by omega) w.heap.size b l.length (mapD l) _ (by simp) (by simp) (by
      obtain ⟨es, clock, hb, Ft, hs, hD⟩ := h
      exact ⟨es, clock, (Below.heap_alloc _ _ b hbl).trans hb, Ft, hs, hD⟩)
  have cS := AnyZI.sorted_in Try.sortedP Fence.wide 5 trivial trivial trivial trivial rfl (by omega) (Try.sortsP _) (enters_of Try.func79 (by kernel_rfl) rfl) 102 #[.pointer (some ⟨w.heap.size, 0, none⟩)] trivial (enters_of Try.func102 (by kernel_rfl) rfl) _ _ (by rw [hsz]; unfold maxLen; omega) (by rw [hsz]; omega) _ hseq
  have cS' := (callsIn_wide).1 cS
  refine Calls.mono cS' ?_
  rintro e w' ⟨v, ss, rfl, hS, hrow, hnil, hb⟩
  rw [intKeys_map] at hS
  have hss := sorted_row (List.pairwise_map.2 hs) hS
  rw [hss] at hrow
  have hle := hS.length_eq
  refine ⟨v, rfl, ?_, ((Below.refl _ w).alloc (Nat.le_refl _) _).trans (hb.mono (by simp))⟩
  unfold RowOf
  rw [flat_ints, ← hle]
  exact ownsRow_base_a hrow (by simp)
end Go.Proofs.Ytggeehmcjndlgaa
