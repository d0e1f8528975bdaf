/-
  What the library's functions leave of a row of numbers that they rewrite (slices.DeleteFunc, slices.Sort), in the words of RowOf and Chg.
-/
import Derived.Test.YtggeehmcjndlgaaShelf
import Derived.Test.YtggeehmcjndlgaaRow
namespace Go.Proofs.Ytggeehmcjndlgaa
open Go Go.RowKit Go.Sort Go.Shelf

theorem putRow_block {w : World} {g : Nat} {cur : Array Value} {e : TypeId} {fr : Nat × Nat} (h : w.heap[g]? = some (.cells cur e fr)) (d : Array Int) :
    (putRow (Value.int .i64) w g 0 d).heap[g]? = some (.cells (putCells (Value.int .i64) 0 d cur) e fr) := by
  simp only [putRow, mapBlock, Array.getElem?_modify, if_true, h, Option.map_some, onCells]
theorem putRow_other (w : World) {g k : Nat} (h : k ≠ g) (d : Array Int) : (putRow (Value.int .i64) w g 0 d).heap[k]? = w.heap[k]? := by
  simp only [putRow, mapBlock, Array.getElem?_modify]
  rw [if_neg (Ne.symm h)]

theorem putCells_size (d : Array Int) (cur : Array Value) : (putCells (Value.int .i64) 0 d cur).size = cur.size := by simp [putCells]
theorem putCells_take (d : Array Int) (cur : Array Value) (n : Nat) (hn : n ≤ d.size) (hd : d.size ≤ cur.size) : (putCells (Value.int .i64) 0 d cur).toList.take n = (d.toList.take n).map (Value.int .i64) := by
  apply List.ext_getElem?
  intro i
  by_cases hi : i < n
  · rw [List.getElem?_take_of_lt hi, List.getElem?_map, List.getElem?_take_of_lt hi]
    have h1 : i < cur.size := by omega
    have h2 : i < d.size := by omega
    simp [putCells, h1, h2]
  · rw [List.getElem?_take_eq_none (by omega), List.getElem?_eq_none (by simp; omega)]

/-- The row's first numbers rewritten: the slice of the first n of them. -/
theorem row_put {w : World} {base g cap : Nat} {l : List Int} (h : RowOf encI 1 3 w base (.slice (some ⟨g, 0, none⟩) l.length cap) l) (q : Nat) (d : Array Int) (hd : d.size = l.length) (l' : List Int) (hl : l'.length ≤ d.size) (ht : d.toList.take l'.length = l') (os : Array Obj) :
    RowOf encI 1 3 (grow (putRow (Value.int .i64) (Sort.ahead w q) g 0 d) os) base (.slice (some ⟨g, 0, none⟩) l'.length cap) l' ∧ Chg (· = g) w (grow (putRow (Value.int .i64) (Sort.ahead w q) g 0 d) os) := by
  rcases h.2 with ⟨h', _⟩ | ⟨g', cap', cur, h', hb, hh, hnc, hm, hs, htk⟩
  · simp at h'
  · simp only [Value.slice.injEq, Option.some.injEq, Addr.mk.injEq, and_true, true_and] at h'
    obtain ⟨rfl, rfl⟩ := h'
    have hlt : g < w.heap.size := lt_of_block hh
    have hsz : (putRow (Value.int .i64) (Sort.ahead w q) g 0 d).heap.size = w.heap.size := by simp [putRow, mapBlock, Sort.ahead]
    have hold : ∀ k, k < w.heap.size → (grow (putRow (Value.int .i64) (Sort.ahead w q) g 0 d) os).heap[k]? = (putRow (Value.int .i64) (Sort.ahead w q) g 0 d).heap[k]? := fun k hk => by
      simp only [grow]
      rw [Array.getElem?_append_left (by rw [hsz]; exact hk)]
    refine ⟨⟨by rw [flat_len (k := 1) (fun _ => rfl)], .inr ⟨g, cap, _, rfl, hb, (hold g hlt).trans (putRow_block (w := Sort.ahead w q) hh d), by omega, hm, by rw [putCells_size]; exact hs, ?_⟩⟩, ⟨rfl, rfl, rfl, ?_, fun k hk hne => ?_⟩⟩
    · rw [Nat.mul_one, putCells_take d cur _ hl (by omega), ht, flat_ints]
    · simp only [grow, Array.size_append]; rw [hsz]; omega
    · rw [hold k hk, putRow_other _ hne]; rfl

theorem row_holds {w : World} {base g cap : Nat} {l : List Int} (h : RowOf encI 1 3 w base (.slice (some ⟨g, 0, none⟩) l.length cap) l) : Holds (Value.int .i64) w g 0 l.toArray ∧ l.length ≤ cap := by
  rcases h.2 with ⟨h', _⟩ | ⟨g', cap', cur, h', hb, hh, hnc, hm, hs, htk⟩
  · simp at h'
  · simp only [Value.slice.injEq, Option.some.injEq, Addr.mk.injEq, and_true, true_and] at h'
    obtain ⟨rfl, rfl⟩ := h'
    refine ⟨fun j hj => ?_, hnc⟩
    have hj' : j < l.length := by simpa using hj
    refine ⟨?_, by simp [World.frozen?, hh]⟩
    have h1 := congrArg (fun x => x[j]?) htk
    simp only [flat_ints, Nat.mul_one] at h1
    rw [List.getElem?_take_of_lt hj', List.getElem?_map, List.getElem?_eq_getElem hj'] at h1
    simp only [World.cell?, hh, Nat.zero_add]
    simpa [hj'] using h1


/-- The closure of 'remove': is it the number in the box? -/
theorem closure_is (id x : Int) (B : Nat) (W : World) (hc : W.cell? ⟨B, 0, none⟩ = some (.int .i64 id)) :
    FnGives Try.prog 105 #[.pointer (some ⟨B, 0, none⟩)] #[.int .i64 x] (.bool (x == id)) W := by
  show Calls Try.prog 105 #[.int .i64 x, .pointer (some ⟨B, 0, none⟩)] W _
  go_enter Try.func105, Try.ntmps105
  go_wp2
  go_ret
  exact ⟨rfl, 0, rfl⟩

set_option maxHeartbeats 1000000 in
/-- slices.DeleteFunc of a row of the call's own, by that closure. -/
theorem ints_DeleteFunc (w : World) (base g cap : Nat) (l : List Int) (id : Int) (B : Nat) (h : RowOf encI 1 3 w base (.slice (some ⟨g, 0, none⟩) l.length cap) l) (hc : w.cell? ⟨B, 0, none⟩ = some (.int .i64 id)) (hB : B ≠ g) (hl : l.length ≤ 1000000) :
    Calls Try.prog 104 #[.slice (some ⟨g, 0, none⟩) l.length cap, .func (.func 105) #[] #[.pointer (some ⟨B, 0, none⟩)]] w fun e w' =>
      e = .returned (.slice (some ⟨g, 0, none⟩) (l.filter fun x => !(x == id)).length cap) ∧ RowOf encI 1 3 w' base (.slice (some ⟨g, 0, none⟩) (l.filter fun x => !(x == id)).length cap) (l.filter fun x => !(x == id)) ∧ Chg (· = g) w w' := by
  have eg : ∀ args w, (callFunc 105 args).run Try.prog w = .ok (.enter 105 args) w := enters_of Try.func105 (by kernel_rfl) rfl
  obtain ⟨hH, hcap⟩ := row_holds h
  have hBl := World.block_lt_of_cell? w _ hc
  have hle : (l.filter fun x => !(x == id)).length ≤ l.length := List.length_filter_le _ _
  have hcon := AnyE.slices_DeleteFunc Try.delInts (Value.int .i64) (fun _ => rfl) (fun x => x == id) 105 #[.pointer (some ⟨B, 0, none⟩)] eg 0 Try.zeroValue3 g 0 cap l.toArray w
    (fun W x hb => closure_is id x B W ((hb.cell (p := ⟨B, 0, none⟩) hBl).trans hc))
    (fun n os dk x _ => closure_is id x B _ (by
      unfold sortWorld
      rw [cell?_grow _ _ _ (by show B < (putRow _ _ _ _ _).heap.size; rw [size_putRow]; exact hBl), cell?_putRow_other _ _ g 0 _ _ (Or.inl hB)]
      exact hc)) hH (by simp; omega) (by simpa using hcap)
  change Calls Try.prog 104 _ _ _ at hcon
  simp only [List.size_toArray] at hcon
  refine hcon.mono fun e w' ⟨he, q, hw⟩ => ?_
  have hp := row_put h q ((l.filter fun x => !(x == id)) ++ List.replicate (l.length - (l.filter fun x => !(x == id)).length) 0).toArray (by simp; omega) (l.filter fun x => !(x == id)) (by simp) (by simp) #[]
  rw [grow_empty] at hp
  subst hw
  exact ⟨he, hp.1, hp.2⟩


set_option maxHeartbeats 1000000 in
/-- slices.Sort of a row of the call's own. -/
theorem ints_Sort (w : World) (base : Nat) (v : Value) (l : List Int) (h : RowOf encI 1 3 w base v l) (hl : l.length ≤ 1000000) :
    Calls Try.prog 79 #[v] w fun e w' =>
      e = .returned (.tuple #[]) ∧ RowOf encI 1 3 w' base v (l.mergeSort fun x y => decide (x ≤ y)) ∧ Chg (fun k => v.ownBlock = some k) w w' := by
  rcases h.form with ⟨rfl, rfl⟩ | ⟨g, cap, rfl, hb, hcap, hm⟩
  · have hcon := AnyM.slices_Sort_int_none Try.sortInts none 0 w
    change Calls Try.prog 79 _ _ _ at hcon
    refine hcon.mono fun e w' ⟨he, hw⟩ => ?_
    subst hw
    exact ⟨he, by simpa using h, Chg.refl _ _⟩
  · have hcon := AnyM.slices_Sort_int Try.sortInts g 0 cap l w (row_holds h).1 (h.lt g rfl).2 (by omega)
    change Calls Try.prog 79 _ _ _ at hcon
    refine hcon.mono fun e w' ⟨he, n, os, hw⟩ => ?_
    have hlen : (l.mergeSort fun x y => decide (x ≤ y)).length = l.length := List.length_mergeSort _
    have hp := row_put h n (l.mergeSort fun x y => decide (x ≤ y)).toArray hlen (l.mergeSort fun x y => decide (x ≤ y)) (Nat.le_refl _) (List.take_of_length_le (Nat.le_refl _)) os
    subst hw
    rw [hlen] at hp
    exact ⟨he, hp.1, hp.2.mono fun k _ e => by rw [e]; rfl⟩
end Go.Proofs.Ytggeehmcjndlgaa
