/-
  The cells' rows hold each thing once.
-/
import Derived.Test.YtggeehmcjndlgaaFew
import Derived.Test.YtggeehmcjndlgaaCells
namespace Go.Proofs.Ytggeehmcjndlgaa
open Go Go.RowKit Go.Sort Go.Shelf
set_option linter.unusedVariables false
set_option linter.unusedSimpArgs false
set_option linter.unnecessarySimpa false

/-- How many stand in the cells -1 .. i - 2. -/
def tot (M : Ths) (i : Nat) : Nat := ((List.range i).map fun d : Nat => (cellT M ((d : Int) - 1)).length).sum
theorem tot_succ (M : Ths) (i : Nat) : tot M (i + 1) = tot M i + (cellT M ((i : Int) - 1)).length := by
  unfold tot; rw [List.range_succ, List.map_append, List.sum_append]; simp
theorem cellT_len (M : Ths) (c : Int) : (cellT M c).length ≤ M.length := by
  unfold cellT; split
  · exact inT_len M _
  · simp
theorem tot_le (M : Ths) : ∀ i, tot M i ≤ i * M.length
  | 0 => by simp [tot]
  | i + 1 => by
    rw [tot_succ, Nat.succ_mul]
    have := tot_le M i
    have := cellT_len M ((i : Int) - 1)
    omega
def inC (x : Thg) (d : Nat) : Nat := if (isC ((d : Int) - 1) && inB (rectC ((d : Int) - 1)) x.x x.y) = true then 1 else 0
theorem cellT_cons (x : Thg) (M : Ths) (d : Nat) : (cellT (x :: M) ((d : Int) - 1)).length = inC x d + (cellT M ((d : Int) - 1)).length := by
  unfold cellT inC inT
  cases isC ((d : Int) - 1)
  · simp
  · cases h : inB (rectC ((d : Int) - 1)) x.x x.y
    · simp [List.filter_cons, h]
    · simp [List.filter_cons, h]; omega
theorem sum_add (f g : Nat → Nat) : ∀ l : List Nat, (l.map fun d => f d + g d).sum = (l.map f).sum + (l.map g).sum
  | [] => rfl
  | d :: l => by simp only [List.map_cons, List.sum_cons, sum_add f g l]; omega
theorem tot_cons (x : Thg) (M : Ths) (i : Nat) : tot (x :: M) i = ((List.range i).map (inC x)).sum + tot M i := by
  unfold tot
  rw [← sum_add]
  congr 1
  exact List.map_congr_left fun d _ => cellT_cons x M d
def hC (a b d : Nat) : Nat := if 1 ≤ d ∧ d ≤ 16 ∧ cellX (d - 1) = a ∧ cellY (d - 1) = b then 1 else 0
theorem hC_one : ∀ a : Fin 4, ∀ b : Fin 4, ((List.range 18).map (hC a.val b.val)).sum = 1 := by decide +kernel
theorem inC_hC {x : Thg} (hx : 0 ≤ x.x) (hy : 0 ≤ x.y) {d : Nat} (hd : d < 18) : inC x d = hC (x.x.toNat / 16) (x.y.toNat / 16) d := by
  unfold inC hC
  by_cases h : 1 ≤ d ∧ d ≤ 16
  · obtain ⟨h1, h2⟩ := h
    have hc : isC ((d : Int) - 1) = true := by unfold isC; exact decide_eq_true ⟨by omega, by omega⟩
    have hr : rectC ((d : Int) - 1) = cellR (d - 1) := by
      have := rectC_yes (c := d - 1) (by omega)
      rw [← this]; congr 1; omega
    rw [hc, hr, Bool.true_and]
    unfold inB cellR
    simp only [decide_eq_true_eq]
    generalize cellX (d - 1) = X
    generalize cellY (d - 1) = Y
    by_cases hh : X = x.x.toNat / 16 ∧ Y = x.y.toNat / 16
    · rw [if_pos (by omega), if_pos ⟨h1, h2, hh.1, hh.2⟩]
    · rw [if_neg (by omega), if_neg (fun e => hh ⟨e.2.2.1, e.2.2.2⟩)]
  · have hc : isC ((d : Int) - 1) = false := by unfold isC; exact decide_eq_false (fun e => h ⟨by omega, by omega⟩)
    rw [hc, if_neg (by simp), if_neg (fun e => h ⟨e.1, e.2.1⟩)]
theorem tot_all : ∀ {M : Ths}, (∀ x ∈ M, onB x.x x.y = true) → tot M 18 = M.length
  | [], _ => by
    have h := tot_le [] 18
    simp at h ⊢; exact h
  | x :: M, hon => by
    rw [tot_cons, tot_all fun y hy => hon y (List.mem_cons_of_mem _ hy), List.length_cons]
    have h := hon x (by simp)
    unfold onB at h
    obtain ⟨h1, h2, h3, h4⟩ := of_decide_eq_true h
    have e : (List.range 18).map (inC x) = (List.range 18).map (hC (x.x.toNat / 16) (x.y.toNat / 16)) := List.map_congr_left fun d hd => inC_hC h1 h3 (List.mem_range.1 hd)
    rw [e]
    have := hC_one ⟨x.x.toNat / 16, by omega⟩ ⟨x.y.toNat / 16, by omega⟩
    simp only at this
    rw [this]; omega
theorem SrtT.cell {M : Ths} (h : SrtT M) (c : Int) : SrtT (cellT M c) := by
  unfold cellT; split
  · exact h.inT _
  · exact List.Pairwise.nil
theorem cellT_mem {M : Ths} {c : Int} {x : Thg} (h : x ∈ cellT M c) : x ∈ M := by
  unfold cellT at h; split at h
  · exact (List.mem_filter.1 h).1
  · cases h
theorem SrtT.lt {M : Ths} (h : SrtT M) {k : Nat} {x y : Thg} (hx : M[k]? = some x) (hy : M[k + 1]? = some y) : x.id < y.id := by
  obtain ⟨h1, rfl⟩ := List.getElem?_eq_some_iff.1 hx
  obtain ⟨h2, rfl⟩ := List.getElem?_eq_some_iff.1 hy
  exact List.pairwise_iff_getElem.1 h k (k + 1) h1 h2 (by omega)
theorem InRow.below {α : Type} {enc : α → List Value} {k : Nat} {w w' : World} {v : Value} {l : List α} (h : InRow enc k w v l) (hb : Below w.heap.size w w') : InRow enc k w' v l := by
  obtain ⟨ao, cap, e, hc⟩ := h
  refine ⟨ao, cap, e, fun j x hj => ?_⟩
  obtain ⟨b, off, h1, h2⟩ := hc j x hj
  exact ⟨b, off, h1, fun i u hu => (hb.cell (p := ⟨b, off + j * k + i, none⟩) (World.block_lt_of_cell? w _ (h2 i u hu))).trans (h2 i u hu)⟩
end Go.Proofs.Ytggeehmcjndlgaa
