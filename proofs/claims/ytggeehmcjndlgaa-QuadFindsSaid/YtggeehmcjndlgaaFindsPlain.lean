/-
  QuadFinds, plainly: the parts of a rectangle have what it has; what was put last is the last of those at its place.
-/
import Derived.Test.YtggeehmcjndlgaaMergesPlain
import Derived.Test.YtggeehmcjndlgaaRef3
namespace Go.Proofs.Ytggeehmcjndlgaa
open Go Go.RowKit Go.Sort Go.Shelf

def one (r : R4) (p : Int × Int) : Nat := if inB r p.1 p.2 then 1 else 0
theorem one_empty {r : R4} (h : emptyB r = true) (p : Int × Int) : one r p = 0 := by
  unfold one
  rw [if_neg]
  simp only [emptyB, inB, decide_eq_true_eq] at h ⊢
  omega
theorem one_four (a m : R4) (p : Int × Int) : ((fourTo a m 4).map fun r => one r p).sum = one (four a m 0) p + one (four a m 1) p + one (four a m 2) p + one (four a m 3) p := by
  have key : ∀ l : List R4, ((l.filter fun r => !emptyB r).map fun r => one r p).sum = (l.map fun r => one r p).sum := by
    intro l
    induction l with
    | nil => rfl
    | cons x l ih =>
      rw [List.filter_cons]
      cases h : emptyB x
      · simp only [Bool.not_false, if_true, List.map_cons, List.sum_cons, ih]
      · simp only [Bool.not_true, Bool.false_eq_true, if_false, List.map_cons, List.sum_cons, ih, one_empty h p, Nat.zero_add]
  unfold fourTo
  rw [key]
  have : (List.range 4) = [0, 1, 2, 3] := rfl
  rw [this]
  simp only [List.map_cons, List.map_nil, List.sum_cons, List.sum_nil]
  omega

theorem one_parts (a b : R4) (p : Int × Int) : one a p = one (meet a b) p + ((minusL a b).map fun r => one r p).sum := by
  unfold minusL
  cases ha : emptyB a
  · cases hm : emptyB (meet a b)
    · simp only [Bool.false_eq_true, if_false]
      rw [one_four]
      have hmr : meet a b = ⟨max a.x0 b.x0, max a.y0 b.y0, min a.x1 b.x1, min a.y1 b.y1⟩ := by
        unfold meet tidy
        split
        · rename_i h
          exfalso
          unfold meet tidy at hm
          rw [if_pos h] at hm
          simp [emptyB] at hm
        · rfl
      rw [hmr] at hm ⊢
      simp only [emptyB, decide_eq_false_iff_not] at ha hm
      simp only [one, four, inB, decide_eq_true_eq]
      (repeat' split) <;> omega
    · simp only [Bool.false_eq_true, if_false, if_true]
      rw [one_empty hm]
      simp
  · simp only [if_true]
    rw [one_empty ha]
    have : one (meet a b) p = 0 := by
      unfold meet tidy
      split
      · exact one_empty rfl p
      · unfold one
        rw [if_neg]
        simp only [emptyB, inB, decide_eq_true_eq] at ha ⊢
        omega
    rw [this]
    rfl

theorem inL_cons (e : Mark) (L : Pts) (r : R4) : (inL (e :: L) r).length = one r e.2 + (inL L r).length := by
  unfold inL one
  rw [List.filter_cons]
  split
  · simp; omega
  · simp
theorem sum_add {α : Type} (f g : α → Nat) : ∀ l : List α, (l.map fun x => f x + g x).sum = (l.map f).sum + (l.map g).sum
  | [] => rfl
  | x :: l => by simp only [List.map_cons, List.sum_cons, sum_add f g l]; omega

/-- The parts of a rectangle have what it has. -/
theorem parts_len (a b : R4) : ∀ L : Pts, (inL L a).length = (inL L (meet a b)).length + ((minusL a b).map fun r => (inL L r).length).sum
  | [] => by
    have : ((minusL a b).map fun r => (inL [] r).length).sum = 0 := by
      generalize minusL a b = l
      induction l with
      | nil => rfl
      | cons x l ih => simp only [List.map_cons, List.sum_cons, ih]; rfl
    rw [this]; rfl
  | e :: L => by
    have ih := parts_len a b L
    have h1 := one_parts a b e.2
    have h2 : ((minusL a b).map fun r => (inL (e :: L) r).length) = (minusL a b).map fun r => one r e.2 + (inL L r).length := List.map_congr_left fun r _ => inL_cons e L r
    rw [h2, sum_add, inL_cons, inL_cons]
    omega

theorem inL_append (L M : Pts) (r : R4) : inL (L ++ M) r = inL L r ++ inL M r := by simp [inL]
/-- Whoever is put behind all is the last at its place. -/
theorem inL_last {L : Pts} {id : Int} {p : Int × Int} (r : R4) (hi : inB r p.1 p.2 = true) : inL (L ++ [(id, p)]) r = inL L r ++ [id] := by
  rw [inL_append]
  simp [inL, hi]
theorem inL_whole {L : Pts} (h : ∀ e ∈ L, onB e.2.1 e.2.2 = true) : inL L whole = L.map (·.1) := by
  unfold inL
  rw [List.filter_eq_self.2 fun e he => by rw [on_whole]; exact h e he]

/-- Puts of rising numbers: what each answers. -/
theorem after_step (g : Nat → Int × (Int × Int)) (hg : ∀ i j, i < j → (g i).1 < (g j).1) (hg0 : ∀ j, 0 ≤ (g j).1) (j : Nat) (hj : j < 200) :
    (∀ x ∈ after g [] j, x.1 < (g j).1) ∧ (onB (g j).2.1 (g j).2.2 = true → putC (after g [] j) (g j).1 (g j).2 = 0 ∧ after g [] (j + 1) = after g [] j ++ [g j]) ∧
      (onB (g j).2.1 (g j).2.2 = false → putC (after g [] j) (g j).1 (g j).2 ≠ 0 ∧ after g [] (j + 1) = after g [] j) := by
  have hlt : ∀ x ∈ after g [] j, x.1 < (g j).1 := after_lt j (fun x hx => by cases hx) (fun i hi => hg i j hi)
  have hlen := after_len (g := g) (L := []) j
  simp only [List.length_nil, Nat.zero_add] at hlen
  refine ⟨hlt, fun hon => ?_, fun hon => ?_⟩
  · have hc := putC_ok (hg0 j) hon (lt_hasP hlt) (by omega)
    refine ⟨hc, ?_⟩
    simp only [after]
    unfold putL
    rw [if_pos hc, put_last hlt]
  · have hc := putC_off (L := after g [] j) (id := (g j).1) hon
    refine ⟨hc, ?_⟩
    simp only [after]
    unfold putL
    rw [if_neg hc]
end Go.Proofs.Ytggeehmcjndlgaa
