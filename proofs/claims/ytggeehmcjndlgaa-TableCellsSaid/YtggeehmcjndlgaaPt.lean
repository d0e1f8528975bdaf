/-
  The squares by their numbers alone: what adding and removing make of them.
-/
import Derived.Test.YtggeehmcjndlgaaSqIn
namespace Go.Proofs.Ytggeehmcjndlgaa
open Go Go.RowKit Go.Sort Go.Shelf

/-- A square by its numbers alone. -/
inductive PT where
  | leaf (ids : List Int)
  | node (a b c d : PT)
  deriving Inhabited

def PT.ids : PT → List Int
  | .leaf ids => ids
  | .node a b c d => a.ids ++ b.ids ++ c.ids ++ d.ids
def Sq.pt : Sq → PT
  | .leaf _ ids => .leaf ids
  | .node _ _ a b c d => .node a.pt b.pt c.pt d.pt
theorem Sq.pt_ids : ∀ S : Sq, S.pt.ids = S.ids
  | .leaf _ _ => rfl
  | .node _ _ a b c d => by simp only [Sq.pt, PT.ids, Sq.ids, pt_ids]

def fin4 (a b c d : PT) : PT := if (PT.node a b c d).ids.length ≤ 4 then .leaf (PT.node a b c d).ids else .node a b c d
def remPT (L : Pts) : PT → R4 → Int → PT
  | .leaf ids, _, id => .leaf (ids.filter fun x => !(x == id))
  | .node a b c d, r, id =>
    fin4 (if whch r (atP L id).1 (atP L id).2 = 0 then remPT L a (qtr r 0) id else a) (if whch r (atP L id).1 (atP L id).2 = 1 then remPT L b (qtr r 1) id else b)
      (if whch r (atP L id).1 (atP L id).2 = 2 then remPT L c (qtr r 2) id else c) (if whch r (atP L id).1 (atP L id).2 = 3 then remPT L d (qtr r 3) id else d)
/-- The way down leads to the number. -/
def Goes (L : Pts) : PT → R4 → Int → Prop
  | .leaf ids, _, id => id ∈ ids
  | .node a b c d, r, id => match whch r (atP L id).1 (atP L id).2 with
    | 0 => Goes L a (qtr r 0) id | 1 => Goes L b (qtr r 1) id | 2 => Goes L c (qtr r 2) id | _ => Goes L d (qtr r 3) id

theorem Goes.mem (L : Pts) : ∀ (t : PT) (r : R4) (id : Int), Goes L t r id → id ∈ t.ids
  | .leaf ids, _, id, h => h
  | .node a b c d, r, id, h => by
    simp only [Goes] at h
    simp only [PT.ids, List.mem_append]
    split at h
    · exact .inl (.inl (.inl (Goes.mem L a _ id h)))
    · exact .inl (.inl (.inr (Goes.mem L b _ id h)))
    · exact .inl (.inr (Goes.mem L c _ id h))
    · exact .inr (Goes.mem L d _ id h)

theorem remPT_leaf_len {ids : List Int} {id : Int} (hn : ids.Nodup) (hm : id ∈ ids) : (ids.filter fun x => !(x == id)).length + 1 = ids.length := by
  have h1 : (ids.filter fun x => !(x == id)) = ids.erase id := by
    rw [hn.erase_eq_filter]
    exact List.filter_congr fun x _ => by simp [bne]
  rw [h1, List.length_erase_of_mem hm]
  have := List.length_pos_of_mem hm
  omega

theorem fin4_ids (a b c d : PT) : (fin4 a b c d).ids = (PT.node a b c d).ids := by unfold fin4; split <;> rfl

theorem remPT_len (L : Pts) : ∀ (t : PT) (r : R4) (id : Int), Goes L t r id → t.ids.Nodup → (remPT L t r id).ids.length + 1 = t.ids.length
  | .leaf ids, _, id, h, hn => remPT_leaf_len hn h
  | .node a b c d, r, id, h, hn => by
    simp only [Goes] at h
    simp only [PT.ids] at hn
    obtain ⟨hn1, hd, _⟩ := List.nodup_append.1 hn
    obtain ⟨hn2, hc, _⟩ := List.nodup_append.1 hn1
    obtain ⟨ha, hb, _⟩ := List.nodup_append.1 hn2
    simp only [remPT, fin4_ids, PT.ids, List.length_append]
    have hw := whch_lt r (atP L id).1 (atP L id).2
    generalize whch r (atP L id).1 (atP L id).2 = k at *
    have : k = 0 ∨ k = 1 ∨ k = 2 ∨ k = 3 := by omega
    rcases this with rfl | rfl | rfl | rfl
    · have := remPT_len L a _ id h ha; simp; omega
    · have := remPT_len L b _ id h hb; simp; omega
    · have := remPT_len L c _ id h hc; simp; omega
    · have := remPT_len L d _ id h hd; simp; omega


def PT.dep : PT → Nat
  | .leaf _ => 0
  | .node a b c d => 1 + max (max a.dep b.dep) (max c.dep d.dep)
theorem Sq.pt_dep : ∀ S : Sq, S.pt.dep = S.dep
  | .leaf _ _ => rfl
  | .node _ _ a b c d => by simp only [Sq.pt, PT.dep, Sq.dep, pt_dep]

/-- One more number, put into the one of four where it is. -/
def kidStep (L : Pts) (f : R4 → Int → PT → PT) (r : R4) (x : Int) : PT → PT
  | .leaf ids => .leaf ids
  | .node a b c d => .node (if whch r (atP L x).1 (atP L x).2 = 0 then f (qtr r 0) x a else a) (if whch r (atP L x).1 (atP L x).2 = 1 then f (qtr r 1) x b else b)
      (if whch r (atP L x).1 (atP L x).2 = 2 then f (qtr r 2) x c else c) (if whch r (atP L x).1 (atP L x).2 = 3 then f (qtr r 3) x d else d)
def emp4 : PT := .node (.leaf []) (.leaf []) (.leaf []) (.leaf [])
/-- One more number in a square that may be split n times. -/
def addPT (L : Pts) : Nat → R4 → Int → PT → PT
  | 0, _, id, .leaf ids => .leaf (ids ++ [id])
  | 0, _, _, .node a b c d => .node a b c d
  | n + 1, r, id, .leaf ids => if ids.length < 4 then .leaf (ids ++ [id]) else (ids ++ [id]).foldl (fun t x => kidStep L (addPT L n) r x t) emp4
  | n + 1, r, id, .node a b c d => kidStep L (addPT L n) r id (.node a b c d)

theorem kidStep_spec (L : Pts) (n : Nat) (f : R4 → Int → PT → PT) (hf : ∀ r x t, t.dep ≤ n → (f r x t).ids.Perm (x :: t.ids) ∧ (f r x t).dep ≤ n) (r : R4) (x : Int) (a b c d : PT) (hd : (PT.node a b c d).dep ≤ n + 1) :
    (kidStep L f r x (.node a b c d)).ids.Perm (x :: (PT.node a b c d).ids) ∧ (kidStep L f r x (.node a b c d)).dep ≤ n + 1 ∧ ∃ a' b' c' d', kidStep L f r x (.node a b c d) = .node a' b' c' d' := by
  simp only [PT.dep] at hd
  simp only [kidStep]
  have hw := whch_lt r (atP L x).1 (atP L x).2
  generalize whch r (atP L x).1 (atP L x).2 = k at *
  have : k = 0 ∨ k = 1 ∨ k = 2 ∨ k = 3 := by omega
  refine ⟨?_, ?_, _, _, _, _, rfl⟩
  · rcases this with rfl | rfl | rfl | rfl
    · have h := (hf (qtr r 0) x a (by omega)).1
      simp only [PT.ids, reduceIte, Nat.reduceEqDiff, Nat.zero_ne_one]
      simpa using ((h.append_right b.ids).append_right c.ids).append_right d.ids
    · have h := (hf (qtr r 1) x b (by omega)).1
      simp only [PT.ids, reduceIte, Nat.reduceEqDiff, Nat.one_ne_zero]
      have h2 := (h.append_left a.ids).trans List.perm_middle
      simpa using (h2.append_right c.ids).append_right d.ids
    · have h := (hf (qtr r 2) x c (by omega)).1
      simp only [PT.ids, reduceIte, Nat.reduceEqDiff]
      have h2 := (h.append_left (a.ids ++ b.ids)).trans List.perm_middle
      simpa using h2.append_right d.ids
    · have h := (hf (qtr r 3) x d (by omega)).1
      simp only [PT.ids, reduceIte, Nat.reduceEqDiff]
      simpa using (h.append_left (a.ids ++ b.ids ++ c.ids)).trans List.perm_middle
  · simp only [PT.dep]
    have h0 := fun r => (hf r x a (by omega)).2
    have h1 := fun r => (hf r x b (by omega)).2
    have h2 := fun r => (hf r x c (by omega)).2
    have h3 := fun r => (hf r x d (by omega)).2
    rcases this with rfl | rfl | rfl | rfl
    · have := h0 (qtr r 0); simp; omega
    · have := h1 (qtr r 1); simp; omega
    · have := h2 (qtr r 2); simp; omega
    · have := h3 (qtr r 3); simp; omega

theorem kidFold_spec (L : Pts) (n : Nat) (f : R4 → Int → PT → PT) (hf : ∀ r x t, t.dep ≤ n → (f r x t).ids.Perm (x :: t.ids) ∧ (f r x t).dep ≤ n) (r : R4) : ∀ (l : List Int) (t : PT), (∃ a b c d, t = .node a b c d) → t.dep ≤ n + 1 →
    (l.foldl (fun t x => kidStep L f r x t) t).ids.Perm (l ++ t.ids) ∧ (l.foldl (fun t x => kidStep L f r x t) t).dep ≤ n + 1 ∧ ∃ a b c d, l.foldl (fun t x => kidStep L f r x t) t = .node a b c d
  | [], t, hn, hd => ⟨List.Perm.refl _, hd, hn⟩
  | x :: l, t, ⟨a, b, c, d, ht⟩, hd => by
    subst ht
    obtain ⟨h1, h2, h3⟩ := kidStep_spec L n f hf r x a b c d hd
    obtain ⟨g1, g2, g3⟩ := kidFold_spec L n f hf r l _ h3 h2
    refine ⟨?_, g2, g3⟩
    simp only [List.foldl_cons]
    exact g1.trans (((h1.append_left l)).trans (by simp))

theorem addPT_spec (L : Pts) : ∀ (n : Nat) (r : R4) (id : Int) (t : PT), t.dep ≤ n → (addPT L n r id t).ids.Perm (id :: t.ids) ∧ (addPT L n r id t).dep ≤ n
  | 0, r, id, .leaf ids, _ => ⟨by simp [addPT, PT.ids], by simp [addPT, PT.dep]⟩
  | 0, r, id, .node a b c d, h => by simp [PT.dep] at h
  | n + 1, r, id, .leaf ids, _ => by
    simp only [addPT]
    split
    · exact ⟨by simp [PT.ids], by simp [PT.dep]⟩
    · obtain ⟨h1, h2, _⟩ := kidFold_spec L n (addPT L n) (fun r x t h => addPT_spec L n r x t h) r (ids ++ [id]) emp4 ⟨_, _, _, _, rfl⟩ (by simp [emp4, PT.dep])
      refine ⟨h1.trans ?_, h2⟩
      simp [emp4, PT.ids]
  | n + 1, r, id, .node a b c d, h => by
    simp only [addPT]
    obtain ⟨h1, h2, _⟩ := kidStep_spec L n (addPT L n) (fun r x t h => addPT_spec L n r x t h) r id a b c d h
    exact ⟨h1, h2⟩
end Go.Proofs.Ytggeehmcjndlgaa
