/-
  A tree of the call's own, apart from what the call keeps beside it: quad.Tree's methods in these words.
-/
import Derived.Test.YtggeehmcjndlgaaCopy
namespace Go.Proofs.Ytggeehmcjndlgaa
open Go Go.RowKit Go.Sort Go.Shelf

/-- In w (reached from w0, of which nothing below B was changed) block t is a tree that has L; none of its blocks lies below B, none is in K. -/
def Lone (B : Nat) (K : Nat → Prop) (w0 w : World) (t : Nat) (L : Pts) : Prop :=
  ∃ F, Tree w t L F ∧ (∀ k ∈ F, B ≤ k ∧ ¬ K k) ∧ Below B w0 w ∧ (∀ k, K k → k < w.heap.size) ∧ B ≤ w.heap.size
/-- From w to w' nothing was changed below B, nor in K. -/
abbrev Keeps (B : Nat) (K : Nat → Prop) (w w' : World) : Prop := Chg (fun k => B ≤ k ∧ ¬ K k) w w'

section
variable {B : Nat} {K : Nat → Prop} {w0 w w' : World} {t : Nat} {L L' : Pts}
theorem Keeps.of_below (h : Below w.heap.size w w') : Keeps B K w w' := Chg.of_below h _
theorem Lone.step {F : List Nat} (_h : Tree w t L F) (h1 : ∀ k ∈ F, B ≤ k ∧ ¬ K k) (h2 : Below B w0 w) (h3 : ∀ k, K k → k < w.heap.size) (h4 : B ≤ w.heap.size) (hs : TreeTo w t F L' w') : Lone B K w0 w' t L' ∧ Keeps B K w w' := by
  obtain ⟨F', g1, g2, g3⟩ := hs
  have hk : Keeps B K w w' := g3.mono fun k _ h => h1 k h
  refine ⟨⟨F', g1, fun k hk' => ?_, h2.trans (hk.below h4 fun k hk h => by omega), fun k hk' => Nat.lt_of_lt_of_le (h3 k hk') g3.size, Nat.le_trans h4 g3.size⟩, hk⟩
  rcases g2 k hk' with e | e
  · exact h1 k e
  · exact ⟨Nat.le_trans h4 e, fun hK => by have := h3 k hK; omega⟩
theorem Lone.keep (h : Lone B K w0 w t L) {Q : Nat → Prop} (hc : Chg Q w w') (hq : ∀ k, Q k → K k ∧ B ≤ k) : Lone B K w0 w' t L := by
  obtain ⟨F, g1, g2, g3, g4, g5⟩ := h
  exact ⟨F, g1.chg hc fun k hk hQ => (g2 k hk).2 (hq k hQ).1, g2, g3.trans (hc.below g5 fun k hk hQ => by have := (hq k hQ).2; omega), fun k hk => Nat.lt_of_lt_of_le (g4 k hk) hc.size, Nat.le_trans g5 hc.size⟩
theorem Lone.below (h : Lone B K w0 w t L) (hb : Below w.heap.size w w') : Lone B K w0 w' t L := h.keep (Chg.of_below hb (fun _ => False)) (fun _ h => h.elim)
theorem Lone.more (h : Lone B K w0 w t L) (hb : Below w.heap.size w w') {K' : Nat → Prop} (hK : ∀ k, K' k → K k ∨ (w.heap.size ≤ k ∧ k < w'.heap.size)) : Lone B K' w0 w' t L := by
  obtain ⟨F, g1, g2, g3, g4, g5⟩ := h.below hb
  obtain ⟨F0, q1, q2, q3, q4, q5⟩ := h
  refine ⟨F0, q1.below hb, fun k hk => ⟨(q2 k hk).1, fun hk' => ?_⟩, g3, fun k hk' => ?_, g5⟩
  · rcases hK k hk' with e | e
    · exact (q2 k hk).2 e
    · have := q1.lt k hk; omega
  · rcases hK k hk' with e | e
    · exact g4 k e
    · exact e.2
theorem Lone.to (h : Lone B K w0 w t L) : Below B w0 w := h.choose_spec.2.2.1
theorem Lone.tree (h : Lone B K w0 w t L) : ∃ F, Tree w t L F := ⟨_, h.choose_spec.1⟩
theorem Lone.srt (h : Lone B K w0 w t L) : Srt L := by obtain ⟨F, h⟩ := h.tree; exact h.srt

theorem lone_New (hb : Below B w0 w) (hB : B ≤ w.heap.size) (hK : ∀ k, K k → k < w.heap.size) : Calls Try.prog 18 #[] w fun e w' => ∃ t, e = .returned (.pointer (some ⟨t, 0, none⟩)) ∧ Lone B K w0 w' t [] ∧ Below w.heap.size w w' := by
  refine (quad_New w).mono ?_
  rintro e w' ⟨t, F, he, h1, h2, h3⟩
  exact ⟨t, he, ⟨F, h1, fun k hk => ⟨Nat.le_trans hB (h3 k hk), fun h => by have := hK k h; have := h3 k hk; omega⟩, hb.trans (h2.mono hB), fun k hk => Nat.lt_of_lt_of_le (hK k hk) h2.size, Nat.le_trans hB h2.size⟩, h2⟩

theorem lone_Put (h : Lone B K w0 w t L) {id : Int} {px py : Int} (hid : (Lit.int .i64 id).wf = true) :
    Calls Try.prog 20 #[.pointer (some ⟨t, 0, none⟩), .int .i64 id, .agg #[.int .i64 px, .int .i64 py]] w fun e w' => e = .returned (.int .i64 (putC L id (px, py))) ∧ Lone B K w0 w' t (putL L id (px, py)) ∧ Keeps B K w w' := by
  obtain ⟨F, g1, g2, g3, g4, g5⟩ := h
  refine (quad_Put w t L F id (px, py) g1 hid).mono ?_
  rintro e w' ⟨he, ht⟩
  exact ⟨he, Lone.step g1 g2 g3 g4 g5 ht⟩
theorem lone_Move (h : Lone B K w0 w t L) {id : Int} {px py : Int} (hid : (Lit.int .i64 id).wf = true) :
    Calls Try.prog 22 #[.pointer (some ⟨t, 0, none⟩), .int .i64 id, .agg #[.int .i64 px, .int .i64 py]] w fun e w' => e = .returned (.int .i64 (movC L id (px, py))) ∧ Lone B K w0 w' t (movL L id (px, py)) ∧ Keeps B K w w' := by
  obtain ⟨F, g1, g2, g3, g4, g5⟩ := h
  refine (quad_Move w t L F id (px, py) g1 hid).mono ?_
  rintro e w' ⟨he, ht⟩
  exact ⟨he, Lone.step g1 g2 g3 g4 g5 ht⟩
theorem lone_Drop (h : Lone B K w0 w t L) {id : Int} (hid : (Lit.int .i64 id).wf = true) :
    Calls Try.prog 24 #[.pointer (some ⟨t, 0, none⟩), .int .i64 id] w fun e w' => e = .returned (.int .i64 (drpC L id)) ∧ Lone B K w0 w' t (drpL L id) ∧ Keeps B K w w' := by
  obtain ⟨F, g1, g2, g3, g4, g5⟩ := h
  refine (quad_Drop w t L F id g1 hid).mono ?_
  rintro e w' ⟨he, ht⟩
  exact ⟨he, Lone.step g1 g2 g3 g4 g5 ht⟩
theorem lone_At (h : Lone B K w0 w t L) {id : Int} (hid : (Lit.int .i64 id).wf = true) :
    Calls Try.prog 26 #[.pointer (some ⟨t, 0, none⟩), .int .i64 id] w fun e w' => e = .returned (.tuple #[.agg #[.int .i64 (atP L id).1, .int .i64 (atP L id).2], .bool (hasP L id)]) ∧ Lone B K w0 w' t L ∧ Below w.heap.size w w' := by
  obtain ⟨F, g⟩ := h.tree
  refine (quad_At w t L F id g hid).mono ?_
  rintro e w' ⟨he, hb⟩
  exact ⟨he, h.below hb, hb⟩
theorem lone_Len (h : Lone B K w0 w t L) : Calls Try.prog 31 #[.pointer (some ⟨t, 0, none⟩)] w fun e w' => e = .returned (.int .i64 L.length) ∧ w' = w := by
  obtain ⟨F, g⟩ := h.tree
  exact quad_Len w t L F g
theorem lone_Depth (h : Lone B K w0 w t L) : Calls Try.prog 32 #[.pointer (some ⟨t, 0, none⟩)] w fun e w' => e = .returned (.int .i64 (deepR L 4 whole)) ∧ w' = w := by
  obtain ⟨F, g⟩ := h.tree
  exact quad_Depth w t L F g
/-- In's row is kept beside the tree. -/
theorem lone_In (h : Lone B K w0 w t L) (r : R4) :
    Calls Try.prog 29 #[.pointer (some ⟨t, 0, none⟩), .agg #[.int .i64 r.x0, .int .i64 r.y0, .int .i64 r.x1, .int .i64 r.y1]] w fun e w' =>
      ∃ v, e = .returned v ∧ RowOf encI 1 3 w' w.heap.size v (inL L r) ∧ Lone B (fun k => K k ∨ v.ownBlock = some k) w0 w' t L ∧ Below w.heap.size w w' := by
  obtain ⟨F, g⟩ := h.tree
  refine (quad_In w t L F r g).mono ?_
  rintro e w' ⟨v, he, hr, hb⟩
  exact ⟨v, he, hr, h.more hb fun k hk => hk.imp (fun h => h) (fun e => hr.lt k e), hb⟩
/-- Copy: another tree, apart from this one, and this one apart from it. -/
theorem lone_Copy (h : Lone B K w0 w t L) :
    Calls Try.prog 19 #[.pointer (some ⟨t, 0, none⟩)] w fun e w' => ∃ t', e = .returned (.pointer (some ⟨t', 0, none⟩)) ∧ Lone B K w0 w' t L ∧ Lone w.heap.size K w w' t' L ∧ Lone B K w0 w' t' L ∧ Below w.heap.size w w' := by
  obtain ⟨F, g1, g2, g3, g4, g5⟩ := h
  have h' : Lone B K w0 w t L := ⟨F, g1, g2, g3, g4, g5⟩
  refine (quad_Copy w t L F g1).mono ?_
  rintro e w' ⟨t', F', he, hT, hb, hF⟩
  have hn : ∀ k ∈ F', ¬ K k := fun k hk h => by have := g4 k h; have := hF k hk; omega
  have hs := hb.size
  exact ⟨t', he, h'.below hb, ⟨F', hT, fun k hk => ⟨hF k hk, hn k hk⟩, hb, fun k hk => Nat.lt_of_lt_of_le (g4 k hk) hs, hs⟩, ⟨F', hT, fun k hk => ⟨Nat.le_trans g5 (hF k hk), hn k hk⟩, g3.trans (hb.mono g5), fun k hk => Nat.lt_of_lt_of_le (g4 k hk) hs, Nat.le_trans g5 hs⟩, hb⟩
end
end Go.Proofs.Ytggeehmcjndlgaa
