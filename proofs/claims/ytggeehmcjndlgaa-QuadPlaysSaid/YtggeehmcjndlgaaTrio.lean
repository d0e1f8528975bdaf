/-
  A tree, its copy, and the document's tree beside them.
-/
import Derived.Test.YtggeehmcjndlgaaDrop8
namespace Go.Proofs.Ytggeehmcjndlgaa
open Go Go.RowKit Go.Sort Go.Shelf
set_option linter.unusedVariables false
set_option linter.unusedSimpArgs false
set_option linter.unnecessarySimpa false

/-- t is a tree that has L, r the document's tree (row v) that has Lr; both are the call's own (blocks from B on), apart from each other and from X; nothing below B was changed since w0. -/
def Duo (B : Nat) (X : Nat → Prop) (w0 w : World) (t r : Nat) (v : Value) (L Lr : Pts) : Prop :=
  Lone B (fun k => X k ∨ k = r ∨ v.ownBlock = some k) w0 w t L ∧ RTree w B r v Lr ∧ B ≤ r ∧ ¬ X r ∧ ∀ k, v.ownBlock = some k → ¬ X k
/-- .. and c another tree, that has Lc. -/
def Trio (B : Nat) (X : Nat → Prop) (w0 w : World) (t c r : Nat) (v : Value) (L Lc Lr : Pts) : Prop :=
  ∃ F2, Tree w c Lc F2 ∧ (∀ k ∈ F2, B ≤ k ∧ ¬ X k) ∧ Duo B (fun k => X k ∨ k ∈ F2) w0 w t r v L Lr

section
variable {B : Nat} {X X' : Nat → Prop} {w0 w w' : World} {t c r : Nat} {v : Value} {L L' Lc Lr : Pts}

theorem Lone.to_more {K K' Q : Nat → Prop} (h : Lone B K w0 w t L) (hc : Chg Q w w') (hq : ∀ k, Q k → K k ∧ B ≤ k) (hK : ∀ k, K' k → K k ∨ (w.heap.size ≤ k ∧ k < w'.heap.size)) : Lone B K' w0 w' t L := by
  obtain ⟨F, g1, g2, g3, g4, g5⟩ := h.keep hc hq
  obtain ⟨F0, q1, q2, q3, q4, q5⟩ := h
  refine ⟨F0, q1.chg hc fun k hk hQ => (q2 k hk).2 (hq k hQ).1, fun k hk => ⟨(q2 k hk).1, fun hk' => ?_⟩, g3, fun k hk' => ?_, g5⟩
  · rcases hK k hk' with e | e
    · exact (q2 k hk).2 e
    · have := q1.lt k hk; omega
  · rcases hK k hk' with e | e
    · exact g4 k e
    · exact e.2
theorem Lone.less {K K' : Nat → Prop} (h : Lone B K w0 w t L) (hK : ∀ k, K' k → K k) : Lone B K' w0 w t L := by
  obtain ⟨F, g1, g2, g3, g4, g5⟩ := h
  exact ⟨F, g1, fun k hk => ⟨(g2 k hk).1, fun h => (g2 k hk).2 (hK k h)⟩, g3, fun k hk => g4 k (hK k hk), g5⟩
theorem Keeps.less {K K' : Nat → Prop} (h : Keeps B K w w') (hK : ∀ k, K' k → K k) : Keeps B K' w w' := h.mono fun k _ hk => ⟨hk.1, fun h => hk.2 (hK k h)⟩

theorem RTree.frame (h : RTree w B r v Lr) (h1 : w'.heap[r]? = w.heap[r]?) (h2 : ∀ k, v.ownBlock = some k → w'.heap[k]? = w.heap[k]?) : RTree w' B r v Lr := ⟨h1.trans h.1, h.2.1.of_heap h2, h.2.2⟩
theorem RTree.rlt (h : RTree w B r v Lr) : r < w.heap.size := lt_of_block h.1
theorem RTree.vlt (h : RTree w B r v Lr) : ∀ k, v.ownBlock = some k → B ≤ k ∧ k < w.heap.size := h.2.1.lt

theorem Duo.lone (h : Duo B X w0 w t r v L Lr) : Lone B X w0 w t L := h.1.less fun k hk => .inl hk
theorem Duo.to (h : Duo B X w0 w t r v L Lr) : Below B w0 w := h.1.to
theorem Duo.size (h : Duo B X w0 w t r v L Lr) : B ≤ w.heap.size := by obtain ⟨F, _, _, _, _, h⟩ := h.1; exact h
theorem Duo.less (h : Duo B X w0 w t r v L Lr) (hX : ∀ k, X' k → X k) : Duo B X' w0 w t r v L Lr :=
  ⟨h.1.less fun k hk => hk.imp (hX k) id, h.2.1, h.2.2.1, fun hr => h.2.2.2.1 (hX r hr), fun k hk hx => h.2.2.2.2 k hk (hX k hx)⟩
theorem Duo.more (h : Duo B X w0 w t r v L Lr) (hb : Below w.heap.size w w') (hX : ∀ k, X' k → X k ∨ (w.heap.size ≤ k ∧ k < w'.heap.size)) : Duo B X' w0 w' t r v L Lr := by
  obtain ⟨h1, h2, h3, h4, h5⟩ := h
  refine ⟨h1.more hb fun k hk => ?_, h2.below hb, h3, fun hr => ?_, fun k hk hx => ?_⟩
  · rcases hk with hk | hk
    · rcases hX k hk with e | e
      · exact .inl (.inl e)
      · exact .inr e
    · exact .inl (.inr hk)
  · rcases hX r hr with e | e
    · exact h4 e
    · have := h2.rlt; omega
  · rcases hX k hx with e | e
    · exact h5 k hk e
    · have := (h2.vlt k hk).2; omega
theorem Duo.below (h : Duo B X w0 w t r v L Lr) (hb : Below w.heap.size w w') : Duo B X w0 w' t r v L Lr := h.more hb fun _ h => .inl h

/-- A step of t. -/
theorem Duo.t_step {K : Nat → Prop} (h : Duo B X w0 w t r v L Lr) (h1 : Lone B (fun k => X k ∨ k = r ∨ v.ownBlock = some k) w0 w' t L') (hk : Keeps B (fun k => X k ∨ k = r ∨ v.ownBlock = some k) w w') : Duo B X w0 w' t r v L' Lr ∧ Keeps B X w w' := by
  obtain ⟨_, h2, h3, h4, h5⟩ := h
  refine ⟨⟨h1, h2.frame (hk.block r h2.rlt fun e => e.2 (.inr (.inl rfl))) (fun k hk' => hk.block k (h2.vlt k hk').2 fun e => e.2 (.inr (.inr hk'))), h3, h4, h5⟩, hk.less fun k hk => .inl hk⟩
/-- A step of r. -/
theorem Duo.r_step {v' : Value} {Lr' : Pts} (h : Duo B X w0 w t r v L Lr) (h1 : RTree w' B r v' Lr') (hc : Chg (fun k => k = r ∨ v.ownBlock = some k) w w') (hv : v'.ownBlock = v.ownBlock ∨ ∀ k, v'.ownBlock = some k → w.heap.size ≤ k) : Duo B X w0 w' t r v' L Lr' ∧ Keeps B X w w' := by
  obtain ⟨g1, g2, g3, g4, g5⟩ := h
  have hXlt : ∀ k, X k → k < w.heap.size := by
    obtain ⟨F, _, _, _, h, _⟩ := g1
    exact fun k hk => h k (.inl hk)
  refine ⟨⟨g1.to_more hc (fun k hk => ⟨.inr hk, ?_⟩) (fun k hk => ?_), h1, g3, g4, fun k hk hx => ?_⟩, hc.mono fun k _ hk => ⟨?_, fun hx => ?_⟩⟩
  · rcases hk with rfl | hk
    · exact g3
    · exact (g2.vlt k hk).1
  · rcases hk with hk | hk | hk
    · exact .inl (.inl hk)
    · exact .inl (.inr (.inl hk))
    · rcases hv with e | e
      · exact .inl (.inr (.inr (e ▸ hk)))
      · exact .inr ⟨e k hk, (h1.vlt k hk).2⟩
  · rcases hv with e | e
    · exact g5 k (e ▸ hk) hx
    · have := e k hk; have := hXlt k hx; omega
  · rcases hk with rfl | hk
    · exact g3
    · exact (g2.vlt k hk).1
  · rcases hk with rfl | hk
    · exact g4 hx
    · exact g5 k hk hx

theorem duo_tPut (h : Duo B X w0 w t r v L Lr) {id px py : Int} (hid : (Lit.int .i64 id).wf = true) :
    Calls Try.prog 20 #[.pointer (some ⟨t, 0, none⟩), .int .i64 id, .agg #[.int .i64 px, .int .i64 py]] w fun e w' => e = .returned (.int .i64 (putC L id (px, py))) ∧ Duo B X w0 w' t r v (putL L id (px, py)) Lr ∧ Keeps B X w w' :=
  (lone_Put h.1 hid).mono fun e w' ⟨he, h1, h2⟩ => ⟨he, h.t_step (K := X) h1 h2⟩
theorem duo_tMove (h : Duo B X w0 w t r v L Lr) {id px py : Int} (hid : (Lit.int .i64 id).wf = true) :
    Calls Try.prog 22 #[.pointer (some ⟨t, 0, none⟩), .int .i64 id, .agg #[.int .i64 px, .int .i64 py]] w fun e w' => e = .returned (.int .i64 (movC L id (px, py))) ∧ Duo B X w0 w' t r v (movL L id (px, py)) Lr ∧ Keeps B X w w' :=
  (lone_Move h.1 hid).mono fun e w' ⟨he, h1, h2⟩ => ⟨he, h.t_step (K := X) h1 h2⟩
theorem duo_tDrop (h : Duo B X w0 w t r v L Lr) {id : Int} (hid : (Lit.int .i64 id).wf = true) :
    Calls Try.prog 24 #[.pointer (some ⟨t, 0, none⟩), .int .i64 id] w fun e w' => e = .returned (.int .i64 (drpC L id)) ∧ Duo B X w0 w' t r v (drpL L id) Lr ∧ Keeps B X w w' :=
  (lone_Drop h.1 hid).mono fun e w' ⟨he, h1, h2⟩ => ⟨he, h.t_step (K := X) h1 h2⟩

theorem duo_rPut (h : Duo B X w0 w t r v L Lr) {id px py : Int} (hl : Lr.length ≤ 1000) :
    Calls Try.prog 21 #[.pointer (some ⟨r, 0, none⟩), .int .i64 id, .agg #[.int .i64 px, .int .i64 py]] w fun e w' => e = .returned (.int .i64 (putC Lr id (px, py))) ∧ ∃ v', Duo B X w0 w' t r v' L (putL Lr id (px, py)) ∧ Keeps B X w w' :=
  (ref8_Put w B r v Lr id (px, py) h.2.1 hl h.size h.2.2.1).mono fun e w' ⟨he, v', h1, h2, h3⟩ => ⟨he, v', h.r_step h1 h2 h3⟩
theorem duo_rMove (h : Duo B X w0 w t r v L Lr) {id px py : Int} (hl : Lr.length ≤ 1000) (hs : Srt Lr) :
    Calls Try.prog 23 #[.pointer (some ⟨r, 0, none⟩), .int .i64 id, .agg #[.int .i64 px, .int .i64 py]] w fun e w' => e = .returned (.int .i64 (movC Lr id (px, py))) ∧ ∃ v', Duo B X w0 w' t r v' L (movL Lr id (px, py)) ∧ Keeps B X w w' :=
  (ref8_Move w B r v Lr id (px, py) h.2.1 hl).mono fun e w' ⟨he, h1, h2⟩ => ⟨he, v, by rw [setM_eq hs] at h1; exact h.r_step h1 (h2.mono fun k _ h => .inr h) (.inl rfl)⟩
theorem duo_rDrop (h : Duo B X w0 w t r v L Lr) {id : Int} (hl : Lr.length ≤ 1000) (hs : Srt Lr) :
    Calls Try.prog 25 #[.pointer (some ⟨r, 0, none⟩), .int .i64 id] w fun e w' => e = .returned (.int .i64 (drpC Lr id)) ∧ ∃ v', Duo B X w0 w' t r v' L (drpL Lr id) ∧ Keeps B X w w' :=
  (ref8_Drop w B r v Lr id h.2.1 hl h.size).mono fun e w' ⟨he, v', h1, h2, h3⟩ => ⟨he, v', by rw [dropM_eq hs] at h1; exact h.r_step h1 h2 h3⟩

theorem Trio.step {v' : Value} {L' Lr' : Pts} (h : ∃ F2, Tree w c Lc F2 ∧ (∀ k ∈ F2, B ≤ k ∧ ¬ X k) ∧ Duo B (fun k => X k ∨ k ∈ F2) w0 w' t r v' L' Lr' ∧ Keeps B (fun k => X k ∨ k ∈ F2) w w') : Trio B X w0 w' t c r v' L' Lc Lr' ∧ Keeps B X w w' := by
  obtain ⟨F2, h1, h2, h3, h4⟩ := h
  exact ⟨⟨F2, h1.chg h4 fun k hk e => e.2 (.inr hk), h2, h3⟩, h4.less fun k hk => .inl hk⟩
theorem Trio.to (h : Trio B X w0 w t c r v L Lc Lr) : Below B w0 w := by obtain ⟨_, _, _, h⟩ := h; exact h.to
theorem Trio.below (h : Trio B X w0 w t c r v L Lc Lr) (hb : Below w.heap.size w w') : Trio B X w0 w' t c r v L Lc Lr := by
  obtain ⟨F2, h1, h2, h3⟩ := h
  exact ⟨F2, h1.below hb, h2, h3.below hb⟩

theorem trio_tPut (h : Trio B X w0 w t c r v L Lc Lr) {id px py : Int} (hid : (Lit.int .i64 id).wf = true) :
    Calls Try.prog 20 #[.pointer (some ⟨t, 0, none⟩), .int .i64 id, .agg #[.int .i64 px, .int .i64 py]] w fun e w' => e = .returned (.int .i64 (putC L id (px, py))) ∧ Trio B X w0 w' t c r v (putL L id (px, py)) Lc Lr ∧ Keeps B X w w' := by
  obtain ⟨F2, h1, h2, h3⟩ := h
  exact (duo_tPut h3 hid).mono fun e w' ⟨he, g⟩ => ⟨he, Trio.step ⟨F2, h1, h2, g⟩⟩
theorem trio_tMove (h : Trio B X w0 w t c r v L Lc Lr) {id px py : Int} (hid : (Lit.int .i64 id).wf = true) :
    Calls Try.prog 22 #[.pointer (some ⟨t, 0, none⟩), .int .i64 id, .agg #[.int .i64 px, .int .i64 py]] w fun e w' => e = .returned (.int .i64 (movC L id (px, py))) ∧ Trio B X w0 w' t c r v (movL L id (px, py)) Lc Lr ∧ Keeps B X w w' := by
  obtain ⟨F2, h1, h2, h3⟩ := h
  exact (duo_tMove h3 hid).mono fun e w' ⟨he, g⟩ => ⟨he, Trio.step ⟨F2, h1, h2, g⟩⟩
theorem trio_tDrop (h : Trio B X w0 w t c r v L Lc Lr) {id : Int} (hid : (Lit.int .i64 id).wf = true) :
    Calls Try.prog 24 #[.pointer (some ⟨t, 0, none⟩), .int .i64 id] w fun e w' => e = .returned (.int .i64 (drpC L id)) ∧ Trio B X w0 w' t c r v (drpL L id) Lc Lr ∧ Keeps B X w w' := by
  obtain ⟨F2, h1, h2, h3⟩ := h
  exact (duo_tDrop h3 hid).mono fun e w' ⟨he, g⟩ => ⟨he, Trio.step ⟨F2, h1, h2, g⟩⟩
theorem trio_rPut (h : Trio B X w0 w t c r v L Lc Lr) {id px py : Int} (hl : Lr.length ≤ 1000) :
    Calls Try.prog 21 #[.pointer (some ⟨r, 0, none⟩), .int .i64 id, .agg #[.int .i64 px, .int .i64 py]] w fun e w' => e = .returned (.int .i64 (putC Lr id (px, py))) ∧ ∃ v', Trio B X w0 w' t c r v' L Lc (putL Lr id (px, py)) ∧ Keeps B X w w' := by
  obtain ⟨F2, h1, h2, h3⟩ := h
  exact (duo_rPut h3 hl).mono fun e w' ⟨he, v', g⟩ => ⟨he, v', Trio.step ⟨F2, h1, h2, g⟩⟩
theorem trio_rMove (h : Trio B X w0 w t c r v L Lc Lr) {id px py : Int} (hl : Lr.length ≤ 1000) (hs : Srt Lr) :
    Calls Try.prog 23 #[.pointer (some ⟨r, 0, none⟩), .int .i64 id, .agg #[.int .i64 px, .int .i64 py]] w fun e w' => e = .returned (.int .i64 (movC Lr id (px, py))) ∧ ∃ v', Trio B X w0 w' t c r v' L Lc (movL Lr id (px, py)) ∧ Keeps B X w w' := by
  obtain ⟨F2, h1, h2, h3⟩ := h
  exact (duo_rMove h3 hl hs).mono fun e w' ⟨he, v', g⟩ => ⟨he, v', Trio.step ⟨F2, h1, h2, g⟩⟩
theorem trio_rDrop (h : Trio B X w0 w t c r v L Lc Lr) {id : Int} (hl : Lr.length ≤ 1000) (hs : Srt Lr) :
    Calls Try.prog 25 #[.pointer (some ⟨r, 0, none⟩), .int .i64 id] w fun e w' => e = .returned (.int .i64 (drpC Lr id)) ∧ ∃ v', Trio B X w0 w' t c r v' L Lc (drpL Lr id) ∧ Keeps B X w w' := by
  obtain ⟨F2, h1, h2, h3⟩ := h
  exact (duo_rDrop h3 hl hs).mono fun e w' ⟨he, v', g⟩ => ⟨he, v', Trio.step ⟨F2, h1, h2, g⟩⟩

/-- c: a copy of t. -/
theorem duo_Copy (h : Duo B X w0 w t r v L Lr) :
    Calls Try.prog 19 #[.pointer (some ⟨t, 0, none⟩)] w fun e w' => ∃ c, e = .returned (.pointer (some ⟨c, 0, none⟩)) ∧ Trio B X w0 w' t c r v L L Lr ∧ Below w.heap.size w w' := by
  obtain ⟨F, g1, g2, g3, g4, g5⟩ := h.1
  refine (quad_Copy w t L F g1).mono ?_
  rintro e w' ⟨c, F', he, hT, hb, hF⟩
  have hXl : ∀ k, X k → k < w.heap.size := fun k hk => g4 k (.inl hk)
  refine ⟨c, he, ⟨F', hT, fun k hk => ⟨Nat.le_trans g5 (hF k hk), fun hx => ?_⟩, h.more hb fun k hk => ?_⟩, hb⟩
  · have := hXl k hx; have := hF k hk; omega
  · rcases hk with hk | hk
    · exact .inl hk
    · exact .inr ⟨hF k hk, hT.lt k hk⟩
/-- A copy of t goes on in t's place. -/
theorem trio_Copy (h : Trio B X w0 w t c r v L Lc Lr) :
    Calls Try.prog 19 #[.pointer (some ⟨t, 0, none⟩)] w fun e w' => ∃ t', e = .returned (.pointer (some ⟨t', 0, none⟩)) ∧ Trio B X w0 w' t' c r v L Lc Lr ∧ Below w.heap.size w w' := by
  obtain ⟨F2, h1, h2, h3⟩ := h
  refine (lone_Copy h3.1).mono ?_
  rintro e w' ⟨t', he, _, _, h4, hb⟩
  exact ⟨t', he, ⟨F2, h1.below hb, h2, h4, h3.2.1.below hb, h3.2.2.1, h3.2.2.2.1, h3.2.2.2.2⟩, hb⟩
/-- The copy is put into: t and r don't see it. -/
theorem trio_cPut (h : Trio B X w0 w t c r v L Lc Lr) {id px py : Int} (hid : (Lit.int .i64 id).wf = true) :
    Calls Try.prog 20 #[.pointer (some ⟨c, 0, none⟩), .int .i64 id, .agg #[.int .i64 px, .int .i64 py]] w fun e w' => e = .returned (.int .i64 (putC Lc id (px, py))) ∧ Duo B X w0 w' t r v L Lr ∧ Keeps B X w w' := by
  obtain ⟨F2, h1, h2, h3, h4, h5, h6, h7⟩ := h
  refine (quad_Put w c Lc F2 id (px, py) h1 hid).mono ?_
  rintro e w' ⟨he, F', g1, g2, g3⟩
  have hk : Keeps B X w w' := g3.mono fun k _ hk => h2 k hk
  refine ⟨he, ⟨?_, h4.frame (g3.block r h4.rlt fun e => h6 (.inr e)) (fun k hk' => g3.block k (h4.vlt k hk').2 fun e => h7 k hk' (.inr e)), h5, fun hx => h6 (.inl hx), fun k hk hx => h7 k hk (.inl hx)⟩, hk⟩
  exact (h3.keep g3 fun k hk => ⟨.inl (.inr hk), (h2 k hk).1⟩).less fun k hk => hk.imp .inl (fun h => h)
end
end Go.Proofs.Ytggeehmcjndlgaa
