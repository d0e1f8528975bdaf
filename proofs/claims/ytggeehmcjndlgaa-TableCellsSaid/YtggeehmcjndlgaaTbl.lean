/-
  table.Table in memory: its header, its map, its tree; the state on the way through one of its methods.
-/
import Derived.Test.YtggeehmcjndlgaaThs
import Derived.Test.YtggeehmcjndlgaaCopy
namespace Go.Proofs.Ytggeehmcjndlgaa
open Go Go.RowKit Go.Sort Go.Shelf
set_option linter.unusedVariables false
set_option linter.unusedSimpArgs false
set_option linter.unnecessarySimpa false

/-- Block t is a table that has M; F: its blocks. -/
def Tbl (w : World) (t : Nat) (M : Ths) (F : List Nat) : Prop :=
  ∃ bm q Fq, w.heap[t]? = some (.cells #[.map (some bm), .pointer (some ⟨q, 0, none⟩)] 128 (0, 0)) ∧ IMap w bm (entT M) ∧ Tree w q (ptsT M) Fq ∧ F = t :: bm :: Fq ∧ t ≠ bm ∧ t ∉ Fq ∧ bm ∉ Fq
def TblTo (w : World) (t : Nat) (F : List Nat) (M' : Ths) (w' : World) : Prop := ∃ F', Tbl w' t M' F' ∧ (∀ k ∈ F', k ∈ F ∨ w.heap.size ≤ k) ∧ Chg (· ∈ F) w w'

section
variable {w w' W W' : World} {t : Nat} {M M' : Ths} {F : List Nat}
theorem Tbl.frame (h : Tbl w t M F) (hk : ∀ k ∈ F, w'.heap[k]? = w.heap[k]?) : Tbl w' t M F := by
  obtain ⟨bm, q, Fq, h1, h2, h3, rfl, h4⟩ := h
  exact ⟨bm, q, Fq, (hk t (by simp)).trans h1, h2.of_heap (hk bm (by simp)), h3.frame fun k hk' => hk k (by simp [hk']), rfl, h4⟩
theorem Tbl.lt (h : Tbl w t M F) : ∀ k ∈ F, k < w.heap.size := by
  obtain ⟨bm, q, Fq, h1, h2, h3, rfl, h4⟩ := h
  intro k hk
  simp only [List.mem_cons] at hk
  rcases hk with rfl | rfl | hk
  · exact lt_of_block h1
  · exact h2.lt
  · exact h3.lt k hk
theorem Tbl.below (h : Tbl w t M F) (hb : Below w.heap.size w w') : Tbl w' t M F := h.frame fun k hk => hb.block k (h.lt k hk)
theorem Tbl.srt (h : Tbl w t M F) : SrtT M := by obtain ⟨bm, q, Fq, h1, h2, h3, h4⟩ := h; exact ptsT_srt' h3.srt
theorem Tbl.len (h : Tbl w t M F) : M.length ≤ 400 := by obtain ⟨bm, q, Fq, h1, h2, h3, h4⟩ := h; rw [← ptsT_len]; exact h3.len
theorem TblTo.of_below (h : Tbl w t M F) (hb : Below w.heap.size w w') : TblTo w t F M w' := ⟨F, h.below hb, fun _ h => .inl h, Chg.of_below hb _⟩

/-- On the way: what was w is W now: the table's header is as it was; the map has E, the tree L; the boxes X stand. -/
structure TS (w : World) (F : List Nat) (t bm q : Nat) (X : List (Nat × Obj)) (W : World) (E : Ents) (L : Pts) : Prop where
  hd : W.heap[t]? = some (.cells #[.map (some bm), .pointer (some ⟨q, 0, none⟩)] 128 (0, 0))
  bx : ∀ p ∈ X, W.heap[p.1]? = some p.2 ∧ w.heap.size ≤ p.1
  im : IMap W bm E
  tr : ∃ Fq, Tree W q L Fq ∧ (∀ k ∈ Fq, k ∈ F ∨ w.heap.size ≤ k) ∧ t ∉ Fq ∧ bm ∉ Fq ∧ ∀ p ∈ X, p.1 ∉ Fq
  ch : Chg (· ∈ F) w W
  tF : t ∈ F
  bF : bm ∈ F
  tb : t ≠ bm
  Fl : ∀ k ∈ F, k < w.heap.size

variable {bm q : Nat} {X : List (Nat × Obj)} {E E' : Ents} {L L' : Pts}
theorem Tbl.ts (h : Tbl w t M F) : ∃ bm q, TS w F t bm q [] w (entT M) (ptsT M) := by
  have hl := h.lt
  obtain ⟨bm, q, Fq, h1, h2, h3, rfl, h4, h5, h6⟩ := h
  exact ⟨bm, q, h1, fun p hp => (by cases hp), h2, ⟨Fq, h3, fun k hk => .inl (by simp [hk]), h5, h6, fun p hp => (by cases hp)⟩, Chg.refl _ _, by simp, by simp, h4, hl⟩
theorem TS.below (h : TS w F t bm q X W E L) (hb : Below W.heap.size W W') : TS w F t bm q X W' E L := by
  obtain ⟨h1, h2, h3, ⟨Fq, g1, g2⟩, h5, h6, h7, h8, h9⟩ := h
  exact ⟨(hb.block _ (lt_of_block h1)).trans h1, fun p hp => ⟨(hb.block _ (lt_of_block (h2 p hp).1)).trans (h2 p hp).1, (h2 p hp).2⟩, h3.below hb, ⟨Fq, g1.below hb, g2⟩, h5.trans (Chg.of_below hb _), h6, h7, h8, h9⟩
/-- A box more. -/
theorem TS.box (h : TS w F t bm q X W E L) (o : Obj) {O : Obj} (hO : (W.alloc o).heap[W.heap.size]? = some O) : TS w F t bm q ((W.heap.size, O) :: X) (W.alloc o) E L := by
  have hsz := h.ch.size
  have hh := h.below (W' := W.alloc o) ((Below.refl _ W).alloc (Nat.le_refl _) o)
  obtain ⟨_, _, _, ⟨Fq0, k1, k2, k3, k4, k5⟩, _⟩ := h
  obtain ⟨h1, h2, h3, ⟨Fq, g1, g2, g3, g4, g5⟩, h5, h6, h7, h8, h9⟩ := hh
  refine ⟨h1, fun p hp => ?_, h3, ⟨Fq0, k1.below ((Below.refl _ W).alloc (Nat.le_refl _) o), k2, k3, k4, fun p hp => ?_⟩, h5, h6, h7, h8, h9⟩
  · rcases List.mem_cons.1 hp with rfl | hp
    · exact ⟨hO, hsz⟩
    · exact h2 p hp
  · rcases List.mem_cons.1 hp with rfl | hp
    · exact fun e => Nat.lt_irrefl _ (k1.lt _ e)
    · exact k5 p hp
theorem TS.step {Fq : List Nat} (h : TS w F t bm q X W E L) (h1 : Tree W q L Fq) (h2 : ∀ k ∈ Fq, k ∈ F ∨ w.heap.size ≤ k) (h3 : t ∉ Fq) (h4 : bm ∉ Fq) (h5 : ∀ p ∈ X, p.1 ∉ Fq) (hto : TreeTo W q Fq L' W') : TS w F t bm q X W' E L' := by
  obtain ⟨F', g1, g2, g3⟩ := hto
  have hs := h.ch.size
  refine ⟨g3.heap h.hd h3, fun p hp => ⟨g3.heap (h.bx p hp).1 (h5 p hp), (h.bx p hp).2⟩, h.im.chg g3 h4, ⟨F', g1, fun k hk => ?_, fun e => ?_, fun e => ?_, fun p hp e => ?_⟩, h.ch.andThen g3 fun k hk e => (h2 k e).elim (fun h => h) (fun h => by omega), h.tF, h.bF, h.tb, h.Fl⟩
  · rcases g2 k hk with e | e
    · exact h2 k e
    · exact .inr (Nat.le_trans hs e)
  · rcases g2 t e with e | e
    · exact h3 e
    · have := lt_of_block h.hd; omega
  · rcases g2 bm e with e | e
    · exact h4 e
    · have := h.im.lt; omega
  · rcases g2 p.1 e with e | e
    · exact h5 p hp e
    · have := lt_of_block (h.bx p hp).1; omega
theorem TS.turn (h : TS w F t bm q X W E L) (him : IMap W' bm E') (ht : W.mapTurned W' bm) : TS w F t bm q X W' E' L := by
  have hc := turned_chg ht
  have hbl := h.Fl bm h.bF
  obtain ⟨Fq, g1, g2, g3, g4, g5⟩ := h.tr
  exact ⟨hc.heap h.hd h.tb, fun p hp => ⟨hc.heap (h.bx p hp).1 (fun e => by have := (h.bx p hp).2; omega), (h.bx p hp).2⟩, him, ⟨Fq, g1.chg hc (fun k hk e => g4 (e ▸ hk)), g2, g3, g4, g5⟩, h.ch.andThen hc (fun k hk e => e ▸ h.bF), h.tF, h.bF, h.tb, h.Fl⟩
theorem TS.done (h : TS w F t bm q X W (entT M') (ptsT M')) : TblTo w t F M' W := by
  obtain ⟨Fq, g1, g2, g3, g4, g5⟩ := h.tr
  refine ⟨t :: bm :: Fq, ⟨bm, q, Fq, h.hd, h.im, g1, rfl, h.tb, g3, g4⟩, fun k hk => ?_, h.ch⟩
  simp only [List.mem_cons] at hk
  rcases hk with rfl | rfl | hk
  · exact .inl h.tF
  · exact .inl h.bF
  · exact g2 k hk
theorem TS.hd0 (h : TS w F t bm q X W E L) : W.cell? ⟨t, 0, none⟩ = some (.map (some bm)) := cellAt h.hd rfl
theorem TS.hd1 (h : TS w F t bm q X W E L) : W.cell? ⟨t, 1, none⟩ = some (.pointer (some ⟨q, 0, none⟩)) := cellAt h.hd rfl
theorem TS.tree (h : TS w F t bm q X W E L) : ∃ Fq, Tree W q L Fq := ⟨_, h.tr.choose_spec.1⟩

theorem ts_Drop (h : TS w F t bm q X W E L) {id : Int} (hid : (Lit.int .i64 id).wf = true) :
    Calls Try.prog 24 #[.pointer (some ⟨q, 0, none⟩), .int .i64 id] W fun e W' => e = .returned (.int .i64 (drpC L id)) ∧ TS w F t bm q X W' E (drpL L id) := by
  obtain ⟨Fq, g1, g2, g3, g4, g5⟩ := h.tr
  exact (quad_Drop W q L Fq id g1 hid).mono fun e W' ⟨he, hto⟩ => ⟨he, h.step g1 g2 g3 g4 g5 hto⟩
theorem ts_Lay (h : TS w F t bm q X W E L) {id px py : Int} (hid : (Lit.int .i64 id).wf = true) (hno : hasP L id = false) (hon : onB px py = true) (hlen : L.length < 400) :
    Calls Try.prog 73 #[.pointer (some ⟨q, 0, none⟩), .int .i64 id, .agg #[.int .i64 px, .int .i64 py]] W fun e W' => e = .returned (.tuple #[]) ∧ TS w F t bm q X W' E (putP id (px, py) L) := by
  obtain ⟨Fq, g1, g2, g3, g4, g5⟩ := h.tr
  exact (quad_Lay W q L Fq id (px, py) g1 hid hno hon hlen).mono fun e W' ⟨he, hto⟩ => ⟨he, h.step g1 g2 g3 g4 g5 hto⟩
theorem ts_In (h : TS w F t bm q X W E L) (r : R4) :
    Calls Try.prog 29 #[.pointer (some ⟨q, 0, none⟩), .agg #[.int .i64 r.x0, .int .i64 r.y0, .int .i64 r.x1, .int .i64 r.y1]] W fun e W' => ∃ v, e = .returned v ∧ RowOf encI 1 3 W' W.heap.size v (inL L r) ∧ Below W.heap.size W W' := by
  obtain ⟨Fq, g1, _⟩ := h.tr
  exact quad_In W q L Fq r g1
end

/-! ### the map of things -/
theorem thingZ (w : World) : (zeroValue 63).run Try.prog w = .ok zeroT.val w := Try.zeroValue63 w
section
variable (w : World) {ops : Array Oper} {rest : List Oper} {o : Oper} {a : Act} {Q : Exit → Act → World → Prop}
theorem wpl_getT_ok (hg : o.guard = none) (m x : Operand) (hop : o.op = Op.lookup 126 m x true) (b : Nat) (M : Ths) (k : Int) (hm : a.eval m = .map (some b)) (hx : a.eval x = .int .i64 k) (h : IMap w b (entT M)) (hk : (Lit.int .i64 k).wf = true)
    (hK : wpList Try.prog ops Q rest (a.put o.dst (.tuple #[.agg #[.int .i64 (getT M k).id, .int .i64 (getT M k).x, .int .i64 (getT M k).y, .int .i64 (getT M k).a.n, .string (getT M k).a.t, .int .i64 (getT M k).b.n, .string (getT M k).b.t, .int .i64 (getT M k).c.n, .string (getT M k).c.t, .int .i64 (getT M k).d.n, .string (getT M k).d.t], .bool (hasT M k)])) w) : wpList Try.prog ops Q (o :: rest) a w := by
  refine wpl_look_ok w hg m x _ hop 63 Try.underlying126 (thingZ w) b _ k hm hx h hk ?_
  rw [entT_look, entT_has]
  exact hK
theorem wpl_getT (hg : o.guard = none) (m x : Operand) (hop : o.op = Op.lookup 126 m x false) (b : Nat) (M : Ths) (k : Int) (hm : a.eval m = .map (some b)) (hx : a.eval x = .int .i64 k) (h : IMap w b (entT M)) (hk : (Lit.int .i64 k).wf = true)
    (hK : wpList Try.prog ops Q rest (a.put o.dst (.agg #[.int .i64 (getT M k).id, .int .i64 (getT M k).x, .int .i64 (getT M k).y, .int .i64 (getT M k).a.n, .string (getT M k).a.t, .int .i64 (getT M k).b.n, .string (getT M k).b.t, .int .i64 (getT M k).c.n, .string (getT M k).c.t, .int .i64 (getT M k).d.n, .string (getT M k).d.t])) w) : wpList Try.prog ops Q (o :: rest) a w := by
  refine wpl_look w hg m x _ hop 63 Try.underlying126 (thingZ w) b _ k hm hx h hk ?_
  rw [entT_look]
  exact hK
theorem wpl_lenT (hg : o.guard = none) (m : Operand) (hop : o.op = Op.call { callee := Callee.builtin Builtin.len, args := #[m], argTypes := #[126] })
    (b : Nat) (M : Ths) (hm : a.eval m = .map (some b)) (h : IMap w b (entT M))
    (hK : wpList Try.prog ops Q rest (a.put o.dst (.int .i64 M.length)) w) : wpList Try.prog ops Q (o :: rest) a w := by
  refine wpl_len w hg m _ hop 63 Try.underlying126 b _ hm h ?_
  rw [entT_len]
  exact hK
end
/-- What a look-up gives, as an equation of its run. -/
def LooksT (bm : Nat) (k : Int) (y : Thg) (b : Bool) (w : World) : Prop := (Instr.lookup 126 (.map (some bm)) (.int .i64 k) true).run Try.prog w = .ok (.tuple #[.agg #[.int .i64 y.id, .int .i64 y.x, .int .i64 y.y, .int .i64 y.a.n, .string y.a.t, .int .i64 y.b.n, .string y.b.t, .int .i64 y.c.n, .string y.c.t, .int .i64 y.d.n, .string y.d.t], .bool b]) w
theorem getT_run {w : World} {bm : Nat} {M : Ths} {k : Int} (h : IMap w bm (entT M)) (hk : (Lit.int .i64 k).wf = true) : LooksT bm k (getT M k) (hasT M k) w := by
  have := h.look_ok Try.underlying126 (thingZ w) hk
  rw [entT_look, entT_has] at this
  exact this
end Go.Proofs.Ytggeehmcjndlgaa
