/-
  A structure of the call's own, apart from what is kept beside it: a table's methods in these words.
-/
import Derived.Test.YtggeehmcjndlgaaTblQ
namespace Go.Proofs.Ytggeehmcjndlgaa
open Go Go.RowKit Go.Sort Go.Shelf
set_option linter.unusedVariables false
set_option linter.unusedSimpArgs false
set_option linter.unnecessarySimpa false

/-- T w F: in w there is something whose blocks are F. -/
def Apart (T : World → List Nat → Prop) (B : Nat) (K : Nat → Prop) (w0 w : World) : Prop :=
  ∃ F, T w F ∧ (∀ k ∈ F, B ≤ k ∧ ¬ K k) ∧ Below B w0 w ∧ (∀ k, K k → k < w.heap.size) ∧ B ≤ w.heap.size
structure Framed (T : World → List Nat → Prop) : Prop where
  frame : ∀ {w w' : World} {F : List Nat}, T w F → (∀ k ∈ F, w'.heap[k]? = w.heap[k]?) → T w' F
  lt : ∀ {w : World} {F : List Nat}, T w F → ∀ k ∈ F, k < w.heap.size
/-- What a step leaves that changes only that thing. -/
def StepTo (T' : World → List Nat → Prop) (F : List Nat) (w w' : World) : Prop := ∃ F', T' w' F' ∧ (∀ k ∈ F', k ∈ F ∨ w.heap.size ≤ k) ∧ Chg (· ∈ F) w w'

section
variable {T T' : World → List Nat → Prop} {B : Nat} {K K' X : Nat → Prop} {w0 w w' : World}
theorem Apart.to (h : Apart T B K w0 w) : Below B w0 w := h.choose_spec.2.2.1
theorem Apart.size (h : Apart T B K w0 w) : B ≤ w.heap.size := h.choose_spec.2.2.2.2
theorem Apart.klt (h : Apart T B K w0 w) : ∀ k, K k → k < w.heap.size := h.choose_spec.2.2.2.1
theorem Apart.the (h : Apart T B K w0 w) : ∃ F, T w F := ⟨_, h.choose_spec.1⟩
theorem Apart.step {F : List Nat} (h1 : ∀ k ∈ F, B ≤ k ∧ ¬ K k) (h2 : Below B w0 w) (h3 : ∀ k, K k → k < w.heap.size) (h4 : B ≤ w.heap.size) (hs : StepTo T' F w w') : Apart T' B K w0 w' ∧ Keeps B K w w' := by
  obtain ⟨F', g1, g2, g3⟩ := hs
  have hk : Keeps B K w w' := g3.mono fun k _ h => h1 k h
  refine ⟨⟨F', g1, fun k hk' => ?_, h2.trans (hk.below h4 fun k hk h => by omega), fun k hk' => Nat.lt_of_lt_of_le (h3 k hk') g3.size, Nat.le_trans h4 g3.size⟩, hk⟩
  rcases g2 k hk' with e | e
  · exact h1 k e
  · exact ⟨Nat.le_trans h4 e, fun hK => by have := h3 k hK; omega⟩
theorem Apart.to_more {Q : Nat → Prop} (hT : Framed T) (h : Apart T B K w0 w) (hc : Chg Q w w') (hq : ∀ k, Q k → K k ∧ B ≤ k) (hK : ∀ k, K' k → K k ∨ (w.heap.size ≤ k ∧ k < w'.heap.size)) : Apart T B K' w0 w' := by
  obtain ⟨F, g1, g2, g3, g4, g5⟩ := h
  refine ⟨F, hT.frame g1 fun k hk => hc.block k (hT.lt g1 k hk) fun hQ => (g2 k hk).2 (hq k hQ).1, fun k hk => ⟨(g2 k hk).1, fun hk' => ?_⟩, g3.trans (hc.below g5 fun k hk hQ => by have := (hq k hQ).2; omega), fun k hk' => ?_, Nat.le_trans g5 hc.size⟩
  · rcases hK k hk' with e | e
    · exact (g2 k hk).2 e
    · have := hT.lt g1 k hk; omega
  · rcases hK k hk' with e | e
    · exact Nat.lt_of_lt_of_le (g4 k e) hc.size
    · exact e.2
theorem Apart.keep {Q : Nat → Prop} (hT : Framed T) (h : Apart T B K w0 w) (hc : Chg Q w w') (hq : ∀ k, Q k → K k ∧ B ≤ k) : Apart T B K w0 w' := h.to_more hT hc hq fun _ h => .inl h
theorem Apart.more (hT : Framed T) (h : Apart T B K w0 w) (hb : Below w.heap.size w w') (hK : ∀ k, K' k → K k ∨ (w.heap.size ≤ k ∧ k < w'.heap.size)) : Apart T B K' w0 w' := h.to_more hT (Chg.of_below hb (fun _ => False)) (fun _ h => h.elim) hK
theorem Apart.below (hT : Framed T) (h : Apart T B K w0 w) (hb : Below w.heap.size w w') : Apart T B K w0 w' := h.more hT hb fun _ h => .inl h
theorem Apart.less (h : Apart T B K w0 w) (hK : ∀ k, K' k → K k) : Apart T B K' w0 w := by
  obtain ⟨F, g1, g2, g3, g4, g5⟩ := h
  exact ⟨F, g1, fun k hk => ⟨(g2 k hk).1, fun h => (g2 k hk).2 (hK k h)⟩, g3, fun k hk => g4 k (hK k hk), g5⟩
/-- Something new. -/
theorem Apart.new (hb : Below B w0 w) (hB : B ≤ w.heap.size) (hK : ∀ k, K k → k < w.heap.size) {F : List Nat} (h : T w' F) (hF : ∀ k ∈ F, w.heap.size ≤ k) (hw : Below w.heap.size w w') : Apart T B K w0 w' :=
  ⟨F, h, fun k hk => ⟨Nat.le_trans hB (hF k hk), fun h => by have := hK k h; have := hF k hk; omega⟩, hb.trans (hw.mono hB), fun k hk => Nat.lt_of_lt_of_le (hK k hk) hw.size, Nat.le_trans hB hw.size⟩
theorem Keeps.of_less (h : Keeps B K w w') (hK : ∀ k, K' k → K k) : Keeps B K' w w' := h.mono fun k _ hk => ⟨hk.1, fun h => hk.2 (hK k h)⟩
end

/-! ### tables -/
theorem tblF (t : Nat) (M : Ths) : Framed (fun w F => Tbl w t M F) := ⟨fun h hk => h.frame hk, fun h => h.lt⟩
abbrev TL (t : Nat) (M : Ths) (B : Nat) (K : Nat → Prop) (w0 w : World) : Prop := Apart (fun w F => Tbl w t M F) B K w0 w

section
variable {B : Nat} {K X : Nat → Prop} {w0 w w' : World} {t c : Nat} {M Mc : Ths}
theorem tl_New (hb : Below B w0 w) (hB : B ≤ w.heap.size) (hK : ∀ k, K k → k < w.heap.size) : Calls Try.prog 38 #[] w fun e w' => ∃ t, e = .returned (.pointer (some ⟨t, 0, none⟩)) ∧ TL t [] B K w0 w' ∧ Below w.heap.size w w' :=
  (table_New w).mono fun e w' ⟨t, F, he, h1, h2, h3⟩ => ⟨t, he, Apart.new hb hB hK h1 h3 h2, h2⟩
theorem tl_Put (h : TL t M B K w0 w) (x : Thg) (hid : (Lit.int .i64 x.id).wf = true) (hx : okT x) :
    Calls Try.prog 42 #[.pointer (some ⟨t, 0, none⟩), x.val] w fun e w' => e = .returned (.int .i64 (tputC M x)) ∧ TL t (tputT M x) B K w0 w' ∧ Keeps B K w w' := by
  obtain ⟨F, g1, g2, g3, g4, g5⟩ := h
  exact (table_Put w t M F x g1 hid hx).mono fun e w' ⟨he, hs⟩ => ⟨he, Apart.step g2 g3 g4 g5 hs⟩
theorem tl_Lay (h : TL t M B K w0 w) (x : Thg) (hid : (Lit.int .i64 x.id).wf = true) (hon : onB x.x x.y = true) (hlen : (delT x.id M).length < 400) :
    Calls Try.prog 88 #[.pointer (some ⟨t, 0, none⟩), x.val] w fun e w' => e = .returned (.tuple #[]) ∧ TL t (putT x M) B K w0 w' ∧ Keeps B K w w' := by
  obtain ⟨F, g1, g2, g3, g4, g5⟩ := h
  exact (table_Lay w t M F x g1 hid hon hlen).mono fun e w' ⟨he, hs⟩ => ⟨he, Apart.step g2 g3 g4 g5 hs⟩
theorem tl_Set (h : TL t M B K w0 w) (x : Thg) (hid : (Lit.int .i64 x.id).wf = true) (hx : okT x) (hlM : M.length ≤ 399) :
    Calls Try.prog 45 #[.pointer (some ⟨t, 0, none⟩), x.val] w fun e w' => e = .returned (.int .i64 (tsetC M x)) ∧ TL t (tsetT M x) B K w0 w' ∧ Keeps B K w w' := by
  obtain ⟨F, g1, g2, g3, g4, g5⟩ := h
  exact (table_Set w t M F x g1 hid hx hlM).mono fun e w' ⟨he, hs⟩ => ⟨he, Apart.step g2 g3 g4 g5 hs⟩
theorem tl_Drop (h : TL t M B K w0 w) {id : Int} (hid : (Lit.int .i64 id).wf = true) :
    Calls Try.prog 46 #[.pointer (some ⟨t, 0, none⟩), .int .i64 id] w fun e w' => e = .returned (.int .i64 (tdropC M id)) ∧ TL t (delT id M) B K w0 w' ∧ Keeps B K w w' := by
  obtain ⟨F, g1, g2, g3, g4, g5⟩ := h
  exact (table_Drop w t M F id g1 hid).mono fun e w' ⟨he, hs⟩ => ⟨he, Apart.step g2 g3 g4 g5 hs⟩
theorem tl_Get (h : TL t M B K w0 w) {id : Int} (hid : (Lit.int .i64 id).wf = true) :
    Calls Try.prog 54 #[.pointer (some ⟨t, 0, none⟩), .int .i64 id] w fun e w' => e = .returned (.tuple #[(getT M id).val, .bool (hasT M id)]) ∧ Below w.heap.size w w' := by
  obtain ⟨F, g⟩ := h.the
  exact table_Get w t M F id g hid
theorem tl_Len (h : TL t M B K w0 w) : Calls Try.prog 55 #[.pointer (some ⟨t, 0, none⟩)] w fun e w' => e = .returned (.int .i64 M.length) ∧ w' = w := by
  obtain ⟨F, g⟩ := h.the
  exact table_Len w t M F g
theorem tl_In (h : TL t M B K w0 w) (r : R4) :
    Calls Try.prog 56 #[.pointer (some ⟨t, 0, none⟩), .agg #[.int .i64 r.x0, .int .i64 r.y0, .int .i64 r.x1, .int .i64 r.y1]] w fun e w' => ∃ v', e = .returned v' ∧ RowOf encT 11 63 w' w.heap.size v' (inT M r) ∧ Below w.heap.size w w' := by
  obtain ⟨F, g⟩ := h.the
  exact table_In w t M F r g
theorem tl_All (h : TL t M B K w0 w) :
    Calls Try.prog 51 #[.pointer (some ⟨t, 0, none⟩)] w fun e w' => ∃ v', e = .returned v' ∧ RowOf encT 11 63 w' w.heap.size v' M ∧ Below w.heap.size w w' := by
  obtain ⟨F, g⟩ := h.the
  exact table_All w t M F g
theorem TL.srt (h : TL t M B K w0 w) : SrtT M := by obtain ⟨F, g⟩ := h.the; exact Tbl.srt g
theorem TL.len (h : TL t M B K w0 w) : M.length ≤ 400 := by obtain ⟨F, g⟩ := h.the; exact Tbl.len g
theorem TL.on (h : TL t M B K w0 w) : ∀ x ∈ M, onB x.x x.y = true := by obtain ⟨F, g⟩ := h.the; exact Tbl.on g

theorem copy_done {w2 w3 : World} {q3 : Nat} {F3 : List Nat} (HB2 : Below w.heap.size w w2) (h2 : IMap w3 w.heap.size (entT M)) (h3 : Tree w3 q3 (ptsT M) F3) (hF : ∀ k ∈ F3, w2.heap.size ≤ k) (HB3 : Below w.heap.size w w3) (hl : w.heap.size < w2.heap.size) :
    ∃ c F', Ending.returned (.pointer (some ⟨w3.heap.size, 0, none⟩)) = .returned (.pointer (some ⟨c, 0, none⟩)) ∧ Tbl (w3.alloc (.cells #[.map (some w.heap.size), .pointer (some ⟨q3, 0, none⟩)] 128)) c M F' ∧ Below w.heap.size w (w3.alloc (.cells #[.map (some w.heap.size), .pointer (some ⟨q3, 0, none⟩)] 128)) ∧ ∀ k ∈ F', w.heap.size ≤ k := by
  have hl3 := h2.lt
  refine ⟨w3.heap.size, w3.heap.size :: w.heap.size :: F3, rfl, ⟨w.heap.size, q3, F3, heap_alloc_new w3 _, h2.alloc _, h3.below ((Below.refl _ _).alloc (Nat.le_refl _) _), rfl, by omega, fun e => Nat.lt_irrefl _ (h3.lt _ e), fun e => by have := hF _ e; omega⟩, HB3.alloc HB3.size _, fun k hk => ?_⟩
  simp only [List.mem_cons] at hk
  rcases hk with rfl | rfl | hk
  · exact HB3.size
  · exact Nat.le_refl _
  · exact Nat.le_trans HB2.size (hF _ hk)

set_option maxHeartbeats 2000000 in
theorem table_Copy (F : List Nat) (h : Tbl w t M F) :
    Calls Try.prog 40 #[.pointer (some ⟨t, 0, none⟩)] w fun e w' => ∃ c F', e = .returned (.pointer (some ⟨c, 0, none⟩)) ∧ Tbl w' c M F' ∧ Below w.heap.size w w' ∧ ∀ k ∈ F', w.heap.size ≤ k := by
  obtain ⟨bm, q, hS0⟩ := h.ts
  have hcl : ∀ W', Below w.heap.size w W' → W'.cell? ⟨t, 0, none⟩ = some (.map (some bm)) ∧ W'.cell? ⟨t, 1, none⟩ = some (.pointer (some ⟨q, 0, none⟩)) := fun W' hb => ⟨(hS0.below hb).hd0, (hS0.below hb).hd1⟩
  obtain ⟨Fq, hTq⟩ := hS0.tree
  have HTQ := Lib.hid hTq
  have HS := Lib.hid hS0
  have HCL := Lib.hid hcl
  clear hS0 h hcl hTq
  go_enter Try.func40, Try.ntmps40
  go_wp2_with fail
  go_region_held3 (fun W' => W'.cell? ⟨t, 0, none⟩ = some (.map (some bm)) ∧ W'.cell? ⟨t, 1, none⟩ = some (.pointer (some ⟨q, 0, none⟩))) (exact HCL.out _ (by (repeat (first | exact Below.refl _ _ | assumption | refine Below.alloc ?_ (by first | omega | (simp; done) | (simp; omega)) _ | refine Below.setCell ?_ (by first | omega | (simp; done) | (simp; omega)) _ | refine Below.drew ?_ | refine Below.draws ?_ _ | refine Below.via (by assumption) (by first | omega | (simp; done) | (simp; omega)) ?_))))
    (first
      | (go_at_call 86; refine Calls.mono (map_Clone _ _ _ (HS.out.below (by (repeat (first | exact Below.refl _ _ | assumption | refine Below.alloc ?_ (by first | omega | (simp; done) | (simp; omega)) _ | refine Below.setCell ?_ (by first | omega | (simp; done) | (simp; omega)) _ | refine Below.drew ?_ | refine Below.draws ?_ _ | refine Below.via (by assumption) (by first | omega | (simp; done) | (simp; omega)) ?_)))).im) ?_; rintro e w2 ⟨rfl, him2, hb2⟩; have HB2 : Below w.heap.size w w2 := hb2.via (by simp) (by (repeat (first | exact Below.refl _ _ | assumption | refine Below.alloc ?_ (by first | omega | (simp; done) | (simp; omega)) _ | refine Below.setCell ?_ (by first | omega | (simp; done) | (simp; omega)) _ | refine Below.drew ?_ | refine Below.draws ?_ _ | refine Below.via (by assumption) (by first | omega | (simp; done) | (simp; omega)) ?_))); have HIM2 := Lib.hid him2; clear him2 hb2)
      | (go_at_call 19; refine Calls.mono (quad_Copy w2 q _ Fq (HTQ.out.below HB2)) ?_; rintro e w3 ⟨q3, F3, rfl, hT3, hb3, hF3⟩; have HB3 : Below w.heap.size w w3 := hb3.via HB2.size HB2; have hs3 := HB3.size; have HIM3 := Lib.hid (HIM2.out.below hb3); have HT3 := Lib.hid hT3; have HF3 : Hid (∀ k ∈ F3, w2.heap.size ≤ k) := Lib.hid hF3; clear hb3 hT3 hF3))
  all_goals
    go_wp2_with fail
    go_ret
    exact copy_done HB2 HIM3.out HT3.out HF3.out HB3 HIM2.out.lt

/-- t and another table c, apart from each other and from X. -/
def Pair (B : Nat) (X : Nat → Prop) (w0 w : World) (t c : Nat) (M Mc : Ths) : Prop :=
  ∃ F2, Tbl w c Mc F2 ∧ (∀ k ∈ F2, B ≤ k ∧ ¬ X k) ∧ TL t M B (fun k => X k ∨ k ∈ F2) w0 w
theorem Pair.to (h : Pair B X w0 w t c M Mc) : Below B w0 w := by obtain ⟨_, _, _, h⟩ := h; exact h.to
theorem Pair.left (h : Pair B X w0 w t c M Mc) : TL t M B X w0 w := by obtain ⟨_, _, _, h⟩ := h; exact h.less fun _ h => .inl h
theorem Pair.below (h : Pair B X w0 w t c M Mc) (hb : Below w.heap.size w w') : Pair B X w0 w' t c M Mc := by
  obtain ⟨F2, h1, h2, h3⟩ := h
  exact ⟨F2, h1.below hb, h2, h3.below (tblF t M) hb⟩
theorem Pair.step {M' : Ths} {F2 : List Nat} (h1 : Tbl w c Mc F2) (h2 : ∀ k ∈ F2, B ≤ k ∧ ¬ X k) (h : TL t M' B (fun k => X k ∨ k ∈ F2) w0 w' ∧ Keeps B (fun k => X k ∨ k ∈ F2) w w') : Pair B X w0 w' t c M' Mc ∧ Keeps B X w w' :=
  ⟨⟨F2, h1.frame fun k hk => h.2.block k (h1.lt k hk) fun e => e.2 (.inr hk), h2, h.1⟩, h.2.of_less fun k hk => .inl hk⟩
theorem tl_Copy (h : TL t M B X w0 w) :
    Calls Try.prog 40 #[.pointer (some ⟨t, 0, none⟩)] w fun e w' => ∃ c, e = .returned (.pointer (some ⟨c, 0, none⟩)) ∧ Pair B X w0 w' t c M M ∧ Below w.heap.size w w' := by
  obtain ⟨F, g⟩ := h.the
  refine (table_Copy F g).mono ?_
  rintro e w' ⟨c, F', he, h1, h2, h3⟩
  have hX := h.klt
  refine ⟨c, he, ⟨F', h1, fun k hk => ⟨Nat.le_trans h.size (h3 k hk), fun hx => ?_⟩, h.more (tblF t M) h2 fun k hk => hk.imp id (fun e => ⟨h3 k e, h1.lt k e⟩)⟩, h2⟩
  have := hX k hx; have := h3 k hk; omega
/-- A copy goes on in t's place. -/
theorem pair_Copy (h : Pair B X w0 w t c M Mc) :
    Calls Try.prog 40 #[.pointer (some ⟨t, 0, none⟩)] w fun e w' => ∃ t', e = .returned (.pointer (some ⟨t', 0, none⟩)) ∧ Pair B X w0 w' t' c M Mc ∧ Below w.heap.size w w' := by
  obtain ⟨F2, h1, h2, h3⟩ := h
  obtain ⟨F, g⟩ := h3.the
  refine (table_Copy F g).mono ?_
  rintro e w' ⟨t', F', he, g1, g2, g3⟩
  exact ⟨t', he, ⟨F2, h1.below g2, h2, Apart.new h3.to h3.size h3.klt g1 g3 g2⟩, g2⟩
theorem pair_Put (h : Pair B X w0 w t c M Mc) (x : Thg) (hid : (Lit.int .i64 x.id).wf = true) (hx : okT x) :
    Calls Try.prog 42 #[.pointer (some ⟨t, 0, none⟩), x.val] w fun e w' => e = .returned (.int .i64 (tputC M x)) ∧ Pair B X w0 w' t c (tputT M x) Mc ∧ Keeps B X w w' := by
  obtain ⟨F2, h1, h2, h3⟩ := h
  exact (tl_Put h3 x hid hx).mono fun e w' ⟨he, g⟩ => ⟨he, Pair.step h1 h2 g⟩
theorem pair_Set (h : Pair B X w0 w t c M Mc) (x : Thg) (hid : (Lit.int .i64 x.id).wf = true) (hx : okT x) (hlM : M.length ≤ 399) :
    Calls Try.prog 45 #[.pointer (some ⟨t, 0, none⟩), x.val] w fun e w' => e = .returned (.int .i64 (tsetC M x)) ∧ Pair B X w0 w' t c (tsetT M x) Mc ∧ Keeps B X w w' := by
  obtain ⟨F2, h1, h2, h3⟩ := h
  exact (tl_Set h3 x hid hx hlM).mono fun e w' ⟨he, g⟩ => ⟨he, Pair.step h1 h2 g⟩
theorem pair_Drop (h : Pair B X w0 w t c M Mc) {id : Int} (hid : (Lit.int .i64 id).wf = true) :
    Calls Try.prog 46 #[.pointer (some ⟨t, 0, none⟩), .int .i64 id] w fun e w' => e = .returned (.int .i64 (tdropC M id)) ∧ Pair B X w0 w' t c (delT id M) Mc ∧ Keeps B X w w' := by
  obtain ⟨F2, h1, h2, h3⟩ := h
  exact (tl_Drop h3 hid).mono fun e w' ⟨he, g⟩ => ⟨he, Pair.step h1 h2 g⟩
/-- The copy is put into: t doesn't see it. -/
theorem pair_cPut (h : Pair B X w0 w t c M Mc) (x : Thg) (hid : (Lit.int .i64 x.id).wf = true) (hx : okT x) :
    Calls Try.prog 42 #[.pointer (some ⟨c, 0, none⟩), x.val] w fun e w' => e = .returned (.int .i64 (tputC Mc x)) ∧ TL t M B X w0 w' ∧ Keeps B X w w' := by
  obtain ⟨F2, h1, h2, h3⟩ := h
  refine (table_Put w c Mc F2 x h1 hid hx).mono ?_
  rintro e w' ⟨he, F', g1, g2, g3⟩
  exact ⟨he, (h3.keep (tblF t M) g3 fun k hk => ⟨.inr hk, (h2 k hk).1⟩).less fun k hk => .inl hk, g3.mono fun k _ hk => h2 k hk⟩
end
end Go.Proofs.Ytggeehmcjndlgaa
