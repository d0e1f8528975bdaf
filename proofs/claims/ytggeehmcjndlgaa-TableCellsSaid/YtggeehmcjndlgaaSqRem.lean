/-
  quad's 'remove': one is taken out of a square.
-/
import Derived.Test.YtggeehmcjndlgaaSqIn
import Derived.Test.YtggeehmcjndlgaaRowPut
import Derived.Test.YtggeehmcjndlgaaPt
namespace Go.Proofs.Ytggeehmcjndlgaa
open Go Go.RowKit Go.Sort Go.Shelf

/-- What 'remove' does at the square S, wherever it lies. -/
def RemSpec (S : Sq) : Prop := ∀ (w : World) (bt bm bs os : Nat) (cs : Array Value) (T : TypeId) (L : Pts) (r : R4) (id : Int),
    TCtx w bt bm L → w.heap[bs]? = some (.cells cs T (0, 0)) → SqIn cs os S → S.Holds w → S.Ok → r.sq →
    (∀ x ∈ S.ids, (Lit.int .i64 x).wf = true) → S.ids.Nodup → S.ids.length ≤ 1000 → Goes L S.pt r id → S.blocks.Nodup →
    bs ∉ S.blocks → bt ∉ S.blocks → bm ∉ S.blocks → bm ≠ bs → (bs = bt → 1 ≤ os) →
    Calls Try.prog 76 #[.pointer (some ⟨bt, 0, none⟩), .pointer (some ⟨bs, os, none⟩), .agg #[.int .i64 r.x0, .int .i64 r.y0, .int .i64 r.x1, .int .i64 r.y1], .int .i64 id] w fun e w' =>
      e = .returned (.tuple #[]) ∧ ∃ S' : Sq, w'.heap[bs]? = some (.cells (set3 cs os S') T (0, 0)) ∧ S'.Holds w' ∧ S'.Ok ∧ S'.pt = remPT L S.pt r id ∧ S'.blocks.Nodup ∧
        (∀ k ∈ S'.blocks, k ∈ S.blocks ∨ w.heap.size ≤ k) ∧ Chg (fun k => k = bs ∨ k ∈ S.blocks) w w'

theorem set_cell_block {w : World} {b o : Nat} {cs : Array Value} {t : TypeId} {fr : Nat × Nat} (h : w.heap[b]? = some (.cells cs t fr)) (v : Value) : (w.setCell ⟨b, o, none⟩ v).heap[b]? = some (.cells (cs.setIfInBounds o v) t fr) := by
  simp only [World.setCell, Array.getElem?_modify, if_true, h, Option.map_some, Option.isSome_none, Bool.false_eq_true, if_false]

theorem set3_of {cs : Array Value} {os : Nat} {S S' : Sq} (h : SqIn cs os S) (h2 : S'.c2 = S.c2) : (cs.setIfInBounds os S'.c0).setIfInBounds (os + 1) S'.c1 = set3 cs os S' := by
  unfold set3
  rw [h2]
  have := h.c2
  apply Array.ext_getElem?
  intro i
  rw [Array.getElem?_setIfInBounds (i := os + 2)]
  by_cases hi : os + 2 = i
  · subst hi
    have hs : os + 2 < cs.size := (Array.getElem?_eq_some_iff.1 this).1
    have h3 := (Array.getElem?_eq_some_iff.1 this).2
    simp [hs, h3]
  · simp [hi]

/-- The world behind remove's first statements. -/
theorem rem_start {w W : World} {bs os : Nat} {cs : Array Value} {T : TypeId} {r : R4} {id : Int} (hb : w.heap[bs]? = some (.cells cs T (0, 0))) (v : Value)
    (hWd : W = ((w.setCell ⟨bs, os, none⟩ v).alloc (.cells #[.int .i64 r.x0, .int .i64 r.y0, .int .i64 r.x1, .int .i64 r.y1] 33)).alloc (.cells #[.int .i64 id] 3)) :
    Chg (· = bs) w W ∧ w.heap.size + 1 < W.heap.size ∧ W.heap[w.heap.size]? = some (.cells #[.int .i64 r.x0, .int .i64 r.y0, .int .i64 r.x1, .int .i64 r.y1] 33 (0, 0)) ∧
      W.heap[w.heap.size + 1]? = some (.cells #[.int .i64 id] 3 (0, 0)) ∧ W.heap[bs]? = some (.cells (cs.setIfInBounds os v) T (0, 0)) := by
  have hB := lt_of_block hb
  subst hWd
  have e1 := heap_alloc_new (w.setCell ⟨bs, os, none⟩ v) (.cells #[.int .i64 r.x0, .int .i64 r.y0, .int .i64 r.x1, .int .i64 r.y1] 33)
  have e2 := heap_alloc_new ((w.setCell ⟨bs, os, none⟩ v).alloc (.cells #[.int .i64 r.x0, .int .i64 r.y0, .int .i64 r.x1, .int .i64 r.y1] 33)) (.cells #[.int .i64 id] 3)
  simp only [World.size_alloc, World.size_setCell] at e1 e2
  refine ⟨((Chg.setCell (· = bs) _ _ _ (fun _ => rfl)).andThen (Chg.alloc _ _ _) (fun i _ h => h)).andThen (Chg.alloc _ _ _) (fun i _ h => h), by simp, ?_, e2, ?_⟩
  · rw [Below.heap_alloc _ _ _ (by simp)]; exact e1
  · rw [Below.heap_alloc _ _ _ (by simp; omega), Below.heap_alloc _ _ _ (by simpa using hB)]
    exact set_cell_block hb v

set_option maxHeartbeats 2000000 in
set_option maxRecDepth 100000 in
theorem sq_rem_leaf (v : Value) (ids : List Int) : RemSpec (.leaf v ids) := by
  intro w bt bm bs os cs T L r id hctx hb hin hh hok hsq hwf hnd hlen hgo hbn hbs hbt hbm hmb ho
  have hgo' : id ∈ ids := hgo
  have hcnt : (ids.filter fun x => !(x == id)).length + 1 = ids.length := remPT_leaf_len hnd hgo'
  have k0 := cellAt hb hin.c0
  have k1 := cellAt hb hin.c1
  have k2 := cellAt hb hin.c2
  simp only [Sq.c0, Sq.c1, Sq.c2] at k0 k1 k2
  have f0 : w.frozen? ⟨bs, os, none⟩ = false := freeAt hb
  have hB := lt_of_block hb
  simp only [Sq.ids] at hlen
  rcases hh.form with ⟨_, rfl⟩ | ⟨g, cap, rfl, _, hcap, _⟩
  · simp at hgo'
  have e0 : (Value.int .i64 (ids.length - 1)) = (Sq.leaf (.slice (some ⟨g, 0, none⟩) (ids.filter fun x => !(x == id)).length cap) (ids.filter fun x => !(x == id))).c0 := by
    show Value.int .i64 _ = Value.int .i64 _
    congr 1
    omega
  have E0 := Lib.hid e0
  clear e0
  have hgb : g ≠ bs := fun e => hbs (by simp [Sq.blocks, Value.ownBlock, e])
  obtain ⟨W, hWd⟩ : ∃ W, W = ((w.setCell ⟨bs, os, none⟩ (.int .i64 (ids.length - 1))).alloc (.cells #[.int .i64 r.x0, .int .i64 r.y0, .int .i64 r.x1, .int .i64 r.y1] 33)).alloc (.cells #[.int .i64 id] 3) := ⟨_, rfl⟩
  obtain ⟨hW, hBW, _, hbox', hbW⟩ := rem_start (r := r) (id := id) hb (.int .i64 (ids.length - 1)) hWd
  have hbox := cellAt hbox' (o := 0) rfl
  have hrowW : RowOf encI 1 3 W 0 (.slice (some ⟨g, 0, none⟩) ids.length cap) ids := RowOf.chg hh hW (fun b e => by cases e; exact hgb)
  have hgl : g < w.heap.size := (RowOf.lt hh g rfl).2
  have hdel := ints_DeleteFunc W 0 g cap ids id (w.heap.size + 1) hrowW hbox (by omega) (by omega)
  rw [hWd] at hdel
  go_enter Try.func76, Try.ntmps76
  go_wp2_with fail
  refine hdel.mono ?_
  rintro e w2 ⟨rfl, hr2, hc2⟩
  rw [← hWd] at hc2
  have hb2 := hc2.heap hbW (fun e => hgb e.symm)
  have f2 : w2.frozen? ⟨bs, os + 1, none⟩ = false := freeAt hb2
  have k12 : w2.cell? ⟨bs, os + 1, none⟩ = some (.slice (some ⟨g, 0, none⟩) ids.length cap) := cellAt hb2 (by rw [Array.getElem?_setIfInBounds_ne (by omega)]; exact hin.c1)
  clear hdel
  go_wp2_with fail
  refine bodyPost_ret (results_none rfl _ _ _) rfl ?_
  have hcW : Chg (· = bs) w2 (w2.setCell ⟨bs, os + 1, none⟩ (.slice (some ⟨g, 0, none⟩) (ids.filter fun x => !(x == id)).length cap)) := Chg.setCell _ _ _ _ (fun _ => rfl)
  refine ⟨rfl, .leaf (.slice (some ⟨g, 0, none⟩) (ids.filter fun x => !(x == id)).length cap) (ids.filter fun x => !(x == id)), ?_, ?_, trivial, rfl, by simp [Sq.blocks, Value.ownBlock], ?_, ?_⟩
  · have h3 := set_cell_block (o := os + 1) hb2 (.slice (some ⟨g, 0, none⟩) (ids.filter fun x => !(x == id)).length cap)
    rw [E0.out] at h3
    exact h3.trans (by rw [← set3_of (S' := .leaf (.slice (some ⟨g, 0, none⟩) (ids.filter fun x => !(x == id)).length cap) (ids.filter fun x => !(x == id))) hin rfl]; rfl)
  · exact RowOf.chg hr2 hcW (fun b e => by cases e; exact hgb)
  · intro k hk
    simp only [Sq.blocks, Value.ownBlock] at hk ⊢
    exact .inl hk
  · refine ((hW.mono (fun k _ e => .inl e)).andThen hc2 (fun i _ e => .inr ?_)).andThen hcW (fun i _ e => .inl e)
    rw [e]; simp [Sq.blocks, Value.ownBlock]

/-! ### a node with one of its four exchanged -/
def setKid (k : Nat) (X : Sq) (kb n : Nat) (a b c d : Sq) : Sq := .node kb n (if k = 0 then X else a) (if k = 1 then X else b) (if k = 2 then X else c) (if k = 3 then X else d)

theorem set3_cells {k : Nat} (hk : k < 4) (X a b c d : Sq) : set3 (cells12 a b c d) (k * 3) X = cells12 (if k = 0 then X else a) (if k = 1 then X else b) (if k = 2 then X else c) (if k = 3 then X else d) := by
  have : k = 0 ∨ k = 1 ∨ k = 2 ∨ k = 3 := by omega
  rcases this with rfl | rfl | rfl | rfl <;> simp [set3, cells12]

theorem setKid_parts {k : Nat} (hk : k < 4) (X : Sq) (kb n n' : Nat) (a b c d : Sq) : ∃ A B : List Nat, (Sq.node kb n a b c d).blocks = kb :: (A ++ (sel k a b c d).blocks ++ B) ∧ (setKid k X kb n' a b c d).blocks = kb :: (A ++ X.blocks ++ B) ∧
    ∀ {w w' : World}, (Sq.node kb n a b c d).Holds w → (∀ j, j ∈ A ∨ j ∈ B → w'.heap[j]? = w.heap[j]?) → X.Holds w' → w'.heap[kb]? = some (.cells (set3 (cells12 a b c d) (k * 3) X) 166 (0, 0)) → (setKid k X kb n' a b c d).Holds w' := by
  have : k = 0 ∨ k = 1 ∨ k = 2 ∨ k = 3 := by omega
  rcases this with rfl | rfl | rfl | rfl
  · refine ⟨[], b.blocks ++ c.blocks ++ d.blocks, by simp [Sq.blocks, sel], by simp [Sq.blocks, setKid], fun ⟨_, ha, hb, hc, hd⟩ hf hX hkb => ?_⟩
    rw [set3_cells (by omega)] at hkb
    simp only [List.mem_append] at hf
    exact ⟨hkb, by simpa using hX, by simpa using hb.frame fun j h => hf j (.inr (.inl (.inl h))), by simpa using hc.frame fun j h => hf j (.inr (.inl (.inr h))), by simpa using hd.frame fun j h => hf j (.inr (.inr h))⟩
  · refine ⟨a.blocks, c.blocks ++ d.blocks, by simp [Sq.blocks, sel], by simp [Sq.blocks, setKid], fun ⟨_, ha, hb, hc, hd⟩ hf hX hkb => ?_⟩
    rw [set3_cells (by omega)] at hkb
    simp only [List.mem_append] at hf
    exact ⟨hkb, by simpa using ha.frame fun j h => hf j (.inl h), by simpa using hX, by simpa using hc.frame fun j h => hf j (.inr (.inl h)), by simpa using hd.frame fun j h => hf j (.inr (.inr h))⟩
  · refine ⟨a.blocks ++ b.blocks, d.blocks, by simp [Sq.blocks, sel], by simp [Sq.blocks, setKid], fun ⟨_, ha, hb, hc, hd⟩ hf hX hkb => ?_⟩
    rw [set3_cells (by omega)] at hkb
    simp only [List.mem_append] at hf
    exact ⟨hkb, by simpa using ha.frame fun j h => hf j (.inl (.inl h)), by simpa using hb.frame fun j h => hf j (.inl (.inr h)), by simpa using hX, by simpa using hd.frame fun j h => hf j (.inr h)⟩
  · refine ⟨a.blocks ++ b.blocks ++ c.blocks, [], by simp [Sq.blocks, sel], by simp [Sq.blocks, setKid], fun ⟨_, ha, hb, hc, hd⟩ hf hX hkb => ?_⟩
    rw [set3_cells (by omega)] at hkb
    simp only [List.mem_append] at hf
    exact ⟨hkb, by simpa using ha.frame fun j h => hf j (.inl (.inl (.inl h))), by simpa using hb.frame fun j h => hf j (.inl (.inl (.inr h))), by simpa using hc.frame fun j h => hf j (.inl (.inr h)), by simpa using hX⟩

theorem nodup_swap {A K B X : List Nat} {N : Nat} (h : (A ++ K ++ B).Nodup) (hX : X.Nodup) (hs : ∀ x ∈ X, x ∈ K ∨ N ≤ x) (hA : ∀ x ∈ A, x < N) (hB : ∀ x ∈ B, x < N) : (A ++ X ++ B).Nodup := by
  obtain ⟨h1, h2, h3⟩ := List.nodup_append.1 h
  obtain ⟨h4, h5, h6⟩ := List.nodup_append.1 h1
  refine List.nodup_append.2 ⟨List.nodup_append.2 ⟨h4, hX, fun x hx y hy e => ?_⟩, h2, fun x hx y hy e => ?_⟩
  · subst e
    rcases hs x hy with h | h
    · exact h6 x hx x h rfl
    · have := hA x hx; omega
  · subst e
    rcases List.mem_append.1 hx with hx | hx
    · exact h3 x (List.mem_append_left _ hx) x hy rfl
    · rcases hs x hx with h | h
      · exact h3 x (List.mem_append_right _ h) x hy rfl
      · have := hB x hy; omega

/-- One of a node's four was changed by a call. -/
theorem kid_step {w w' : World} {kb n n' k : Nat} {a b c d X : Sq} {B7 : Nat → Prop} (hB7 : ∀ j, B7 j → j ∉ (Sq.node kb n a b c d).blocks) (hk : k < 4) (hh : (Sq.node kb n a b c d).Holds w) (hnd : (Sq.node kb n a b c d).blocks.Nodup) (hX : X.Holds w') (hXn : X.blocks.Nodup)
    (hXs : ∀ j ∈ X.blocks, j ∈ (sel k a b c d).blocks ∨ w.heap.size ≤ j) (hkb : w'.heap[kb]? = some (.cells (set3 (cells12 a b c d) (k * 3) X) 166 (0, 0))) (hc : Chg (fun j => j = kb ∨ j ∈ (sel k a b c d).blocks ∨ B7 j) w w') :
    (setKid k X kb n' a b c d).Holds w' ∧ (setKid k X kb n' a b c d).blocks.Nodup ∧ ∀ j ∈ (setKid k X kb n' a b c d).blocks, j ∈ (Sq.node kb n a b c d).blocks ∨ w.heap.size ≤ j := by
  obtain ⟨A, B, e1, e2, e3⟩ := setKid_parts hk X kb n n' a b c d
  have hlt := hh.lt
  rw [e1] at hnd hlt hB7
  rw [e2]
  obtain ⟨hkn, hnd'⟩ := List.nodup_cons.1 hnd
  obtain ⟨h1, h2, h3⟩ := List.nodup_append.1 hnd'
  obtain ⟨h4, h5, h6⟩ := List.nodup_append.1 h1
  refine ⟨e3 hh (fun j hj => hc.block j (hlt j ?_) ?_) hX hkb, ?_, fun j hj => ?_⟩
  · rcases hj with h | h <;> simp [h]
  · rintro (rfl | h' | h')
    rotate_left 2
    · exact hB7 _ h' (by rcases hj with h | h <;> simp [h])
    · exact hkn (by rcases hj with h | h <;> simp [h])
    · rcases hj with h | h
      · exact h6 j h j h' rfl
      · exact h3 j (List.mem_append_right _ h') j h rfl
  · refine List.nodup_cons.2 ⟨fun hm => ?_, nodup_swap (N := w.heap.size) hnd' hXn hXs (fun x hx => hlt x (by simp [hx])) (fun x hx => hlt x (by simp [hx]))⟩
    simp only [List.mem_append] at hm hkn
    rcases hm with (h | h) | h
    · exact hkn (.inl (.inl h))
    · rcases hXs kb h with h' | h'
      · exact hkn (.inl (.inr h'))
      · have := hlt kb (by simp); omega
    · exact hkn (.inr h)
  · rw [e1]
    simp only [List.mem_cons, List.mem_append] at hj ⊢
    rcases hj with h | (h | h) | h
    · exact .inl (.inl h)
    · exact .inl (.inr (.inl (.inl h)))
    · exact (hXs j h).imp (fun h => .inr (.inl (.inr h))) id
    · exact .inl (.inr (.inr h))
end Go.Proofs.Ytggeehmcjndlgaa
