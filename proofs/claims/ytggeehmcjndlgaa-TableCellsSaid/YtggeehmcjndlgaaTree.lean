/-
  quad.Tree: what its methods do to the list of its numbers and points.
-/
import Derived.Test.YtggeehmcjndlgaaPts
namespace Go.Proofs.Ytggeehmcjndlgaa
open Go Go.RowKit Go.Sort Go.Shelf

/-- The map has L; the squares, those of M. -/
structure TreeOk (w : World) (t bm : Nat) (L M : Pts) (S : Sq) : Prop where
  hb : w.heap[t]? = some (.cells #[.map (some bm), S.c0, S.c1, S.c2] 109 (0, 0))
  im : IMap w bm (entP L)
  hh : S.Holds w
  ok : S.Ok
  nd : S.blocks.Nodup
  tn : t ∉ S.blocks
  bn : bm ∉ S.blocks
  bt : bm ≠ t
  can : Can L S.pt 4 whole
  pm : S.ids.Perm (M.map (·.1))
  sub : ∀ e ∈ M, e ∈ L
  srt : Srt L
  wf : ∀ e ∈ L, (Lit.int .i64 e.1).wf = true
  len : L.length ≤ 400
  lem : M.length ≤ 400

/-- Block t is a tree that has L; F: its blocks. -/
def Tree (w : World) (t : Nat) (L : Pts) (F : List Nat) : Prop := ∃ bm S, TreeOk w t bm L L S ∧ F = t :: bm :: S.blocks
/-- What a step that changes only the tree leaves. -/
def TreeTo (w : World) (t : Nat) (F : List Nat) (L' : Pts) (w' : World) : Prop := ∃ F', Tree w' t L' F' ∧ (∀ k ∈ F', k ∈ F ∨ w.heap.size ≤ k) ∧ Chg (· ∈ F) w w'

theorem Tree.frame {w w' : World} {t : Nat} {L : Pts} {F : List Nat} (h : Tree w t L F) (hk : ∀ k ∈ F, w'.heap[k]? = w.heap[k]?) : Tree w' t L F := by
  obtain ⟨bm, S, h, rfl⟩ := h
  refine ⟨bm, S, { h with hb := (hk t (by simp)).trans h.hb, im := h.im.of_heap (hk bm (by simp)), hh := h.hh.frame fun k hk' => hk k (by simp [hk']) }, rfl⟩
theorem Tree.lt {w : World} {t : Nat} {L : Pts} {F : List Nat} (h : Tree w t L F) : ∀ k ∈ F, k < w.heap.size := by
  obtain ⟨bm, S, h, rfl⟩ := h
  intro k hk
  simp only [List.mem_cons] at hk
  rcases hk with rfl | rfl | hk
  · exact lt_of_block h.hb
  · exact h.im.lt
  · exact h.hh.lt k hk
theorem Tree.below {w w' : World} {t : Nat} {L : Pts} {F : List Nat} (h : Tree w t L F) (hb : Below w.heap.size w w') : Tree w' t L F := h.frame fun k hk => hb.block k (h.lt k hk)
theorem Tree.chg {Q : Nat → Prop} {w w' : World} {t : Nat} {L : Pts} {F : List Nat} (h : Tree w t L F) (hc : Chg Q w w') (hn : ∀ k ∈ F, ¬ Q k) : Tree w' t L F := h.frame fun k hk => hc.block k (h.lt k hk) (hn k hk)
theorem Tree.srt {w : World} {t : Nat} {L : Pts} {F : List Nat} (h : Tree w t L F) : Srt L := by obtain ⟨bm, S, h, rfl⟩ := h; exact h.srt
theorem Tree.len {w : World} {t : Nat} {L : Pts} {F : List Nat} (h : Tree w t L F) : L.length ≤ 400 := by obtain ⟨bm, S, h, rfl⟩ := h; exact h.len
theorem Tree.memt {w : World} {t : Nat} {L : Pts} {F : List Nat} (h : Tree w t L F) : t ∈ F := by obtain ⟨bm, S, h, rfl⟩ := h; simp

theorem TreeTo.of_below {w w' : World} {t : Nat} {L : Pts} {F : List Nat} (h : Tree w t L F) (hb : Below w.heap.size w w') : TreeTo w t F L w' := ⟨F, h.below hb, fun _ h => .inl h, Chg.of_below hb _⟩
theorem TreeTo.trans {w w' w2 : World} {t : Nat} {L' : Pts} {F : List Nat} {G : Nat → Prop} {F' : List Nat} (hc : Chg G w w') (hG : ∀ k, G k → k ∈ F) (hF : ∀ k ∈ F', k ∈ F ∨ w.heap.size ≤ k) (h : TreeTo w' t F' L' w2) : TreeTo w t F L' w2 := by
  obtain ⟨F2, h1, h2, h3⟩ := h
  refine ⟨F2, h1, fun k hk => ?_, (hc.mono (T := (· ∈ F)) fun k _ h => hG k h).andThen h3 fun k hk h => (hF k h).elim (fun h => h) (fun h => by omega)⟩
  rcases h2 k hk with h | h
  · exact hF k h
  · exact .inr (Nat.le_trans hc.size h)

theorem tree_in_block {bm : Nat} {S : Sq} : SqIn #[.map (some bm), S.c0, S.c1, S.c2] 1 S := ⟨rfl, rfl, rfl⟩
theorem set3_tree (bm : Nat) (S S' : Sq) : set3 #[.map (some bm), S.c0, S.c1, S.c2] 1 S' = #[.map (some bm), S'.c0, S'.c1, S'.c2] := rfl

theorem TreeOk.ctx {w : World} {t bm : Nat} {L M : Pts} {S : Sq} (h : TreeOk w t bm L M S) : TCtx w t bm L := ⟨cellAt h.hb rfl, h.im⟩
theorem TreeOk.lens {w : World} {t bm : Nat} {L M : Pts} {S : Sq} (h : TreeOk w t bm L M S) : S.ids.length = M.length := by have := h.pm.length_eq; simpa using this
theorem TreeOk.wfs {w : World} {t bm : Nat} {L M : Pts} {S : Sq} (h : TreeOk w t bm L M S) : ∀ x ∈ S.ids, (Lit.int .i64 x).wf = true := fun x hx => by
  obtain ⟨e, he, rfl⟩ := List.mem_map.1 (h.pm.mem_iff.1 hx)
  exact h.wf e (h.sub e he)

theorem on_whole (x y : Int) : inB whole x y = onB x y := rfl

/-- The tree behind 'add'. -/
theorem tree_add {w wB w' : World} {t bm : Nat} {L : Pts} {S : Sq} {id : Int} {p : Int × Int} (h : TreeOk w t bm L (delP id L) S) (hid : (Lit.int .i64 id).wf = true) (hon : onB p.1 p.2 = true) (hlen : (delP id L).length < 400)
    (hB : Chg (· = bm) w wB) (him : IMap wB bm (entP (putP id p L)))
    (hres : AddRes (fun _ => False) wB t 1 #[.map (some bm), S.c0, S.c1, S.c2] 109 (putP id p L) 4 S whole id w') : TreeTo w t (t :: bm :: S.blocks) (putP id p L) w' := by
  obtain ⟨S', g1, g2, g3, g4, g5, g6, g7⟩ := hres
  have hsz := hB.size
  have htl := lt_of_block h.hb
  have hml := h.im.lt
  have hsl := h.hh.lt
  have hput : (putP id p L).length ≤ 400 := by
    have := (ins_perm (id, p) (delP id L)).length_eq
    unfold putP
    rw [this, List.length_cons]
    omega
  have hperm : S'.ids.Perm (id :: S.ids) := by
    have := (addPT_spec (putP id p L) 4 whole id S.pt h.can.dep).1
    rw [← g4, Sq.pt_ids, Sq.pt_ids] at this
    exact this
  refine ⟨t :: bm :: S'.blocks, ⟨bm, S', ⟨g1, him.chg g7 ?_, g2, g3, g5, fun hm => ?_, fun hm => ?_, h.bt, ?_, ?_, fun _ h => h, h.srt.put _ _, fun e he => ?_, hput, hput⟩, rfl⟩, fun k hk => ?_, ?_⟩
  · rintro (e | e | e)
    · exact h.bt e
    · exact h.bn e
    · exact e
  · rcases g6 _ hm with e | e
    · exact h.tn e
    · omega
  · rcases g6 _ hm with e | e
    · exact h.bn e
    · omega
  · rw [g4]
    refine add_can _ 4 whole id S.pt (h.can.congr fun x hx => ?_) whole_pw ?_
    · rw [Sq.pt_ids] at hx
      have hx' := h.pm.mem_iff.1 hx
      rw [del_ids] at hx'
      obtain ⟨h1, h2⟩ := List.mem_filter.1 hx'
      exact at_put_other h.srt p h1 (by simpa using h2)
    · unfold ptIn
      rw [at_put h.srt, on_whole]
      exact hon
  · refine hperm.trans ?_
    refine List.Perm.trans ?_ (put_ids id p L).symm
    rw [← del_ids]
    exact h.pm.cons id
  · rcases mem_put.1 he with rfl | ⟨he, _⟩
    · exact hid
    · exact h.wf e he
  · simp only [List.mem_cons] at hk ⊢
    rcases hk with rfl | rfl | hk
    · simp
    · simp
    · rcases g6 k hk with e | e
      · simp [e]
      · exact .inr (by omega)
  · refine (hB.mono (T := (· ∈ t :: bm :: S.blocks)) fun k _ e => by simp [e]).andThen g7 fun k _ e => ?_
    rcases e with e | e | e
    · simp [e]
    · simp [e]
    · exact e.elim

theorem tree_add_pre {w wB : World} {t bm : Nat} {L : Pts} {S : Sq} {id : Int} {p : Int × Int} (h : TreeOk w t bm L (delP id L) S) (hid : (Lit.int .i64 id).wf = true) (hlen : (delP id L).length < 400)
    (hB : Chg (· = bm) w wB) (him : IMap wB bm (entP (putP id p L))) : AddPre wB t bm t 1 #[.map (some bm), S.c0, S.c1, S.c2] 109 (putP id p L) 4 S whole id := by
  have hb := hB.heap h.hb (fun e => h.bt e.symm)
  exact { ctx := ⟨cellAt hb rfl, him⟩, hb := hb, hin := tree_in_block, hh := h.hh.frame fun k hk => hB.block k (h.hh.lt k hk) (fun e => h.bn (e ▸ hk)), ok := h.ok, sq := whole_sq, wf := h.wfs, idwf := hid, len := by rw [h.lens]; omega, dep := by rw [← Sq.pt_dep]; exact h.can.dep, nd := h.nd, bsn := h.tn, btn := h.tn, bmn := h.bn, bmbs := h.bt, os1 := fun _ => Nat.le_refl _ }

set_option maxHeartbeats 2000000 in
set_option maxRecDepth 100000 in
/-- Lay: one that is in no square, on the map. -/
theorem quad_Lay_mid (w : World) (t bm : Nat) (L : Pts) (S : Sq) (id : Int) (p : Int × Int) (h : TreeOk w t bm L (delP id L) S) (hid : (Lit.int .i64 id).wf = true) (hon : onB p.1 p.2 = true) (hlen : (delP id L).length < 400) :
    Calls Try.prog 73 #[.pointer (some ⟨t, 0, none⟩), .int .i64 id, encP p] w fun e w' => e = .returned (.tuple #[]) ∧ TreeTo w t (t :: bm :: S.blocks) (putP id p L) w' := by
  simp only [encP]
  obtain ⟨W, hWd⟩ : ∃ W, W = w.alloc (.cells #[.int .i64 p.1, .int .i64 p.2] 31) := ⟨_, rfl⟩
  have hW : Below w.heap.size w W := by rw [hWd]; exact (Below.refl _ w).alloc (Nat.le_refl _) _
  have hbox : W.heap[w.heap.size]? = some (.cells #[.int .i64 p.1, .int .i64 p.2] 31 (0, 0)) := by rw [hWd]; exact heap_alloc_new _ _
  have hctxW := h.ctx.below hW
  have qt := cell_regrown hctxW.tm
  have q0 := cell_regrown (cellAt hbox (o := 0) rfl)
  have q1 := cell_regrown (cellAt hbox (o := 1) rfl)
  go_enter Try.func73, Try.ntmps73
  go_wp2_with fail
  rw [← hWd]
  have HW := Lib.hid hWd
  clear hWd
  (refine wp_region_below_tail 6 (by kernel_rfl) (by kernel_rfl) ?_; simp only [List.take_succ_cons, List.take_zero, List.drop_succ_cons, List.drop_zero]; (repeat (go_big_quiet_step (fail))); refine wpQuiet_nil ?_; intro wqA hwq; have hbqA := below_of_class hwq; clear hwq)
  clear qt q0 q1
  have hA : Below w.heap.size w wqA := ((Chg.of_below hW (fun _ => False)).andThen (Chg.of_below hbqA (fun _ => False)) (fun _ _ h => h)).below (Nat.le_refl _) (fun _ _ h => h)
  have himA := hctxW.im.below hbqA
  have hlm : (entP L).length < maxLen := by rw [entP_len]; have := h.len; unfold maxLen; omega
  go_wp2_with (at_mapUpdate; refine wpl_store _ rfl _ _ _ _ rfl 31 Try.underlying104 bm _ id rfl rfl (encP p) rfl himA hlm hid ?_; intro w2 him2 ht2)
  have hw := regrown_call (w := w2) quad_whole
  go_wp2_with fail
  simp only [Act.put]
  (refine wp_region_below_tail 6 (by kernel_rfl) (by kernel_rfl) ?_; simp only [List.take_succ_cons, List.take_zero, List.drop_succ_cons, List.drop_zero]; (repeat (go_big_quiet_step (exact hw _ _))); refine wpQuiet_nil ?_; intro wqB hwq; have hbqB := below_of_class hwq; clear hwq)
  have hc2 : Chg (· = bm) w wqB := ((Chg.of_below hA _).andThen (turned_chg ht2) (fun _ _ h => h)).andThen (Chg.of_below hbqB _) (fun _ _ h => h)
  have him3 : IMap wqB bm (entP (putP id p L)) := by rw [entP_put]; exact him2.below hbqB
  have hcall := sq_add_all 4 _ _ _ _ _ _ _ _ _ _ _ (tree_add_pre h hid hlen hc2 him3) (Nat.le_refl _)
  have HC := Lib.hid hcall
  clear hcall hw
  go_wp2_with fail
  refine Calls.mono HC.out ?_
  rintro e w5 ⟨rfl, hres⟩
  have hfin := tree_add h hid hon hlen hc2 him3 hres
  clear HC
  go_wp2_with fail
  go_end0
  exact ⟨rfl, hfin⟩

/-- Lay: one that isn't there. -/
theorem quad_Lay (w : World) (t : Nat) (L : Pts) (F : List Nat) (id : Int) (p : Int × Int) (h : Tree w t L F) (hid : (Lit.int .i64 id).wf = true) (hno : hasP L id = false) (hon : onB p.1 p.2 = true) (hlen : L.length < 400) :
    Calls Try.prog 73 #[.pointer (some ⟨t, 0, none⟩), .int .i64 id, encP p] w fun e w' => e = .returned (.tuple #[]) ∧ TreeTo w t F (putP id p L) w' := by
  obtain ⟨bm, S, h, rfl⟩ := h
  have hd := del_none hno
  exact quad_Lay_mid w t bm L S id p (by rw [hd]; exact h) hid hon (by rw [hd]; exact hlen)

/-- The squares behind 'remove'. -/
theorem tree_rem {w wB w' : World} {t bm : Nat} {L : Pts} {S : Sq} {id : Int} (h : TreeOk w t bm L L S) (hB : Below w.heap.size w wB)
    (hres : ∃ S' : Sq, w'.heap[t]? = some (.cells (set3 #[.map (some bm), S.c0, S.c1, S.c2] 1 S') 109 (0, 0)) ∧ S'.Holds w' ∧ S'.Ok ∧ S'.pt = remPT L S.pt whole id ∧ S'.blocks.Nodup ∧
        (∀ k ∈ S'.blocks, k ∈ S.blocks ∨ wB.heap.size ≤ k) ∧ Chg (fun k => k = t ∨ k ∈ S.blocks) wB w') (hm : hasP L id = true) :
    ∃ S', TreeOk w' t bm L (delP id L) S' ∧ (∀ k ∈ S'.blocks, k ∈ S.blocks ∨ w.heap.size ≤ k) ∧ Chg (fun k => k = t ∨ k ∈ S.blocks) w w' := by
  obtain ⟨S', g1, g2, g3, g4, g5, g6, g7⟩ := hres
  have hsz := hB.size
  have htl := lt_of_block h.hb
  have hml := h.im.lt
  obtain ⟨r1, r2, r3⟩ := rem_can L S.pt 4 whole id h.can whole_pw (by rw [Sq.pt_ids]; exact h.pm.mem_iff.2 (hasP_mem.1 hm))
  rw [← g4] at r2 r3
  rw [Sq.pt_ids, Sq.pt_ids] at r3
  have hc := (Chg.of_below hB (fun k => k = t ∨ k ∈ S.blocks)).andThen g7 (fun _ _ h => h)
  refine ⟨S', ⟨g1, h.im.chg hc (fun e => e.elim (fun e => h.bt e) h.bn), g2, g3, g5, fun hm => ?_, fun hm => ?_, h.bt, r2, ?_, fun e he => (mem_del.1 he).1, h.srt, h.wf, h.len, Nat.le_trans (List.length_filter_le _ _) h.len⟩, fun k hk => (g6 k hk).imp (fun h => h) (fun h => by omega), hc⟩
  · rcases g6 _ hm with e | e
    · exact h.tn e
    · omega
  · rcases g6 _ hm with e | e
    · exact h.bn e
    · omega
  · rw [del_ids]
    exact r3.trans (h.pm.filter _)
end Go.Proofs.Ytggeehmcjndlgaa
