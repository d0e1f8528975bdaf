/-
  quad.Tree: New, Put, Move, Drop, At, In, Len, Depth.
-/
import Derived.Test.YtggeehmcjndlgaaTree
namespace Go.Proofs.Ytggeehmcjndlgaa
open Go Go.RowKit Go.Sort Go.Shelf

section
variable (w : World) {ops : Array Oper} {rest : List Oper} {o : Oper} {a : Act} {Q : Exit → Act → World → Prop}
theorem wpl_at_ok (hg : o.guard = none) (m x : Operand) (hop : o.op = Op.lookup 104 m x true) (b : Nat) (L : Pts) (k : Int) (hm : a.eval m = .map (some b)) (hx : a.eval x = .int .i64 k) (h : IMap w b (entP L)) (hk : (Lit.int .i64 k).wf = true)
    (hK : wpList Try.prog ops Q rest (a.put o.dst (.tuple #[.agg #[.int .i64 (atP L k).1, .int .i64 (atP L k).2], .bool (hasP L k)])) w) : wpList Try.prog ops Q (o :: rest) a w := by
  refine wpl_look_ok w hg m x _ hop 31 Try.underlying104 (pointZ w) b _ k hm hx h hk ?_
  rw [lookP, entP_has]
  exact hK
theorem wpl_at (hg : o.guard = none) (m x : Operand) (hop : o.op = Op.lookup 104 m x false) (b : Nat) (L : Pts) (k : Int) (hm : a.eval m = .map (some b)) (hx : a.eval x = .int .i64 k) (h : IMap w b (entP L)) (hk : (Lit.int .i64 k).wf = true)
    (hK : wpList Try.prog ops Q rest (a.put o.dst (.agg #[.int .i64 (atP L k).1, .int .i64 (atP L k).2])) w) : wpList Try.prog ops Q (o :: rest) a w := by
  refine wpl_look w hg m x _ hop 31 Try.underlying104 (pointZ w) b _ k hm hx h hk ?_
  rw [lookP]
  exact hK
theorem wpl_lenP (hg : o.guard = none) (m : Operand) (hop : o.op = Op.call { callee := Callee.builtin Builtin.len, args := #[m], argTypes := #[104] })
    (b : Nat) (L : Pts) (hm : a.eval m = .map (some b)) (h : IMap w b (entP L))
    (hK : wpList Try.prog ops Q rest (a.put o.dst (.int .i64 L.length)) w) : wpList Try.prog ops Q (o :: rest) a w := by
  refine wpl_len w hg m _ hop 31 Try.underlying104 b _ hm h ?_
  rw [entP_len]
  exact hK
end

theorem retc {x y : Int} (h : y = x) : Ending.returned (.int .i64 x) = Ending.returned (.int .i64 y) := by rw [h]

set_option maxHeartbeats 1000000 in
theorem quad_New (w : World) : Calls Try.prog 18 #[] w fun e w' => ∃ t F, e = .returned (.pointer (some ⟨t, 0, none⟩)) ∧ Tree w' t [] F ∧ Below w.heap.size w w' ∧ ∀ k ∈ F, w.heap.size ≤ k := by
  have hmm := @run_makeMap Try.prog
  go_enter Try.func18, Try.ntmps18
  go_wp2
  go_ret
  refine ⟨w.heap.size + 1, [w.heap.size + 1, w.heap.size], rfl, ⟨w.heap.size, e0, ⟨?_, ?_, RowOf.nil _ _ _, trivial, by simp [Sq.blocks, e0, Value.ownBlock], by simp [Sq.blocks, e0, Value.ownBlock], by simp [Sq.blocks, e0, Value.ownBlock], by omega, ⟨fun x hx => by simp at hx, .inr (by simp)⟩, List.Perm.refl _, fun _ h => h, List.Pairwise.nil, fun e he => by simp at he, by simp, by simp⟩, ?_⟩, (by (repeat (first | exact Below.refl _ _ | assumption | refine Below.alloc ?_ (by first | omega | (simp; done) | (simp; omega)) _ | refine Below.setCell ?_ (by first | omega | (simp; done) | (simp; omega)) _ | refine Below.drew ?_ | refine Below.draws ?_ _ | refine Below.via (by assumption) (by first | omega | (simp; done) | (simp; omega)) ?_))), ?_⟩
  · have := heap_alloc_new (w.alloc (.map #[] 0)) (.cells #[.map (some w.heap.size), .int .i64 0, .slice none 0 0, .pointer none] 109)
    simpa [e0, Sq.c0, Sq.c1, Sq.c2] using this
  · exact (IMap.made w).alloc _
  · simp [Sq.blocks, e0, Value.ownBlock]
  · intro k hk
    simp at hk
    omega

def putC (L : Pts) (id : Int) (p : Int × Int) : Int := if id < 0 then 11 else if onB p.1 p.2 = false then 14 else if hasP L id = true then 11 else if 200 ≤ L.length then 16 else 0
def putL (L : Pts) (id : Int) (p : Int × Int) : Pts := if putC L id p = 0 then putP id p L else L

set_option maxHeartbeats 2000000 in
set_option maxRecDepth 100000 in
theorem quad_Put (w : World) (t : Nat) (L : Pts) (F : List Nat) (id : Int) (p : Int × Int) (h : Tree w t L F) (hid : (Lit.int .i64 id).wf = true) :
    Calls Try.prog 20 #[.pointer (some ⟨t, 0, none⟩), .int .i64 id, encP p] w fun e w' => e = .returned (.int .i64 (putC L id p)) ∧ TreeTo w t F (putL L id p) w' := by
  obtain ⟨bm, S, h', hF⟩ := h
  have hT : Tree w t L F := ⟨bm, S, h', hF⟩
  have him := h'.im
  have htm : w.cell? ⟨t, 0, none⟩ = some (.map (some bm)) := cellAt h'.hb rfl
  have hlt := lt_of_block h'.hb
  have hlen : L.length ≤ 400 := h'.len
  clear h'
  simp only [encP]
  by_cases hneg : id < 0
  · have hc : putC L id p = 11 := by unfold putC; rw [if_pos hneg]
    have hl : putL L id p = L := by unfold putL; rw [hc]; rfl
    go_enter Try.func20, Try.ntmps20
    go_wp2_with (at_lookup; refine wpl_at_ok _ rfl _ _ rfl bm L id rfl rfl (him.alloc _) hid ?_)
    go_ret
    exact ⟨retc hc, by rw [hl]; exact TreeTo.of_below hT (by (repeat (first | exact Below.refl _ _ | assumption | refine Below.alloc ?_ (by first | omega | (simp; done) | (simp; omega)) _ | refine Below.setCell ?_ (by first | omega | (simp; done) | (simp; omega)) _ | refine Below.drew ?_ | refine Below.draws ?_ _ | refine Below.via (by assumption) (by first | omega | (simp; done) | (simp; omega)) ?_)))⟩
  · have hp : 0 ≤ id := by omega
    cases hon : onB p.1 p.2
    · have hc : putC L id p = 14 := by unfold putC; rw [if_neg hneg, if_pos hon]
      have hl : putL L id p = L := by unfold putL; rw [hc]; rfl
      go_enter Try.func20, Try.ntmps20
      go_wp2_with (first | (at_lookup; refine wpl_at_ok _ rfl _ _ rfl bm L id rfl rfl (him.alloc _) hid ?_) | (refine Calls.mono (geom_On _ _ _) ?_; rw [hon]; rintro e w1 ⟨rfl, hb1⟩))
      go_ret
      exact ⟨retc hc, by rw [hl]; exact TreeTo.of_below hT (by (repeat (first | exact Below.refl _ _ | assumption | refine Below.alloc ?_ (by first | omega | (simp; done) | (simp; omega)) _ | refine Below.setCell ?_ (by first | omega | (simp; done) | (simp; omega)) _ | refine Below.drew ?_ | refine Below.draws ?_ _ | refine Below.via (by assumption) (by first | omega | (simp; done) | (simp; omega)) ?_)))⟩
    · cases hhas : hasP L id
      · by_cases hfull : 200 ≤ L.length
        · have hc : putC L id p = 16 := by unfold putC; rw [if_neg hneg, if_neg (by simp [hon]), if_neg (by simp [hhas]), if_pos hfull]
          have hl : putL L id p = L := by unfold putL; rw [hc]; rfl
          go_enter Try.func20, Try.ntmps20
          go_wp2_with (first | (at_lookup; refine wpl_at_ok _ rfl _ _ rfl bm L id rfl rfl (him.alloc _) hid ?_; rw [hhas]) | (refine Calls.mono (geom_On _ _ _) ?_; rw [hon]; rintro e w1 ⟨rfl, hb1⟩; obtain ⟨hc1, hf1⟩ := bcell hb1; have hW1 : Below w.heap.size w w1 := (by (repeat (first | exact Below.refl _ _ | assumption | refine Below.alloc ?_ (by first | omega | (simp; done) | (simp; omega)) _ | refine Below.setCell ?_ (by first | omega | (simp; done) | (simp; omega)) _ | refine Below.drew ?_ | refine Below.draws ?_ _ | refine Below.via (by assumption) (by first | omega | (simp; done) | (simp; omega)) ?_))); have him1 := him.below hW1; have htm1 := (World.cell?_of_block (w := w) (a := ⟨t, 0, none⟩) (hW1.block _ hlt)).trans htm) | (at_len; refine wpl_lenP _ rfl _ rfl bm L rfl him1 ?_))
          go_ret
          exact ⟨retc hc, by rw [hl]; exact TreeTo.of_below hT (by (repeat (first | exact Below.refl _ _ | assumption | refine Below.alloc ?_ (by first | omega | (simp; done) | (simp; omega)) _ | refine Below.setCell ?_ (by first | omega | (simp; done) | (simp; omega)) _ | refine Below.drew ?_ | refine Below.draws ?_ _ | refine Below.via (by assumption) (by first | omega | (simp; done) | (simp; omega)) ?_)))⟩
        · have hc : putC L id p = 0 := by unfold putC; rw [if_neg hneg, if_neg (by simp [hon]), if_neg (by simp [hhas]), if_neg hfull]
          have hl : putL L id p = putP id p L := by unfold putL; rw [hc]; rfl
          go_enter Try.func20, Try.ntmps20
          go_wp2_with (first | (at_lookup; refine wpl_at_ok _ rfl _ _ rfl bm L id rfl rfl (him.alloc _) hid ?_; rw [hhas]) | (refine Calls.mono (geom_On _ _ _) ?_; rw [hon]; rintro e w1 ⟨rfl, hb1⟩; obtain ⟨hc1, hf1⟩ := bcell hb1; have hW1 : Below w.heap.size w w1 := (by (repeat (first | exact Below.refl _ _ | assumption | refine Below.alloc ?_ (by first | omega | (simp; done) | (simp; omega)) _ | refine Below.setCell ?_ (by first | omega | (simp; done) | (simp; omega)) _ | refine Below.drew ?_ | refine Below.draws ?_ _ | refine Below.via (by assumption) (by first | omega | (simp; done) | (simp; omega)) ?_))); have him1 := him.below hW1; have htm1 := (World.cell?_of_block (w := w) (a := ⟨t, 0, none⟩) (hW1.block _ hlt)).trans htm) | (at_len; refine wpl_lenP _ rfl _ rfl bm L rfl him1 ?_))
          have hcall := quad_Lay w1 t L F id p (hT.below hW1) hid hhas hon (by omega)
          simp only [encP] at hcall
          refine Calls.mono hcall ?_
          rintro e w2 ⟨rfl, h2⟩
          go_wp2_with fail
          go_ret
          refine ⟨retc hc, ?_⟩
          rw [hl]
          exact TreeTo.trans (G := fun _ => False) (Chg.of_below hW1 _) (fun _ h => h.elim) (fun _ h => .inl h) h2
      · have hc : putC L id p = 11 := by unfold putC; rw [if_neg hneg, if_neg (by simp [hon]), if_pos hhas]
        have hl : putL L id p = L := by unfold putL; rw [hc]; rfl
        go_enter Try.func20, Try.ntmps20
        go_wp2_with (first | (at_lookup; refine wpl_at_ok _ rfl _ _ rfl bm L id rfl rfl (him.alloc _) hid ?_; rw [hhas]) | (refine Calls.mono (geom_On _ _ _) ?_; rw [hon]; rintro e w1 ⟨rfl, hb1⟩; obtain ⟨hc1, hf1⟩ := bcell hb1; have hW1 : Below w.heap.size w w1 := (by (repeat (first | exact Below.refl _ _ | assumption | refine Below.alloc ?_ (by first | omega | (simp; done) | (simp; omega)) _ | refine Below.setCell ?_ (by first | omega | (simp; done) | (simp; omega)) _ | refine Below.drew ?_ | refine Below.draws ?_ _ | refine Below.via (by assumption) (by first | omega | (simp; done) | (simp; omega)) ?_))); have him1 := him.below hW1; have htm1 := (World.cell?_of_block (w := w) (a := ⟨t, 0, none⟩) (hW1.block _ hlt)).trans htm) | (at_len; refine wpl_lenP _ rfl _ rfl bm L rfl him1 ?_))
        go_ret
        exact ⟨retc hc, by rw [hl]; exact TreeTo.of_below hT (by (repeat (first | exact Below.refl _ _ | assumption | refine Below.alloc ?_ (by first | omega | (simp; done) | (simp; omega)) _ | refine Below.setCell ?_ (by first | omega | (simp; done) | (simp; omega)) _ | refine Below.drew ?_ | refine Below.draws ?_ _ | refine Below.via (by assumption) (by first | omega | (simp; done) | (simp; omega)) ?_)))⟩

def movC (L : Pts) (id : Int) (p : Int × Int) : Int := if hasP L id = false then 15 else if onB p.1 p.2 = false then 14 else 0
def movL (L : Pts) (id : Int) (p : Int × Int) : Pts := if movC L id p = 0 then putP id p L else L
def drpC (L : Pts) (id : Int) : Int := if hasP L id = false then 15 else 0
def drpL (L : Pts) (id : Int) : Pts := if drpC L id = 0 then delP id L else L

theorem rem_hyps {w : World} {t bm : Nat} {L : Pts} {S : Sq} {id : Int} (h : TreeOk w t bm L L S) (hm : hasP L id = true) {wB : World} (hB : Below w.heap.size w wB) :
    Calls Try.prog 76 #[.pointer (some ⟨t, 0, none⟩), .pointer (some ⟨t, 1, none⟩), .agg #[.int .i64 whole.x0, .int .i64 whole.y0, .int .i64 whole.x1, .int .i64 whole.y1], .int .i64 id] wB fun e w' =>
      e = .returned (.tuple #[]) ∧ ∃ S', TreeOk w' t bm L (delP id L) S' ∧ (∀ k ∈ S'.blocks, k ∈ S.blocks ∨ w.heap.size ≤ k) ∧ Chg (fun k => k = t ∨ k ∈ S.blocks) w w' ∧ Chg (fun k => k = t ∨ k ∈ S.blocks) wB w' := by
  have hr := rem_can L S.pt 4 whole id h.can whole_pw (by rw [Sq.pt_ids]; exact h.pm.mem_iff.2 (hasP_mem.1 hm))
  refine (sq_rem S wB t bm t 1 _ 109 L whole id (h.ctx.below hB) ((hB.block t (lt_of_block h.hb)).trans h.hb) tree_in_block (h.hh.below hB) h.ok whole_sq h.wfs (h.pm.nodup_iff.2 h.srt.nodup) (by rw [h.lens]; have := h.len; omega) hr.1 h.nd h.tn h.tn h.bn h.bt (fun _ => Nat.le_refl _)).mono ?_
  rintro e w' ⟨he, hres⟩
  obtain ⟨S', r1, r2, r3⟩ := tree_rem h hB hres hm
  obtain ⟨_, _, _, _, _, _, _, g7⟩ := hres
  exact ⟨he, S', r1, r2, r3, g7⟩

set_option maxHeartbeats 2000000 in
set_option maxRecDepth 100000 in
theorem quad_Move (w : World) (t : Nat) (L : Pts) (F : List Nat) (id : Int) (p : Int × Int) (h : Tree w t L F) (hid : (Lit.int .i64 id).wf = true) :
    Calls Try.prog 22 #[.pointer (some ⟨t, 0, none⟩), .int .i64 id, encP p] w fun e w' => e = .returned (.int .i64 (movC L id p)) ∧ TreeTo w t F (movL L id p) w' := by
  obtain ⟨bm, S, h', hF⟩ := h
  have hT : Tree w t L F := ⟨bm, S, h', hF⟩
  have him := h'.im
  have htm : w.cell? ⟨t, 0, none⟩ = some (.map (some bm)) := cellAt h'.hb rfl
  have hlt := lt_of_block h'.hb
  have H' := Lib.hid h'
  clear h'
  simp only [encP]
  cases hhas : hasP L id
  · have hc : movC L id p = 15 := by unfold movC; rw [if_pos hhas]
    have hl : movL L id p = L := by unfold movL; rw [hc]; rfl
    go_enter Try.func22, Try.ntmps22
    go_wp2_with (at_lookup; refine wpl_at_ok _ rfl _ _ rfl bm L id rfl rfl (him.alloc _) hid ?_; rw [hhas])
    go_ret
    exact ⟨retc hc, by rw [hl]; exact TreeTo.of_below hT (by (repeat (first | exact Below.refl _ _ | assumption | refine Below.alloc ?_ (by first | omega | (simp; done) | (simp; omega)) _ | refine Below.setCell ?_ (by first | omega | (simp; done) | (simp; omega)) _ | refine Below.drew ?_ | refine Below.draws ?_ _ | refine Below.via (by assumption) (by first | omega | (simp; done) | (simp; omega)) ?_)))⟩
  · cases hon : onB p.1 p.2
    · have hc : movC L id p = 14 := by unfold movC; rw [if_neg (by simp [hhas]), if_pos hon]
      have hl : movL L id p = L := by unfold movL; rw [hc]; rfl
      go_enter Try.func22, Try.ntmps22
      go_wp2_with (first | (at_lookup; refine wpl_at_ok _ rfl _ _ rfl bm L id rfl rfl (him.alloc _) hid ?_; rw [hhas]) | (refine Calls.mono (geom_On _ _ _) ?_; rw [hon]; rintro e w1 ⟨rfl, hb1⟩))
      go_ret
      exact ⟨retc hc, by rw [hl]; exact TreeTo.of_below hT (by (repeat (first | exact Below.refl _ _ | assumption | refine Below.alloc ?_ (by first | omega | (simp; done) | (simp; omega)) _ | refine Below.setCell ?_ (by first | omega | (simp; done) | (simp; omega)) _ | refine Below.drew ?_ | refine Below.draws ?_ _ | refine Below.via (by assumption) (by first | omega | (simp; done) | (simp; omega)) ?_)))⟩
    · have hc : movC L id p = 0 := by unfold movC; rw [if_neg (by simp [hhas]), if_neg (by simp [hon])]
      have hl : movL L id p = putP id p L := by unfold movL; rw [hc]; rfl
      go_enter Try.func22, Try.ntmps22
      go_wp2_with (first | (at_lookup; refine wpl_at_ok _ rfl _ _ rfl bm L id rfl rfl (him.alloc _) hid ?_; rw [hhas]) | (refine Calls.mono (geom_On _ _ _) ?_; rw [hon]; rintro e w1 ⟨rfl, hb1⟩; obtain ⟨hc1, hf1⟩ := bcell hb1; have hW1 : Below w.heap.size w w1 := (by (repeat (first | exact Below.refl _ _ | assumption | refine Below.alloc ?_ (by first | omega | (simp; done) | (simp; omega)) _ | refine Below.setCell ?_ (by first | omega | (simp; done) | (simp; omega)) _ | refine Below.drew ?_ | refine Below.draws ?_ _ | refine Below.via (by assumption) (by first | omega | (simp; done) | (simp; omega)) ?_)))))
      have hbx : w1.heap[w.heap.size]? = some (.cells #[.int .i64 p.1, .int .i64 p.2] 31 (0, 0)) := by
        rw [hb1.block _ (by simp; omega), Below.heap_alloc _ _ _ (by simp)]
        exact heap_alloc_new w _
      have hw := regrown_call (w := w1) quad_whole
      (refine wp_region_below_tail 6 (by kernel_rfl) (by kernel_rfl) ?_; simp only [List.take_succ_cons, List.take_zero, List.drop_succ_cons, List.drop_zero]; (repeat (go_big_quiet_step (exact hw _ _))); refine wpQuiet_nil ?_; intro wqB hwq; have hbqB := below_of_class hwq; clear hwq)
      have hB : Below w.heap.size w wqB := ((Chg.of_below hW1 (fun _ => False)).andThen (Chg.of_below hbqB (fun _ => False)) (fun _ _ h => h)).below (Nat.le_refl _) (fun _ _ h => h)
      have hcall := rem_hyps H'.out hhas hB
      have HC := Lib.hid hcall
      clear hcall hw
      go_wp2_with fail
      refine Calls.mono HC.out ?_
      rintro e w5 ⟨rfl, S', hT', hk', hc', hcB⟩
      have hbx5 := hcB.heap ((hbqB.block _ (lt_of_block hbx)).trans hbx) (fun e => by
        rcases e with e | e
        · omega
        · exact absurd (H'.out.hh.lt _ e) (by omega))
      have x0 := cellAt hbx5 (o := 0) rfl
      have x1 := cellAt hbx5 (o := 1) rfl
      go_wp2_with fail
      have hlen : (delP id L).length < 400 := by
        have h1 := H'.out.len
        have h2 := del_ids id L
        have h3 : (delP id L).length ≤ L.length := List.length_filter_le _ _
        rcases Nat.lt_or_ge (delP id L).length 400 with h | h
        · exact h
        · exfalso
          have h4 : (delP id L).length = L.length := by omega
          obtain ⟨q, hq⟩ := hasP_iff.1 hhas
          have h5 := List.length_filter_eq_length_iff.1 h4 _ hq
          simp at h5
      have hcall := quad_Lay_mid w5 t bm L S' id p hT' hid hon hlen
      simp only [encP] at hcall
      refine Calls.mono hcall ?_
      rintro e w6 ⟨rfl, h6⟩
      go_wp2_with fail
      go_ret
      refine ⟨retc hc, ?_⟩
      rw [hl, hF]
      refine TreeTo.trans (G := fun k => k = t ∨ k ∈ S.blocks) hc' (fun k h => ?_) (fun k h => ?_) h6
      · rcases h with h | h <;> simp [h]
      · simp only [List.mem_cons] at h ⊢
        rcases h with h | h | h
        · simp [h]
        · simp [h]
        · exact (hk' k h).imp (fun h => by simp [h]) (fun h => h)

set_option maxHeartbeats 2000000 in
set_option maxRecDepth 100000 in
theorem quad_Drop (w : World) (t : Nat) (L : Pts) (F : List Nat) (id : Int) (h : Tree w t L F) (hid : (Lit.int .i64 id).wf = true) :
    Calls Try.prog 24 #[.pointer (some ⟨t, 0, none⟩), .int .i64 id] w fun e w' => e = .returned (.int .i64 (drpC L id)) ∧ TreeTo w t F (drpL L id) w' := by
  obtain ⟨bm, S, h', hF⟩ := h
  have hT : Tree w t L F := ⟨bm, S, h', hF⟩
  have him := h'.im
  have htm : w.cell? ⟨t, 0, none⟩ = some (.map (some bm)) := cellAt h'.hb rfl
  have hlt := lt_of_block h'.hb
  have H' := Lib.hid h'
  clear h'
  cases hhas : hasP L id
  · have hc : drpC L id = 15 := by unfold drpC; rw [if_pos hhas]
    have hl : drpL L id = L := by unfold drpL; rw [hc]; rfl
    go_enter Try.func24, Try.ntmps24
    go_wp2_with (at_lookup; refine wpl_at_ok _ rfl _ _ rfl bm L id rfl rfl him hid ?_; rw [hhas])
    go_ret
    exact ⟨retc hc, by rw [hl]; exact TreeTo.of_below hT (by (repeat (first | exact Below.refl _ _ | assumption | refine Below.alloc ?_ (by first | omega | (simp; done) | (simp; omega)) _ | refine Below.setCell ?_ (by first | omega | (simp; done) | (simp; omega)) _ | refine Below.drew ?_ | refine Below.draws ?_ _ | refine Below.via (by assumption) (by first | omega | (simp; done) | (simp; omega)) ?_)))⟩
  · have hc : drpC L id = 0 := by unfold drpC; rw [if_neg (by simp [hhas])]
    have hl : drpL L id = delP id L := by unfold drpL; rw [hc]; rfl
    go_enter Try.func24, Try.ntmps24
    go_wp2_with (at_lookup; refine wpl_at_ok _ rfl _ _ rfl bm L id rfl rfl him hid ?_; rw [hhas])
    obtain ⟨w1, hw1⟩ : ∃ w1, w1 = w.alloc (.cells #[.int .i64 (atP L id).1, .int .i64 (atP L id).2] 31) := ⟨_, rfl⟩
    rw [← hw1]
    have hW1 : Below w.heap.size w w1 := by rw [hw1]; (repeat (first | exact Below.refl _ _ | assumption | refine Below.alloc ?_ (by first | omega | (simp; done) | (simp; omega)) _ | refine Below.setCell ?_ (by first | omega | (simp; done) | (simp; omega)) _ | refine Below.drew ?_ | refine Below.draws ?_ _ | refine Below.via (by assumption) (by first | omega | (simp; done) | (simp; omega)) ?_))
    clear hw1
    have hw := regrown_call (w := w1) quad_whole
    (refine wp_region_below_tail 6 (by kernel_rfl) (by kernel_rfl) ?_; simp only [List.take_succ_cons, List.take_zero, List.drop_succ_cons, List.drop_zero]; (repeat (go_big_quiet_step (exact hw _ _))); refine wpQuiet_nil ?_; intro wqB hwq; have hbqB := below_of_class hwq; clear hwq)
    have hB : Below w.heap.size w wqB := ((Chg.of_below hW1 (fun _ => False)).andThen (Chg.of_below hbqB (fun _ => False)) (fun _ _ h => h)).below (Nat.le_refl _) (fun _ _ h => h)
    have hcall := rem_hyps H'.out hhas hB
    have HC := Lib.hid hcall
    clear hcall hw
    go_wp2_with fail
    refine Calls.mono HC.out ?_
    rintro e w5 ⟨rfl, S', hT', hk', hc', hcB⟩
    have him5 := hT'.im
    have htm5 : w5.cell? ⟨t, 0, none⟩ = some (.map (some bm)) := cellAt hT'.hb rfl
    have HT := Lib.hid hT'
    clear hT'
    go_wp2_with (at_delete; refine wpl_delete _ rfl _ _ _ rfl 31 Try.underlying104 bm _ id rfl rfl him5 hid ?_; intro w6 him6 ht6)
    go_ret
    refine ⟨retc hc, ?_⟩
    rw [hl, hF]
    have h5 := HT.out
    have hc6 : Chg (· = bm) w5 w6 := turned_chg ht6
    refine ⟨t :: bm :: S'.blocks, ⟨bm, S', ⟨hc6.heap h5.hb (fun e => h5.bt e.symm), by rw [entP_del]; exact him6, h5.hh.frame fun k hk => hc6.block k (h5.hh.lt k hk) (fun e => h5.bn (e ▸ hk)), h5.ok, h5.nd, h5.tn, h5.bn, h5.bt, ?_, h5.pm, fun _ h => h, h5.srt.del id, fun e he => h5.wf e (mem_del.1 he).1, h5.lem, h5.lem⟩, rfl⟩, fun k hk => ?_, ?_⟩
    · refine h5.can.congr fun x hx => ?_
      rw [Sq.pt_ids] at hx
      have hx' := h5.pm.mem_iff.1 hx
      rw [del_ids] at hx'
      obtain ⟨h1, h2⟩ := List.mem_filter.1 hx'
      exact at_del_other h5.srt h1 (by simpa using h2)
    · simp only [List.mem_cons] at hk ⊢
      rcases hk with h | h | h
      · simp [h]
      · simp [h]
      · exact (hk' k h).imp (fun h => by simp [h]) (fun h => h)
    · refine (hc'.mono (T := (· ∈ t :: bm :: S.blocks)) fun k _ h => ?_).andThen hc6 fun k _ h => by simp [h]
      rcases h with h | h <;> simp [h]

theorem TreeOk.all {w : World} {t bm : Nat} {L : Pts} {S : Sq} (h : TreeOk w t bm L L S) : S.ids.Perm (inL L whole) := by
  rw [inL_eq h.srt, List.filter_eq_self.2]
  · exact h.pm
  · intro x hx
    refine h.can.inr whole_pw x ?_
    rw [Sq.pt_ids]
    exact h.pm.mem_iff.2 hx
theorem Tree.on {w : World} {t : Nat} {L : Pts} {F : List Nat} (h : Tree w t L F) : ∀ e ∈ L, onB e.2.1 e.2.2 = true := by
  obtain ⟨bm, S, h, rfl⟩ := h
  intro e he
  have := h.can.inr whole_pw e.1 (by rw [Sq.pt_ids]; exact h.pm.mem_iff.2 (List.mem_map_of_mem he))
  unfold ptIn at this
  rw [at_mem h.srt he, on_whole] at this
  exact this
theorem Tree.wf {w : World} {t : Nat} {L : Pts} {F : List Nat} (h : Tree w t L F) : ∀ e ∈ L, (Lit.int .i64 e.1).wf = true := by
  obtain ⟨bm, S, h, rfl⟩ := h
  exact h.wf

set_option maxHeartbeats 1000000 in
theorem quad_Depth (w : World) (t : Nat) (L : Pts) (F : List Nat) (h : Tree w t L F) :
    Calls Try.prog 32 #[.pointer (some ⟨t, 0, none⟩)] w fun e w' => e = .returned (.int .i64 (deepR L 4 whole)) ∧ w' = w := by
  obtain ⟨bm, S, h, hF⟩ := h
  have hd : S.dep = deepR L 4 whole := by
    rw [← Sq.pt_dep]
    exact dep_can h.srt S.pt 4 whole h.can whole_pw (by rw [Sq.pt_ids]; exact h.all)
  have hcall := sq_depth S w t 1 _ 109 h.hb tree_in_block h.hh (by have := h.can.dep; rw [Sq.pt_dep] at this; omega)
  rw [hd] at hcall
  have HC := Lib.hid hcall
  clear hcall h
  go_enter Try.func32, Try.ntmps32
  go_wp2_with fail
  refine Calls.mono HC.out ?_
  rintro e w1 ⟨rfl, rfl⟩
  go_wp2_with fail
  go_ret
  exact ⟨rfl, rfl⟩

set_option maxHeartbeats 1000000 in
theorem quad_Len (w : World) (t : Nat) (L : Pts) (F : List Nat) (h : Tree w t L F) :
    Calls Try.prog 31 #[.pointer (some ⟨t, 0, none⟩)] w fun e w' => e = .returned (.int .i64 L.length) ∧ w' = w := by
  obtain ⟨bm, S, h, hF⟩ := h
  have him := h.im
  have htm : w.cell? ⟨t, 0, none⟩ = some (.map (some bm)) := cellAt h.hb rfl
  clear h
  go_enter Try.func31, Try.ntmps31
  go_wp2_with (at_len; refine wpl_lenP _ rfl _ rfl bm L rfl him ?_)
  go_ret
  exact ⟨rfl, rfl⟩

set_option maxHeartbeats 1000000 in
theorem quad_At (w : World) (t : Nat) (L : Pts) (F : List Nat) (id : Int) (h : Tree w t L F) (hid : (Lit.int .i64 id).wf = true) :
    Calls Try.prog 26 #[.pointer (some ⟨t, 0, none⟩), .int .i64 id] w fun e w' => e = .returned (.tuple #[.agg #[.int .i64 (atP L id).1, .int .i64 (atP L id).2], .bool (hasP L id)]) ∧ Below w.heap.size w w' := by
  obtain ⟨bm, S, h, hF⟩ := h
  have him := h.im
  have htm : w.cell? ⟨t, 0, none⟩ = some (.map (some bm)) := cellAt h.hb rfl
  have hlt := lt_of_block h.hb
  clear h
  go_enter Try.func26, Try.ntmps26
  go_wp2_with (at_lookup; refine wpl_at_ok _ rfl _ _ rfl bm L id rfl rfl (him.alloc _) hid ?_)
  exact bodyPost_ret (v := .tuple #[.agg #[.int .i64 (atP L id).1, .int .i64 (atP L id).2], .bool (hasP L id)]) (by simp [results, Try.results26, go_sem]) rfl ⟨rfl, (by (repeat (first | exact Below.refl _ _ | assumption | refine Below.alloc ?_ (by first | omega | (simp; done) | (simp; omega)) _ | refine Below.setCell ?_ (by first | omega | (simp; done) | (simp; omega)) _ | refine Below.drew ?_ | refine Below.draws ?_ _ | refine Below.via (by assumption) (by first | omega | (simp; done) | (simp; omega)) ?_)))⟩

set_option maxHeartbeats 1000000 in
theorem quad_In (w : World) (t : Nat) (L : Pts) (F : List Nat) (r : R4) (h : Tree w t L F) :
    Calls Try.prog 29 #[.pointer (some ⟨t, 0, none⟩), r.val] w fun e w' => ∃ v, e = .returned v ∧ RowOf encI 1 3 w' w.heap.size v (inL L r) ∧ Below w.heap.size w w' := by
  obtain ⟨bm, S, h, hF⟩ := h
  have hlen := h.len
  have hlens := h.lens
  simp only [R4.val]
  obtain ⟨W, hWd⟩ : ∃ W, W = w.alloc (.cells #[.int .i64 r.x0, .int .i64 r.y0, .int .i64 r.x1, .int .i64 r.y1] 33) := ⟨_, rfl⟩
  have hW : Below w.heap.size w W := by rw [hWd]; exact (Below.refl _ w).alloc (Nat.le_refl _) _
  have hbox : W.heap[w.heap.size]? = some (.cells #[.int .i64 r.x0, .int .i64 r.y0, .int .i64 r.x1, .int .i64 r.y1] 33 (0, 0)) := by rw [hWd]; exact heap_alloc_new _ _
  have q0 := cell_regrown (cellAt hbox (o := 0) rfl)
  have q1 := cell_regrown (cellAt hbox (o := 1) rfl)
  have q2 := cell_regrown (cellAt hbox (o := 2) rfl)
  have q3 := cell_regrown (cellAt hbox (o := 3) rfl)
  have hw := regrown_call (w := W) quad_whole
  have H := Lib.hid h
  clear h
  go_enter Try.func29, Try.ntmps29
  go_wp2_with fail
  rw [← hWd]
  clear hWd
  (refine wp_region_below_tail 6 (by kernel_rfl) (by kernel_rfl) ?_; simp only [List.take_succ_cons, List.take_zero, List.drop_succ_cons, List.drop_zero]; (repeat (go_big_quiet_step (exact hw _ _))); refine wpQuiet_nil ?_; intro wqB hwq; have hbqB := below_of_class hwq; clear hwq)
  have hB : Below w.heap.size w wqB := ((Chg.of_below hW (fun _ => False)).andThen (Chg.of_below hbqB (fun _ => False)) (fun _ _ h => h)).below (Nat.le_refl _) (fun _ _ h => h)
  have hcall := sq_in S wqB t bm t 1 _ 109 L whole r (.slice none 0 0) [] w.heap.size (H.out.ctx.below hB) ((hB.block t (lt_of_block H.out.hb)).trans H.out.hb) tree_in_block (H.out.hh.below hB) whole_sq H.out.wfs (RowOf.nil _ _ _) hB.size (by rw [hlens]; simp; omega) (fun k e => by cases e)
  have HC := Lib.hid hcall
  clear hcall hw q0 q1 q2 q3
  go_wp2_with fail
  refine Calls.mono HC.out ?_
  rintro e w5 ⟨v5, rfl, hrow, hc5, _⟩
  rw [List.nil_append, in_can L r S 4 whole H.out.ok H.out.can whole_pw] at hrow
  have h5 : Below w.heap.size w w5 := (Chg.of_below hB (fun _ => False)).andThen hc5 (fun _ _ e => by cases e) |>.below (Nat.le_refl _) (fun _ _ h => h)
  obtain ⟨va, vm, vc, hv5⟩ := hrow.slice
  subst hv5
  have hsort := ints_Sort w5 w.heap.size _ _ hrow (by have := List.length_filter_le (ptIn L r) S.ids; omega)
  rw [sort_inL H.out.srt r H.out.pm] at hsort
  have HS := Lib.hid hsort
  clear HC hsort
  go_wp2_with fail
  refine Calls.mono HS.out ?_
  rintro e w6 ⟨rfl, hrow6, hc6⟩
  go_wp2_with fail
  go_ret
  refine ⟨_, rfl, hrow6, (Chg.of_below h5 (fun _ => False)).andThen hc6 (fun k hk e => ?_) |>.below (Nat.le_refl _) (fun _ _ h => h)⟩
  have := (hrow.lt k e).1
  omega
end Go.Proofs.Ytggeehmcjndlgaa
