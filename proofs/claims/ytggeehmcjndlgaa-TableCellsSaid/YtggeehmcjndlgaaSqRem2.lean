/-
  quad's 'remove' at a square that is split; and at every square.
-/
import Derived.Test.YtggeehmcjndlgaaSqRem
namespace Go.Proofs.Ytggeehmcjndlgaa
open Go Go.RowKit Go.Sort Go.Shelf

theorem setKid_pt {k : Nat} (X : Sq) (kb n : Nat) (a b c d : Sq) : (setKid k X kb n a b c d).pt = .node (if k = 0 then X.pt else a.pt) (if k = 1 then X.pt else b.pt) (if k = 2 then X.pt else c.pt) (if k = 3 then X.pt else d.pt) := by
  simp only [setKid, Sq.pt]
  congr 1 <;> split <;> rfl

theorem sel_pt (k : Nat) (a b c d : Sq) : (sel k a b c d).pt = sel k a.pt b.pt c.pt d.pt := by unfold sel; split <;> rfl

theorem setKid_len {k : Nat} (hk : k < 4) (X : Sq) (kb n n' : Nat) (a b c d : Sq) (h : X.ids.length + 1 = (sel k a b c d).ids.length) : (setKid k X kb n' a b c d).ids.length + 1 = (Sq.node kb n a b c d).ids.length := by
  have : k = 0 ∨ k = 1 ∨ k = 2 ∨ k = 3 := by omega
  rcases this with rfl | rfl | rfl | rfl <;> simp [setKid, Sq.ids, sel] at h ⊢ <;> omega

theorem setKid_ok {k : Nat} (hk : k < 4) (X : Sq) (kb n n' : Nat) (a b c d : Sq) (h : (Sq.node kb n a b c d).Ok) (hX : X.Ok) (hn : n' = (setKid k X kb n' a b c d).ids.length) : (setKid k X kb n' a b c d).Ok := by
  obtain ⟨_, ha, hb, hc, hd⟩ := h
  have : k = 0 ∨ k = 1 ∨ k = 2 ∨ k = 3 := by omega
  rcases this with rfl | rfl | rfl | rfl <;> exact ⟨hn, by simp [hX, ha], by simp [hX, hb], by simp [hX, hc], by simp [hX, hd]⟩

theorem sel_ok {k kb n : Nat} {a b c d : Sq} (h : (Sq.node kb n a b c d).Ok) : (sel k a b c d).Ok := by
  obtain ⟨_, ha, hb, hc, hd⟩ := h
  unfold sel
  split <;> assumption
theorem sel_nodup {k kb n : Nat} (hk : k < 4) {a b c d : Sq} (h : (Sq.node kb n a b c d).blocks.Nodup) : (sel k a b c d).blocks.Nodup ∧ kb ∉ (sel k a b c d).blocks := by
  obtain ⟨A, B, e1, _, _⟩ := setKid_parts hk a kb n n a b c d
  rw [e1] at h
  obtain ⟨hkn, hnd'⟩ := List.nodup_cons.1 h
  obtain ⟨h1, h2, h3⟩ := List.nodup_append.1 hnd'
  exact ⟨(List.nodup_append.1 h1).2.1, fun hm => hkn (by simp [hm])⟩
theorem sel_ids_nodup {k kb n : Nat} (hk : k < 4) {a b c d : Sq} (h : (Sq.node kb n a b c d).ids.Nodup) : (sel k a b c d).ids.Nodup := by
  simp only [Sq.ids] at h
  obtain ⟨hn1, hd, _⟩ := List.nodup_append.1 h
  obtain ⟨hn2, hc, _⟩ := List.nodup_append.1 hn1
  obtain ⟨ha, hb, _⟩ := List.nodup_append.1 hn2
  have : k = 0 ∨ k = 1 ∨ k = 2 ∨ k = 3 := by omega
  rcases this with rfl | rfl | rfl | rfl <;> assumption

theorem goes_sel {L : Pts} {a b c d : Sq} {kb n : Nat} {r : R4} {id : Int} (h : Goes L (Sq.node kb n a b c d).pt r id) : Goes L (sel (whch r (atP L id).1 (atP L id).2) a b c d).pt (qtr r (whch r (atP L id).1 (atP L id).2)) id := by
  simp only [Sq.pt, Goes] at h
  have hw := whch_lt r (atP L id).1 (atP L id).2
  generalize whch r (atP L id).1 (atP L id).2 = k at *
  have : k = 0 ∨ k = 1 ∨ k = 2 ∨ k = 3 := by omega
  rcases this with rfl | rfl | rfl | rfl <;> exact h

theorem rem_node_pt {L : Pts} {a b c d X : Sq} {kb n n' : Nat} {r : R4} {id : Int} (hX : X.pt = remPT L (sel (whch r (atP L id).1 (atP L id).2) a b c d).pt (qtr r (whch r (atP L id).1 (atP L id).2)) id) :
    remPT L (Sq.node kb n a b c d).pt r id = let S := setKid (whch r (atP L id).1 (atP L id).2) X kb n' a b c d; if S.ids.length ≤ 4 then .leaf S.ids else S.pt := by
  have hw := whch_lt r (atP L id).1 (atP L id).2
  simp only [Sq.pt, remPT, fin4]
  have e : (setKid (whch r (atP L id).1 (atP L id).2) X kb n' a b c d).pt = .node (if whch r (atP L id).1 (atP L id).2 = 0 then remPT L a.pt (qtr r 0) id else a.pt) (if whch r (atP L id).1 (atP L id).2 = 1 then remPT L b.pt (qtr r 1) id else b.pt)
      (if whch r (atP L id).1 (atP L id).2 = 2 then remPT L c.pt (qtr r 2) id else c.pt) (if whch r (atP L id).1 (atP L id).2 = 3 then remPT L d.pt (qtr r 3) id else d.pt) := by
    rw [setKid_pt]
    generalize whch r (atP L id).1 (atP L id).2 = k at *
    have : k = 0 ∨ k = 1 ∨ k = 2 ∨ k = 3 := by omega
    rcases this with rfl | rfl | rfl | rfl <;> simp [hX, sel]
  rw [← e, Sq.pt_ids]

/-- A square of which the first cell alone has changed. -/
theorem set3_c0 {cs : Array Value} {os : Nat} {S S' : Sq} (h : SqIn cs os S) (h1 : S'.c1 = S.c1) (h2 : S'.c2 = S.c2) : cs.setIfInBounds os S'.c0 = set3 cs os S' := by
  have g1 := h.c1
  have g2 := h.c2
  have hs2 := (Array.getElem?_eq_some_iff.1 g2).1
  unfold set3
  rw [h1, h2]
  apply Array.ext_getElem?
  intro i
  by_cases e2 : i = os + 2
  · subst e2
    rw [Array.getElem?_setIfInBounds_ne (by omega), g2, Array.getElem?_setIfInBounds_self_of_lt (by simpa using hs2)]
  · rw [Array.getElem?_setIfInBounds_ne (i := os + 2) (Ne.symm e2)]
    by_cases e1 : i = os + 1
    · subst e1
      rw [Array.getElem?_setIfInBounds_ne (by omega), g1, Array.getElem?_setIfInBounds_self_of_lt (by simp; omega)]
    · rw [Array.getElem?_setIfInBounds_ne (i := os + 1) (Ne.symm e1)]

set_option maxHeartbeats 4000000 in
set_option maxRecDepth 100000 in
theorem sq_rem_node (kb n : Nat) (a b c d : Sq) (hk4 : ∀ k, k < 4 → RemSpec (sel k a b c d)) : RemSpec (.node kb n a b c d) := by
  intro w bt bm bs os cs T L r id hctx hb hin hh hok hsq hwf hnd hlen hgo hbn hbs hbt hbm hmb ho
  have hmem : id ∈ (Sq.node kb n a b c d).ids := by have := Goes.mem L _ r id hgo; rwa [Sq.pt_ids] at this
  have hpos : 1 ≤ n := by
    have e1 : n = (Sq.node kb n a b c d).ids.length := hok.1
    have := List.length_pos_of_mem hmem
    omega
  have hn1000 : n ≤ 1000 := by
    have e1 : n = (Sq.node kb n a b c d).ids.length := hok.1
    omega
  have k0 := cellAt hb hin.c0
  have k1 := cellAt hb hin.c1
  have k2 := cellAt hb hin.c2
  simp only [Sq.c0, Sq.c1, Sq.c2] at k0 k1 k2
  have f0 : w.frozen? ⟨bs, os, none⟩ = false := freeAt hb
  have hB := lt_of_block hb
  obtain ⟨W, hWd⟩ : ∃ W, W = ((w.setCell ⟨bs, os, none⟩ (.int .i64 (n - 1))).alloc (.cells #[.int .i64 r.x0, .int .i64 r.y0, .int .i64 r.x1, .int .i64 r.y1] 33)).alloc (.cells #[.int .i64 id] 3) := ⟨_, rfl⟩
  obtain ⟨hW, hBW, hboxr, hboxi, hbW⟩ := rem_start (r := r) (id := id) hb (.int .i64 (n - 1)) hWd
  have hctxW : TCtx W bt bm L := by
    refine ⟨?_, hctx.im.chg hW hmb⟩
    by_cases e : bt = bs
    · subst e
      have := ho rfl
      have h1 := hctx.tm
      simp only [World.cell?, hb] at h1
      simp only [World.cell?, hbW]
      simp at h1 ⊢
      rw [Array.getElem?_setIfInBounds_ne (by omega)]
      exact h1
    · rw [World.cell?_of_block (w := w) (a := ⟨bt, 0, none⟩) (hW.block bt hctx.lt e)]
      exact hctx.tm
  have hhW : (Sq.node kb n a b c d).Holds W := hh.frame fun k hk => hW.block k (hh.lt k hk) (fun e => hbs (e ▸ hk))
  have hidwf := hwf id hmem
  obtain ⟨k, hkd⟩ : ∃ k, k = whch r (atP L id).1 (atP L id).2 := ⟨_, rfl⟩
  have hlt : k < 4 := by rw [hkd]; exact whch_lt _ _ _
  have hgo' := goes_sel hgo
  rw [← hkd] at hgo'
  have hwh := regrown_call (w := W) (quad_which r (atP L id).1 (atP L id).2 · hsq.ok)
  rw [← hkd] at hwh
  have HK := Lib.hid hkd
  clear hkd
  have q0 := cell_regrown (cellAt hboxr (o := 0) rfl)
  have q1 := cell_regrown (cellAt hboxr (o := 1) rfl)
  have q2 := cell_regrown (cellAt hboxr (o := 2) rfl)
  have q3 := cell_regrown (cellAt hboxr (o := 3) rfl)
  have qi := cell_regrown (cellAt hboxi (o := 0) rfl)
  have qt := cell_regrown hctxW.tm
  have ql : ∀ d os, (Instr.lookup 104 (.map (some bm)) (.int .i64 id) false).run Try.prog (grow (redrawn W d) os) = .ok (.agg #[.int .i64 (atP L id).1, .int .i64 (atP L id).2]) (grow (redrawn W d) os) := fun d os => (hctxW.below (below_regrown W d os)).look hidwf
  go_enter Try.func76, Try.ntmps76
  go_wp2_with fail
  rw [← hWd]
  have HW := Lib.hid hWd
  clear hWd
  (refine wp_region_quiet_below (by kernel_rfl) (by kernel_rfl) ?_; (repeat (go_big_quiet_step (exact hwh _ _))); refine wpQuiet_nil ?_; intro wqA hwq; have hbqA := below_of_class hwq; clear hwq)
  clear hwh q0 q1 q2 q3 qi qt ql
  have hbA := (hbqA.block bs (lt_of_block hbW)).trans hbW
  have kA2 : wqA.cell? ⟨bs, os + 2, none⟩ = some (.pointer (some ⟨kb, 0, none⟩)) := cellAt hbA (by rw [Array.getElem?_setIfInBounds_ne (by omega)]; exact hin.c2)
  have hQ := regrown_call (w := wqA) (quad_quarter r k · hsq.ok hlt)
  simp only [R4.val] at hQ
  have hboxrA := (hbqA.block _ (lt_of_block hboxr)).trans hboxr
  have hboxiA := (hbqA.block _ (lt_of_block hboxi)).trans hboxi
  have q0 := cell_regrown (cellAt hboxrA (o := 0) rfl)
  have q1 := cell_regrown (cellAt hboxrA (o := 1) rfl)
  have q2 := cell_regrown (cellAt hboxrA (o := 2) rfl)
  have q3 := cell_regrown (cellAt hboxrA (o := 3) rfl)
  have qi := cell_regrown (cellAt hboxiA (o := 0) rfl)
  have qk := cell_regrown kA2
  go_wp2_with fail
  (refine wp_region_below_tail 12 (by kernel_rfl) (by kernel_rfl) ?_; simp only [List.take_succ_cons, List.take_zero, List.drop_succ_cons, List.drop_zero]; (repeat (go_big_quiet_step (exact hQ _ _))); refine wpQuiet_nil ?_; intro wqB hwq; have hbqB := below_of_class hwq; clear hwq)
  clear hQ q0 q1 q2 q3 qi qk
  have hAB : Chg (fun j => j = bs ∨ j ∈ (Sq.node kb n a b c d).blocks) w wqB := ((hW.mono fun j _ e => .inl e).andThen (Chg.of_below hbqA _) (fun i _ h => h)).andThen (Chg.of_below hbqB _) (fun i _ h => h)
  have hszB : w.heap.size ≤ wqB.heap.size := hAB.size
  have hhB := (hhW.below hbqA).below hbqB
  have hkbm : kb ∈ (Sq.node kb n a b c d).blocks := by simp [Sq.blocks]
  have hcall := hk4 k hlt wqB bt bm kb (k * 3) (cells12 a b c d) 166 L (qtr r k) id ((hctxW.below hbqA).below hbqB) hhB.1 (sel_in hlt a b c d) (sel_holds hhB) (sel_ok hok) (hsq.qtr hlt)
    (fun x hx => hwf x (sel_ids hx)) (sel_ids_nodup hlt hnd) (Nat.le_trans sel_len hlen) hgo' (sel_nodup hlt hbn).1 (sel_nodup hlt hbn).2 (fun h => hbt (sel_blocks h)) (fun h => hbm (sel_blocks h))
    (fun e => hbm (e ▸ hkbm)) (fun e => absurd (e ▸ hkbm) hbt)
  have hbB : wqB.heap[bs]? = some (.cells (cs.setIfInBounds os (.int .i64 (n - 1))) T (0, 0)) := (hbqB.block bs (lt_of_block hbA)).trans hbA
  have HC := Lib.hid hcall
  clear hcall
  go_wp2_with fail
  refine Calls.mono HC.out ?_
  rintro e w5 ⟨rfl, X, hX1, hX2, hX3, hX4, hX5, hX6, hX7⟩
  clear HC
  have hb5 := hX7.heap hbB (fun e => e.elim (fun e => hbs (e ▸ hkbm)) (fun e => hbs (sel_blocks e)))
  obtain ⟨s1, s2, s3⟩ := kid_step (n' := n - 1) (B7 := fun _ => False) (fun _ h => h.elim) hlt hhB hbn hX2 hX5 hX6 hX1 (hX7.mono fun j _ h => h.imp (fun h => h) .inl)
  have hXlen : X.ids.length + 1 = (sel k a b c d).ids.length := by
    have := remPT_len L _ _ id hgo' (by rw [Sq.pt_ids]; exact sel_ids_nodup hlt hnd)
    rw [← hX4, Sq.pt_ids, Sq.pt_ids] at this
    exact this
  have hlenS := setKid_len hlt X kb n (n - 1) a b c d hXlen
  have hnlen : n = (Sq.node kb n a b c d).ids.length := hok.1
  have hn' : n - 1 = (setKid k X kb (n - 1) a b c d).ids.length := by omega
  have hokS := setKid_ok hlt X kb n (n - 1) a b c d hok hX3 hn'
  have hptS : remPT L (Sq.node kb n a b c d).pt r id = if (setKid k X kb (n - 1) a b c d).ids.length ≤ 4 then .leaf (setKid k X kb (n - 1) a b c d).ids else (setKid k X kb (n - 1) a b c d).pt := by
    have hk' := HK.out
    rw [hk'] at hX4
    rw [rem_node_pt (n' := n - 1) hX4, ← hk']
  have hc5 : Chg (fun j => j = bs ∨ j ∈ (Sq.node kb n a b c d).blocks) w w5 := hAB.andThen hX7 (fun i _ h => .inr (h.elim (fun e => e ▸ hkbm) sel_blocks))
  have e0 : (Value.int .i64 ((n : Int) - 1)) = (setKid k X kb (n - 1) a b c d).c0 := by
    show Value.int .i64 _ = Value.int .i64 _
    congr 1
    omega
  have E0 := Lib.hid e0
  have hS3 := Lib.hid s3
  generalize hSd : setKid k X kb (n - 1) a b c d = S2 at *
  have hc1 : S2.c1 = (Sq.node kb n a b c d).c1 := by rw [← hSd]; rfl
  have hc2 : S2.c2 = (Sq.node kb n a b c d).c2 := by rw [← hSd]; rfl
  have k50 : w5.cell? ⟨bs, os, none⟩ = some (.int .i64 ((n : Int) - 1)) := cellAt hb5 (by
    have := (Array.getElem?_eq_some_iff.1 hin.c0).1
    simp [this])
  have hcs := (Array.getElem?_eq_some_iff.1 hin.c0).1
  have hin5 : SqIn (cs.setIfInBounds os (.int .i64 ((n : Int) - 1))) os S2 := ⟨by rw [e0]; simp [hcs], by rw [Array.getElem?_setIfInBounds_ne (by omega), hc1]; exact hin.c1, by rw [Array.getElem?_setIfInBounds_ne (by omega), hc2]; exact hin.c2⟩
  have hS2len : S2.ids.length ≤ 1000 := by omega
  have hin5k := hin5.c2
  have HP := Lib.hid hptS
  have HN := Lib.hid hn'
  have HIN := Lib.hid hin
  have hle : ((n : Int) - 1 ≤ 4) ↔ S2.ids.length ≤ 4 := by omega
  clear e0 s3 hX1 hX6 hX4 hptS hn' hnlen hlenS hXlen hc1 hc2 hin
  by_cases h4 : (n : Int) - 1 ≤ 4
  · have h4' : S2.ids.length ≤ 4 := hle.1 h4
    clear hle
    have hall := sq_all S2 w5 bs os _ T hb5 hin5 s1 hS2len
    have HA := Lib.hid hall
    clear hall
    go_wp2_with fail
    refine Calls.mono HA.out ?_
    rintro e w6 ⟨v6, rfl, hr6, hb6⟩
    clear HA
    have hb6' := (hb6.block bs (lt_of_block hb5)).trans hb5
    have k61 : w6.cell? ⟨bs, os + 1, none⟩ = some S2.c1 := cellAt hb6' hin5.c1
    have k62 : w6.cell? ⟨bs, os + 2, none⟩ = some S2.c2 := cellAt hb6' hin5.c2
    have f61 : w6.frozen? ⟨bs, os + 1, none⟩ = false := freeAt hb6'
    have f62 : w6.frozen? ⟨bs, os + 2, none⟩ = false := freeAt hb6'
    obtain ⟨av, nv, cv, hv6⟩ : ∃ av nv cv, v6 = .slice av nv cv := by
      rcases hr6.form with ⟨h, _⟩ | ⟨g, cap, h, _⟩ <;> exact ⟨_, _, _, h⟩
    subst hv6
    go_wp2_with fail
    go_end0
    have hcW : Chg (· = bs) w6 ((w6.setCell ⟨bs, os + 1, none⟩ (.slice av nv cv)).setCell ⟨bs, os + 2, none⟩ (.pointer none)) := (Chg.setCell (· = bs) _ _ _ (fun _ => rfl)).andThen (Chg.setCell (· = bs) _ _ _ (fun _ => rfl)) (fun _ _ h => h)
    have hnb : ∀ j, (Value.slice av nv cv).ownBlock = some j → w5.heap.size ≤ j := fun j hj => (hr6.lt j hj).1
    have hbs5 := lt_of_block hb5
    refine ⟨rfl, .leaf (.slice av nv cv) S2.ids, ?_, ?_, trivial, ?_, ?_, ?_, ?_⟩
    · have h3 := set_cell_block (o := os + 2) (set_cell_block (o := os + 1) hb6' (.slice av nv cv)) (.pointer none)
      rw [h3, E0.out]
      have : S2.c0 = (Sq.leaf (.slice av nv cv) S2.ids).c0 := by
        rw [← E0.out]
        show Value.int .i64 _ = Value.int .i64 _
        congr 1
        have := HN.out
        omega
      rw [this]
      rfl
    · exact (RowOf.base_le hr6 (Nat.zero_le _)).chg hcW (fun j hj e => by have := hnb j hj; omega)
    · rw [HP.out, if_pos h4']; rfl
    · simp only [Sq.blocks]
      cases h : (Value.slice av nv cv).ownBlock <;> simp
    · intro j hj
      simp only [Sq.blocks, Option.mem_toList] at hj
      have := hnb j hj
      exact .inr (by have := hc5.size; omega)
    · exact (hc5.andThen (Chg.of_below hb6 _) (fun i _ h => h)).andThen hcW (fun i _ h => .inl h)
  · have h4' : ¬ S2.ids.length ≤ 4 := fun h => h4 (hle.2 h)
    clear hle
    go_wp2_with fail
    go_end0
    refine ⟨rfl, S2, ?_, s1, hokS, ?_, s2, ?_, hc5⟩
    · rw [hb5, E0.out]
      congr 2
      unfold set3
      have g1 := hin5.c1
      have g2 := hin5.c2
      rw [E0.out] at g1 g2
      apply Array.ext_getElem?
      intro i
      by_cases e2 : i = os + 2
      · subst e2
        have hs2 := (Array.getElem?_eq_some_iff.1 g2).1
        rw [g2, Array.getElem?_setIfInBounds_self_of_lt (by simpa using hs2)]
      · rw [Array.getElem?_setIfInBounds_ne (Ne.symm e2)]
        by_cases e1 : i = os + 1
        · subst e1
          have hs1 := (Array.getElem?_eq_some_iff.1 g1).1
          rw [g1, Array.getElem?_setIfInBounds_self_of_lt (by simpa using hs1)]
        · rw [Array.getElem?_setIfInBounds_ne (Ne.symm e1)]
    · rw [HP.out, if_neg h4']
    · intro j hj
      rcases hS3.out j hj with h | h
      · exact .inl h
      · exact .inr (by omega)

theorem sq_rem : ∀ S : Sq, RemSpec S
  | .leaf v ids => sq_rem_leaf v ids
  | .node kb n a b c d => sq_rem_node kb n a b c d fun k _ => by
    unfold sel
    split
    · exact sq_rem a
    · exact sq_rem b
    · exact sq_rem c
    · exact sq_rem d
end Go.Proofs.Ytggeehmcjndlgaa
