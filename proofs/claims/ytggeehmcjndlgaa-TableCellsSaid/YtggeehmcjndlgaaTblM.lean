/-
  table.Table: New, Lay, Put, Set, Drop, Get, Len.
-/
import Derived.Test.YtggeehmcjndlgaaTbl
import Derived.Deep.RegionHeld3
namespace Go.Proofs.Ytggeehmcjndlgaa
open Go Go.RowKit Go.Sort Go.Shelf
set_option linter.unusedVariables false
set_option linter.unusedSimpArgs false
set_option linter.unnecessarySimpa false

def dropC (M : Ths) (id : Int) : Int := if hasT M id = false then 15 else 0
def dropT (M : Ths) (id : Int) : Ths := delT id M
theorem drpL_del {L : Pts} {id : Int} : drpL L id = delP id L := by
  unfold drpL
  split
  · rfl
  · rename_i h
    have hh : hasP L id = false := by
      cases h' : hasP L id
      · rfl
      · exact absurd (by unfold drpC; rw [if_neg (by rw [h']; simp)]) h
    exact (del_none hh).symm

theorem has_del (L : Pts) (id : Int) : hasP (delP id L) id = false := by
  cases h : hasP (delP id L) id
  · rfl
  · obtain ⟨p, hp⟩ := hasP_iff.1 h
    exact absurd rfl (mem_del.1 hp).2
theorem del_del (L : Pts) (id : Int) : delP id (delP id L) = delP id L := del_none (has_del L id)
theorem lay_done {w W : World} {F : List Nat} {t bm q : Nat} {X : List (Nat × Obj)} {M : Ths} {x : Thg} (h : TS w F t bm q X W (putE x.id x.val (entT M)) (putP x.id (x.x, x.y) (ptsT M))) : TblTo w t F (putT x M) W := by
  rw [← entT_put, ← ptsT_put] at h
  exact h.done
theorem lay_done2 {w W : World} {F : List Nat} {t bm q : Nat} {X : List (Nat × Obj)} {M : Ths} {x : Thg} (h : TS w F t bm q X W (putE x.id x.val (entT M)) (putP x.id (x.x, x.y) (drpL (ptsT M) x.id))) : TblTo w t F (putT x M) W := by
  rw [drpL_del, putP, del_del, ← putP] at h
  exact lay_done h

set_option maxHeartbeats 4000000 in
set_option maxRecDepth 100000 in
theorem table_Lay (w : World) (t : Nat) (M : Ths) (F : List Nat) (x : Thg) (h : Tbl w t M F) (hid : (Lit.int .i64 x.id).wf = true) (hon : onB x.x x.y = true) (hlen : (delT x.id M).length < 400) :
    Calls Try.prog 88 #[.pointer (some ⟨t, 0, none⟩), x.val] w fun e w' => e = .returned (.tuple #[]) ∧ TblTo w t F (putT x M) w' := by
  obtain ⟨bm, q, hS⟩ := h.ts
  have hS0 := hS.box (.cells #[.int .i64 x.id, .int .i64 x.x, .int .i64 x.y, .int .i64 x.a.n, .string x.a.t, .int .i64 x.b.n, .string x.b.t, .int .i64 x.c.n, .string x.c.t, .int .i64 x.d.n, .string x.d.t] 63) (O := x.obj) (heap_alloc_new _ _)
  obtain ⟨W, hWd⟩ : ∃ W, W = w.alloc (.cells #[.int .i64 x.id, .int .i64 x.x, .int .i64 x.y, .int .i64 x.a.n, .string x.a.t, .int .i64 x.b.n, .string x.b.t, .int .i64 x.c.n, .string x.c.t, .int .i64 x.d.n, .string x.d.t] 63) := ⟨_, rfl⟩
  rw [← hWd] at hS0
  obtain ⟨n, hn⟩ : ∃ n, n = w.heap.size := ⟨_, rfl⟩
  rw [← hn] at hS0
  have HS0 := Lib.hid hS0
  have hlM : M.length ≤ 400 := h.len
  have hlk : ∀ W', Below W.heap.size W W' → W'.cell? ⟨t, 0, none⟩ = some (.map (some bm)) ∧ W'.cell? ⟨n, 0, none⟩ = some (.int .i64 x.id) ∧ LooksT bm x.id (getT M x.id) (hasT M x.id) W' := fun W' hb =>
    have h' := hS0.below hb
    ⟨h'.hd0, cellAt (h'.bx (n, x.obj) (by simp)).1 rfl, getT_run h'.im hid⟩
  generalize getT M x.id = y0 at hlk
  clear hS hS0 h
  unfold Thg.val
  unfold LooksT at hlk
  have HLK := Lib.hid hlk
  clear hlk
  cases hh : hasT M x.id <;> rw [hh] at HLK
  · have HNO : Hid (hasP (ptsT M) x.id = false) := Lib.hid (by rw [ptsT_has]; exact hh)
    have HLEN : Hid ((ptsT M).length < 400) := Lib.hid (by rw [ptsT_len, ← delT_none hh]; exact hlen)
    have HPUT : Hid (putP x.id (x.x, x.y) (ptsT M) = ptsT (putT x M)) := Lib.hid (ptsT_put x M).symm
    go_enter Try.func88, Try.ntmps88
    go_wp2_with fail
    rw [← hWd, ← hn]
    clear hWd hn
    go_region_held3 (fun W' => W'.cell? ⟨t, 0, none⟩ = some (.map (some bm)) ∧ W'.cell? ⟨n, 0, none⟩ = some (.int .i64 x.id) ∧ (Instr.lookup 126 (.map (some bm)) (.int .i64 x.id) true).run Try.prog W' = .ok (.tuple #[.agg #[.int .i64 y0.id, .int .i64 y0.x, .int .i64 y0.y, .int .i64 y0.a.n, .string y0.a.t, .int .i64 y0.b.n, .string y0.b.t, .int .i64 y0.c.n, .string y0.c.t, .int .i64 y0.d.n, .string y0.d.t], .bool false]) W') (exact HLK.out _ (by (repeat (first | exact Below.refl _ _ | assumption | refine Below.alloc ?_ (by first | omega | (simp; done) | (simp; omega)) _ | refine Below.setCell ?_ (by first | omega | (simp; done) | (simp; omega)) _ | refine Below.drew ?_ | refine Below.draws ?_ _ | refine Below.via (by assumption) (by first | omega | (simp; done) | (simp; omega)) ?_)))) (fail)
    all_goals
      go_wp2_with fail
      obtain ⟨W1, hW1⟩ : ∃ W1, W1 = (W.alloc (.cells #[.int .i64 y0.id, .int .i64 y0.x, .int .i64 y0.y, .int .i64 y0.a.n, .string y0.a.t, .int .i64 y0.b.n, .string y0.b.t, .int .i64 y0.c.n, .string y0.c.t, .int .i64 y0.d.n, .string y0.d.t] 63)).drew := ⟨_, rfl⟩
      have HS : Hid (TS w F t bm q [(n, x.obj)] W1 (entT M) (ptsT M)) := Lib.hid (HS0.out.below (by rw [hW1]; exact ((Below.refl _ W).alloc (Nat.le_refl _) _).drew))
      rw [← hW1]
      clear hW1
      have k0 := cell_regrown HS.out.hd0
      have hbx := (HS.out.bx (n, x.obj) (by simp)).1
      have c0 := cell_regrown (cellAt hbx (o := 0) rfl)
      have c1 := cell_regrown (cellAt hbx (o := 1) rfl)
      have c2 := cell_regrown (cellAt hbx (o := 2) rfl)
      have c3 := cell_regrown (cellAt hbx (o := 3) rfl)
      have c4 := cell_regrown (cellAt hbx (o := 4) rfl)
      have c5 := cell_regrown (cellAt hbx (o := 5) rfl)
      have c6 := cell_regrown (cellAt hbx (o := 6) rfl)
      have c7 := cell_regrown (cellAt hbx (o := 7) rfl)
      have c8 := cell_regrown (cellAt hbx (o := 8) rfl)
      have c9 := cell_regrown (cellAt hbx (o := 9) rfl)
      have c10 := cell_regrown (cellAt hbx (o := 10) rfl)
      clear hbx
      go_wp2_with fail
      (refine wp_region_below_tail 7 (by kernel_rfl) (by kernel_rfl) ?_; simp only [List.take_succ_cons, List.take_zero, List.drop_succ_cons, List.drop_zero]; (repeat (go_big_quiet_step (fail))); refine wpQuiet_nil ?_; intro wqC hwq; have hbqC := below_of_class hwq; clear hwq)
      have hSC := HS.out.below hbqC
      clear k0 c0 c1 c2 c3 c4 c5 c6 c7 c8 c9 c10
      go_wp2_with (at_mapUpdate; refine wpl_store _ rfl _ _ _ _ rfl 63 Try.underlying126 bm (entT M) x.id rfl rfl x.val rfl hSC.im (by rw [entT_len]; unfold maxLen; omega) hid ?_; intro w3 him3 ht3; have HS3 := Lib.hid (hSC.turn him3 ht3); clear him3 ht3)
      have k0 := cell_regrown HS3.out.hd1
      have hbx := (HS3.out.bx (n, x.obj) (by simp)).1
      have c0 := cell_regrown (cellAt hbx (o := 0) rfl)
      have c1 := cell_regrown (cellAt hbx (o := 1) rfl)
      have c2 := cell_regrown (cellAt hbx (o := 2) rfl)
      clear hbx hSC
      go_frame
      (refine wp_region_below_tail 8 (by kernel_rfl) (by kernel_rfl) ?_; simp only [List.take_succ_cons, List.take_zero, List.drop_succ_cons, List.drop_zero]; (repeat (go_big_quiet_step (fail))); refine wpQuiet_nil ?_; intro wqD hwq; have hbqD := below_of_class hwq; clear hwq)
      have HL := Lib.hid (ts_Lay (HS3.out.below hbqD) hid HNO.out hon HLEN.out)
      clear k0 c0 c1 c2
      go_wp2_with fail
      refine Calls.mono HL.out ?_
      rintro e w4 ⟨rfl, h4⟩
      have H4 := Lib.hid h4
      clear HL h4
      go_wp2_with fail
      go_end0
      exact ⟨rfl, lay_done H4.out⟩
  · have HNO : Hid (hasP (drpL (ptsT M) x.id) x.id = false) := Lib.hid (by rw [drpL_del]; exact has_del _ _)
    have HLEN : Hid ((drpL (ptsT M) x.id).length < 400) := Lib.hid (by rw [drpL_del, ← ptsT_del, ptsT_len]; exact hlen)
    go_enter Try.func88, Try.ntmps88
    go_wp2_with fail
    rw [← hWd, ← hn]
    clear hWd hn
    go_region_held3 (fun W' => W'.cell? ⟨t, 0, none⟩ = some (.map (some bm)) ∧ W'.cell? ⟨n, 0, none⟩ = some (.int .i64 x.id) ∧ (Instr.lookup 126 (.map (some bm)) (.int .i64 x.id) true).run Try.prog W' = .ok (.tuple #[.agg #[.int .i64 y0.id, .int .i64 y0.x, .int .i64 y0.y, .int .i64 y0.a.n, .string y0.a.t, .int .i64 y0.b.n, .string y0.b.t, .int .i64 y0.c.n, .string y0.c.t, .int .i64 y0.d.n, .string y0.d.t], .bool true]) W') (exact HLK.out _ (by (repeat (first | exact Below.refl _ _ | assumption | refine Below.alloc ?_ (by first | omega | (simp; done) | (simp; omega)) _ | refine Below.setCell ?_ (by first | omega | (simp; done) | (simp; omega)) _ | refine Below.drew ?_ | refine Below.draws ?_ _ | refine Below.via (by assumption) (by first | omega | (simp; done) | (simp; omega)) ?_)))) (fail)
    all_goals
      go_wp2_with fail
      obtain ⟨W1, hW1⟩ : ∃ W1, W1 = (W.alloc (.cells #[.int .i64 y0.id, .int .i64 y0.x, .int .i64 y0.y, .int .i64 y0.a.n, .string y0.a.t, .int .i64 y0.b.n, .string y0.b.t, .int .i64 y0.c.n, .string y0.c.t, .int .i64 y0.d.n, .string y0.d.t] 63)).drew := ⟨_, rfl⟩
      have HS1 : Hid (TS w F t bm q [(n, x.obj)] W1 (entT M) (ptsT M)) := Lib.hid (HS0.out.below (by rw [hW1]; exact ((Below.refl _ W).alloc (Nat.le_refl _) _).drew))
      rw [← hW1]
      clear hW1
      have k0 := cell_regrown HS1.out.hd1
      have hbx := (HS1.out.bx (n, x.obj) (by simp)).1
      have c0 := cell_regrown (cellAt hbx (o := 0) rfl)
      clear hbx
      (refine wp_region_below_tail 6 (by kernel_rfl) (by kernel_rfl) ?_; simp only [List.take_succ_cons, List.take_zero, List.drop_succ_cons, List.drop_zero]; (repeat (go_big_quiet_step (fail))); refine wpQuiet_nil ?_; intro wqB hwq; have hbqB := below_of_class hwq; clear hwq)
      have HD := Lib.hid (ts_Drop (HS1.out.below hbqB) hid)
      clear k0 c0
      go_wp2_with fail
      refine Calls.mono HD.out ?_
      rintro e w2 ⟨rfl, h2⟩
      have HS := Lib.hid h2
      clear HD h2
      have k0 := cell_regrown HS.out.hd0
      have hbx := (HS.out.bx (n, x.obj) (by simp)).1
      have c0 := cell_regrown (cellAt hbx (o := 0) rfl)
      have c1 := cell_regrown (cellAt hbx (o := 1) rfl)
      have c2 := cell_regrown (cellAt hbx (o := 2) rfl)
      have c3 := cell_regrown (cellAt hbx (o := 3) rfl)
      have c4 := cell_regrown (cellAt hbx (o := 4) rfl)
      have c5 := cell_regrown (cellAt hbx (o := 5) rfl)
      have c6 := cell_regrown (cellAt hbx (o := 6) rfl)
      have c7 := cell_regrown (cellAt hbx (o := 7) rfl)
      have c8 := cell_regrown (cellAt hbx (o := 8) rfl)
      have c9 := cell_regrown (cellAt hbx (o := 9) rfl)
      have c10 := cell_regrown (cellAt hbx (o := 10) rfl)
      clear hbx
      go_wp2_with fail
      (refine wp_region_below_tail 7 (by kernel_rfl) (by kernel_rfl) ?_; simp only [List.take_succ_cons, List.take_zero, List.drop_succ_cons, List.drop_zero]; (repeat (go_big_quiet_step (fail))); refine wpQuiet_nil ?_; intro wqC hwq; have hbqC := below_of_class hwq; clear hwq)
      have hSC := HS.out.below hbqC
      clear k0 c0 c1 c2 c3 c4 c5 c6 c7 c8 c9 c10
      go_wp2_with (at_mapUpdate; refine wpl_store _ rfl _ _ _ _ rfl 63 Try.underlying126 bm (entT M) x.id rfl rfl x.val rfl hSC.im (by rw [entT_len]; unfold maxLen; omega) hid ?_; intro w3 him3 ht3; have HS3 := Lib.hid (hSC.turn him3 ht3); clear him3 ht3)
      have k0 := cell_regrown HS3.out.hd1
      have hbx := (HS3.out.bx (n, x.obj) (by simp)).1
      have c0 := cell_regrown (cellAt hbx (o := 0) rfl)
      have c1 := cell_regrown (cellAt hbx (o := 1) rfl)
      have c2 := cell_regrown (cellAt hbx (o := 2) rfl)
      clear hbx hSC
      go_frame
      (refine wp_region_below_tail 8 (by kernel_rfl) (by kernel_rfl) ?_; simp only [List.take_succ_cons, List.take_zero, List.drop_succ_cons, List.drop_zero]; (repeat (go_big_quiet_step (fail))); refine wpQuiet_nil ?_; intro wqD hwq; have hbqD := below_of_class hwq; clear hwq)
      have HL := Lib.hid (ts_Lay (HS3.out.below hbqD) hid HNO.out hon HLEN.out)
      clear k0 c0 c1 c2
      go_wp2_with fail
      refine Calls.mono HL.out ?_
      rintro e w4 ⟨rfl, h4⟩
      have H4 := Lib.hid h4
      clear HL h4
      go_wp2_with fail
      go_end0
      exact ⟨rfl, lay_done2 H4.out⟩

/-- The box of an argument that is a thing, laid at once. -/
theorem Tbl.boxed {w : World} {t : Nat} {M : Ths} {F : List Nat} (h : Tbl w t M F) (x : Thg) : ∃ bm q, TS w F t bm q [(w.heap.size, x.obj)] (w.alloc (.cells #[.int .i64 x.id, .int .i64 x.x, .int .i64 x.y, .int .i64 x.a.n, .string x.a.t, .int .i64 x.b.n, .string x.b.t, .int .i64 x.c.n, .string x.c.t, .int .i64 x.d.n, .string x.d.t] 63)) (entT M) (ptsT M) := by
  obtain ⟨bm, q, hS⟩ := h.ts
  exact ⟨bm, q, hS.box (.cells #[.int .i64 x.id, .int .i64 x.x, .int .i64 x.y, .int .i64 x.a.n, .string x.a.t, .int .i64 x.b.n, .string x.b.t, .int .i64 x.c.n, .string x.c.t, .int .i64 x.d.n, .string x.d.t] 63) (O := x.obj) (heap_alloc_new _ _)⟩

theorem TblTo.after {w W W' : World} {t : Nat} {M' : Ths} {F : List Nat} (hb : Below w.heap.size w W) (hto : TblTo W t F M' W') : TblTo w t F M' W' := by
  obtain ⟨F', g1, g2, g3⟩ := hto
  exact ⟨F', g1, fun k hk => (g2 k hk).imp id (fun e => Nat.le_trans hb.size e), (Chg.of_below hb _).trans g3⟩

def tputC (M : Ths) (x : Thg) : Int := if thgB x = false ∨ hasT M x.id = true then 11 else if 200 ≤ M.length then 16 else 0
def tputT (M : Ths) (x : Thg) : Ths := if tputC M x = 0 then putT x M else M
def tsetC (M : Ths) (x : Thg) : Int := if thgB x = false then 11 else if hasT M x.id = false then 15 else 0
def tsetT (M : Ths) (x : Thg) : Ths := if tsetC M x = 0 then putT x M else M
theorem tputT_no {M : Ths} {x : Thg} (h : tputC M x ≠ 0) : tputT M x = M := if_neg h
theorem tputT_yes {M : Ths} {x : Thg} (h : tputC M x = 0) : tputT M x = putT x M := if_pos h
theorem tsetT_no {M : Ths} {x : Thg} (h : tsetC M x ≠ 0) : tsetT M x = M := if_neg h
theorem tsetT_yes {M : Ths} {x : Thg} (h : tsetC M x = 0) : tsetT M x = putT x M := if_pos h

theorem tput_ok {M : Ths} {x : Thg} (h : tputC M x = 0) : thgB x = true ∧ hasT M x.id = false ∧ M.length < 200 := by
  unfold tputC at h
  split at h
  · cases h
  · rename_i h1
    split at h
    · cases h
    · rename_i h2
      cases hb : thgB x <;> cases hh : hasT M x.id <;> simp_all
theorem tset_ok {M : Ths} {x : Thg} (h : tsetC M x = 0) : thgB x = true ∧ hasT M x.id = true := by
  unfold tsetC at h
  split at h
  · cases h
  · rename_i h1
    split at h
    · cases h
    · rename_i h2
      cases hb : thgB x <;> cases hh : hasT M x.id <;> simp_all
end Go.Proofs.Ytggeehmcjndlgaa
