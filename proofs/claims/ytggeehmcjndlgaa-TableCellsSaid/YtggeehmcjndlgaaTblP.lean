/-
  table.Table: Put, Set, Drop, Get, Len, New.
-/
import Derived.Test.YtggeehmcjndlgaaTblM
namespace Go.Proofs.Ytggeehmcjndlgaa
open Go Go.RowKit Go.Sort Go.Shelf
set_option linter.unusedVariables false
set_option linter.unusedSimpArgs false
set_option linter.unnecessarySimpa false

set_option maxHeartbeats 4000000 in
set_option maxRecDepth 100000 in
theorem table_Put (w : World) (t : Nat) (M : Ths) (F : List Nat) (x : Thg) (h : Tbl w t M F) (hid : (Lit.int .i64 x.id).wf = true) (hx : okT x) :
    Calls Try.prog 42 #[.pointer (some ⟨t, 0, none⟩), x.val] w fun e w' => e = .returned (.int .i64 (tputC M x)) ∧ TblTo w t F (tputT M x) w' := by
  obtain ⟨bm, q, hS0⟩ := h.boxed x
  obtain ⟨W, hWd⟩ : ∃ W, W = w.alloc (.cells #[.int .i64 x.id, .int .i64 x.x, .int .i64 x.y, .int .i64 x.a.n, .string x.a.t, .int .i64 x.b.n, .string x.b.t, .int .i64 x.c.n, .string x.c.t, .int .i64 x.d.n, .string x.d.t] 63) := ⟨_, rfl⟩
  rw [← hWd] at hS0
  obtain ⟨n, hn⟩ : ∃ n, n = w.heap.size := ⟨_, rfl⟩
  rw [← hn] at hS0
  have HS0 := Lib.hid hS0
  have hlM : M.length ≤ 400 := h.len
  have hlk : ∀ W', Below W.heap.size W W' → W'.cell? ⟨t, 0, none⟩ = some (.map (some bm)) ∧ W'.cell? ⟨n, 0, none⟩ = some (.int .i64 x.id) ∧ LooksT bm x.id (getT M x.id) (hasT M x.id) W' := fun W' hb =>
    have h' := hS0.below hb
    ⟨h'.hd0, cellAt (h'.bx (n, x.obj) (by simp)).1 rfl, getT_run h'.im hid⟩
  generalize getT M x.id = y0 at hlk
  have HT := Lib.hid h
  have hWb : Below w.heap.size w W := by rw [hWd]; exact (Below.refl _ w).alloc (Nat.le_refl _) _
  have HWB := Lib.hid hWb
  have HIS := Lib.hid (fun W' => thing_Is x W' hx)
  clear hS0 h hWb
  unfold Thg.val at HIS
  unfold Thg.val
  unfold LooksT at hlk
  have HLK := Lib.hid hlk
  clear hlk
  cases hb : thgB x <;> rw [hb] at HIS
  · have hc : tputC M x = 11 := by unfold tputC; rw [if_pos (.inl hb)]
    rw [tputT_no (by rw [hc]; decide), hc]
    cases hh : hasT M x.id <;> rw [hh] at HLK
    all_goals
      go_enter Try.func42, Try.ntmps42
      go_wp2_with fail
      rw [← hWd, ← hn]
      clear hWd hn
      first
        | go_region_held3 (fun W' => W'.cell? ⟨t, 0, none⟩ = some (.map (some bm)) ∧ W'.cell? ⟨n, 0, none⟩ = some (.int .i64 x.id) ∧ (Instr.lookup 126 (.map (some bm)) (.int .i64 x.id) true).run Try.prog W' = .ok (.tuple #[.agg #[.int .i64 y0.id, .int .i64 y0.x, .int .i64 y0.y, .int .i64 y0.a.n, .string y0.a.t, .int .i64 y0.b.n, .string y0.b.t, .int .i64 y0.c.n, .string y0.c.t, .int .i64 y0.d.n, .string y0.d.t], .bool false]) W') (exact HLK.out _ (by (repeat (first | exact Below.refl _ _ | assumption | refine Below.alloc ?_ (by first | omega | (simp; done) | (simp; omega)) _ | refine Below.setCell ?_ (by first | omega | (simp; done) | (simp; omega)) _ | refine Below.drew ?_ | refine Below.draws ?_ _ | refine Below.via (by assumption) (by first | omega | (simp; done) | (simp; omega)) ?_)))) (fail)
        | go_region_held3 (fun W' => W'.cell? ⟨t, 0, none⟩ = some (.map (some bm)) ∧ W'.cell? ⟨n, 0, none⟩ = some (.int .i64 x.id) ∧ (Instr.lookup 126 (.map (some bm)) (.int .i64 x.id) true).run Try.prog W' = .ok (.tuple #[.agg #[.int .i64 y0.id, .int .i64 y0.x, .int .i64 y0.y, .int .i64 y0.a.n, .string y0.a.t, .int .i64 y0.b.n, .string y0.b.t, .int .i64 y0.c.n, .string y0.c.t, .int .i64 y0.d.n, .string y0.d.t], .bool true]) W') (exact HLK.out _ (by (repeat (first | exact Below.refl _ _ | assumption | refine Below.alloc ?_ (by first | omega | (simp; done) | (simp; omega)) _ | refine Below.setCell ?_ (by first | omega | (simp; done) | (simp; omega)) _ | refine Below.drew ?_ | refine Below.draws ?_ _ | refine Below.via (by assumption) (by first | omega | (simp; done) | (simp; omega)) ?_)))) (fail)
      all_goals
        obtain ⟨W1, hW1⟩ : ∃ W1, W1 = (W.alloc (.cells #[.int .i64 y0.id, .int .i64 y0.x, .int .i64 y0.y, .int .i64 y0.a.n, .string y0.a.t, .int .i64 y0.b.n, .string y0.b.t, .int .i64 y0.c.n, .string y0.c.t, .int .i64 y0.d.n, .string y0.d.t] 63)).drew := ⟨_, rfl⟩
        have hWB1 : Below W.heap.size W W1 := by rw [hW1]; exact ((Below.refl _ W).alloc (Nat.le_refl _) _).drew
        rw [← hW1]
        clear hW1
        have hbx := ((HS0.out.below hWB1).bx (n, x.obj) (by simp)).1
        have c0 := cellAt hbx (o := 0) rfl
        have c1 := cellAt hbx (o := 1) rfl
        have c2 := cellAt hbx (o := 2) rfl
        have c3 := cellAt hbx (o := 3) rfl
        have c4 := cellAt hbx (o := 4) rfl
        have c5 := cellAt hbx (o := 5) rfl
        have c6 := cellAt hbx (o := 6) rfl
        have c7 := cellAt hbx (o := 7) rfl
        have c8 := cellAt hbx (o := 8) rfl
        have c9 := cellAt hbx (o := 9) rfl
        have c10 := cellAt hbx (o := 10) rfl
        clear hbx
        go_wp2_with fail
        refine Calls.mono (HIS.out _) ?_
        rintro e w2 ⟨rfl, hb2⟩
        have hB := hb2.via (Nat.le_trans HWB.out.size hWB1.size) (hWB1.via HWB.out.size HWB.out)
        go_wp2_with fail
        go_ret
        exact ⟨rfl, TblTo.of_below HT.out hB⟩
  · cases hh : hasT M x.id <;> rw [hh] at HLK
    rotate_left
    · have hc : tputC M x = 11 := by unfold tputC; rw [if_pos (.inr hh)]
      rw [tputT_no (by rw [hc]; decide), hc]
      go_enter Try.func42, Try.ntmps42
      go_wp2_with fail
      rw [← hWd, ← hn]
      clear hWd hn
      go_region_held3 (fun W' => W'.cell? ⟨t, 0, none⟩ = some (.map (some bm)) ∧ W'.cell? ⟨n, 0, none⟩ = some (.int .i64 x.id) ∧ (Instr.lookup 126 (.map (some bm)) (.int .i64 x.id) true).run Try.prog W' = .ok (.tuple #[.agg #[.int .i64 y0.id, .int .i64 y0.x, .int .i64 y0.y, .int .i64 y0.a.n, .string y0.a.t, .int .i64 y0.b.n, .string y0.b.t, .int .i64 y0.c.n, .string y0.c.t, .int .i64 y0.d.n, .string y0.d.t], .bool true]) W') (exact HLK.out _ (by (repeat (first | exact Below.refl _ _ | assumption | refine Below.alloc ?_ (by first | omega | (simp; done) | (simp; omega)) _ | refine Below.setCell ?_ (by first | omega | (simp; done) | (simp; omega)) _ | refine Below.drew ?_ | refine Below.draws ?_ _ | refine Below.via (by assumption) (by first | omega | (simp; done) | (simp; omega)) ?_)))) (fail)
      all_goals
        obtain ⟨W1, hW1⟩ : ∃ W1, W1 = (W.alloc (.cells #[.int .i64 y0.id, .int .i64 y0.x, .int .i64 y0.y, .int .i64 y0.a.n, .string y0.a.t, .int .i64 y0.b.n, .string y0.b.t, .int .i64 y0.c.n, .string y0.c.t, .int .i64 y0.d.n, .string y0.d.t] 63)).drew := ⟨_, rfl⟩
        have hWB1 : Below W.heap.size W W1 := by rw [hW1]; exact ((Below.refl _ W).alloc (Nat.le_refl _) _).drew
        rw [← hW1]
        clear hW1
        have hbx := ((HS0.out.below hWB1).bx (n, x.obj) (by simp)).1
        have c0 := cellAt hbx (o := 0) rfl
        have c1 := cellAt hbx (o := 1) rfl
        have c2 := cellAt hbx (o := 2) rfl
        have c3 := cellAt hbx (o := 3) rfl
        have c4 := cellAt hbx (o := 4) rfl
        have c5 := cellAt hbx (o := 5) rfl
        have c6 := cellAt hbx (o := 6) rfl
        have c7 := cellAt hbx (o := 7) rfl
        have c8 := cellAt hbx (o := 8) rfl
        have c9 := cellAt hbx (o := 9) rfl
        have c10 := cellAt hbx (o := 10) rfl
        clear hbx
        go_wp2_with fail
        refine Calls.mono (HIS.out _) ?_
        rintro e w2 ⟨rfl, hb2⟩
        have hB := hb2.via (Nat.le_trans HWB.out.size hWB1.size) (hWB1.via HWB.out.size HWB.out)
        go_wp2_with fail
        go_ret
        exact ⟨rfl, TblTo.of_below HT.out hB⟩
    · have hon : onB x.x x.y = true := (thgB_iff.1 hb).2.2.1
      have HON := Lib.hid hon
      clear hon
      by_cases hfull : 200 ≤ M.length
      · have hc : tputC M x = 16 := by unfold tputC; rw [if_neg (by rw [hb, hh]; simp), if_pos hfull]
        have hfull' : 200 ≤ (M.length : Int) := by omega
        rw [tputT_no (by rw [hc]; decide), hc]
        go_enter Try.func42, Try.ntmps42
        go_wp2_with fail
        rw [← hWd, ← hn]
        clear hWd hn
        go_region_held3 (fun W' => W'.cell? ⟨t, 0, none⟩ = some (.map (some bm)) ∧ W'.cell? ⟨n, 0, none⟩ = some (.int .i64 x.id) ∧ (Instr.lookup 126 (.map (some bm)) (.int .i64 x.id) true).run Try.prog W' = .ok (.tuple #[.agg #[.int .i64 y0.id, .int .i64 y0.x, .int .i64 y0.y, .int .i64 y0.a.n, .string y0.a.t, .int .i64 y0.b.n, .string y0.b.t, .int .i64 y0.c.n, .string y0.c.t, .int .i64 y0.d.n, .string y0.d.t], .bool false]) W') (exact HLK.out _ (by (repeat (first | exact Below.refl _ _ | assumption | refine Below.alloc ?_ (by first | omega | (simp; done) | (simp; omega)) _ | refine Below.setCell ?_ (by first | omega | (simp; done) | (simp; omega)) _ | refine Below.drew ?_ | refine Below.draws ?_ _ | refine Below.via (by assumption) (by first | omega | (simp; done) | (simp; omega)) ?_)))) (fail)
        all_goals
          obtain ⟨W1, hW1⟩ : ∃ W1, W1 = (W.alloc (.cells #[.int .i64 y0.id, .int .i64 y0.x, .int .i64 y0.y, .int .i64 y0.a.n, .string y0.a.t, .int .i64 y0.b.n, .string y0.b.t, .int .i64 y0.c.n, .string y0.c.t, .int .i64 y0.d.n, .string y0.d.t] 63)).drew := ⟨_, rfl⟩
          have hWB1 : Below W.heap.size W W1 := by rw [hW1]; exact ((Below.refl _ W).alloc (Nat.le_refl _) _).drew
          rw [← hW1]
          clear hW1
          have hbx := ((HS0.out.below hWB1).bx (n, x.obj) (by simp)).1
          have c0 := cellAt hbx (o := 0) rfl
          have c1 := cellAt hbx (o := 1) rfl
          have c2 := cellAt hbx (o := 2) rfl
          have c3 := cellAt hbx (o := 3) rfl
          have c4 := cellAt hbx (o := 4) rfl
          have c5 := cellAt hbx (o := 5) rfl
          have c6 := cellAt hbx (o := 6) rfl
          have c7 := cellAt hbx (o := 7) rfl
          have c8 := cellAt hbx (o := 8) rfl
          have c9 := cellAt hbx (o := 9) rfl
          have c10 := cellAt hbx (o := 10) rfl
          clear hbx
          go_wp2_with fail
          refine Calls.mono (HIS.out _) ?_
          rintro e w2 ⟨rfl, hb2⟩
          have hB := hb2.via (Nat.le_trans HWB.out.size hWB1.size) (hWB1.via HWB.out.size HWB.out)
          have hS2 := (HS0.out.below hWB1).below hb2
          have k0 := hS2.hd0
          have him := hS2.im
          clear hS2
          go_wp2_with (at_len; refine wpl_lenT _ rfl _ rfl bm M rfl him ?_)
          go_ret
          exact ⟨rfl, TblTo.of_below HT.out hB⟩
      · have hc : tputC M x = 0 := by unfold tputC; rw [if_neg (by rw [hb, hh]; simp), if_neg hfull]
        have hfull' : (M.length : Int) < 200 := by omega
        have hfl : (delT x.id M).length < 400 := by have := delT_len x.id M; omega
        have HFL := Lib.hid hfl
        rw [tputT_yes hc, hc]
        clear hfl
        go_enter Try.func42, Try.ntmps42
        go_wp2_with fail
        rw [← hWd, ← hn]
        clear hWd hn
        go_region_held3 (fun W' => W'.cell? ⟨t, 0, none⟩ = some (.map (some bm)) ∧ W'.cell? ⟨n, 0, none⟩ = some (.int .i64 x.id) ∧ (Instr.lookup 126 (.map (some bm)) (.int .i64 x.id) true).run Try.prog W' = .ok (.tuple #[.agg #[.int .i64 y0.id, .int .i64 y0.x, .int .i64 y0.y, .int .i64 y0.a.n, .string y0.a.t, .int .i64 y0.b.n, .string y0.b.t, .int .i64 y0.c.n, .string y0.c.t, .int .i64 y0.d.n, .string y0.d.t], .bool false]) W') (exact HLK.out _ (by (repeat (first | exact Below.refl _ _ | assumption | refine Below.alloc ?_ (by first | omega | (simp; done) | (simp; omega)) _ | refine Below.setCell ?_ (by first | omega | (simp; done) | (simp; omega)) _ | refine Below.drew ?_ | refine Below.draws ?_ _ | refine Below.via (by assumption) (by first | omega | (simp; done) | (simp; omega)) ?_)))) (fail)
        all_goals
          obtain ⟨W1, hW1⟩ : ∃ W1, W1 = (W.alloc (.cells #[.int .i64 y0.id, .int .i64 y0.x, .int .i64 y0.y, .int .i64 y0.a.n, .string y0.a.t, .int .i64 y0.b.n, .string y0.b.t, .int .i64 y0.c.n, .string y0.c.t, .int .i64 y0.d.n, .string y0.d.t] 63)).drew := ⟨_, rfl⟩
          have hWB1 : Below W.heap.size W W1 := by rw [hW1]; exact ((Below.refl _ W).alloc (Nat.le_refl _) _).drew
          rw [← hW1]
          clear hW1
          have hbx := ((HS0.out.below hWB1).bx (n, x.obj) (by simp)).1
          have c0 := cellAt hbx (o := 0) rfl
          have c1 := cellAt hbx (o := 1) rfl
          have c2 := cellAt hbx (o := 2) rfl
          have c3 := cellAt hbx (o := 3) rfl
          have c4 := cellAt hbx (o := 4) rfl
          have c5 := cellAt hbx (o := 5) rfl
          have c6 := cellAt hbx (o := 6) rfl
          have c7 := cellAt hbx (o := 7) rfl
          have c8 := cellAt hbx (o := 8) rfl
          have c9 := cellAt hbx (o := 9) rfl
          have c10 := cellAt hbx (o := 10) rfl
          clear hbx
          go_wp2_with fail
          refine Calls.mono (HIS.out _) ?_
          rintro e w2 ⟨rfl, hb2⟩
          have hB := hb2.via (Nat.le_trans HWB.out.size hWB1.size) (hWB1.via HWB.out.size HWB.out)
          have hS2 := (HS0.out.below hWB1).below hb2
          have k0 := hS2.hd0
          have him := hS2.im
          have hbx := (hS2.bx (n, x.obj) (by simp)).1
          have c0 := cellAt hbx (o := 0) rfl
          have c1 := cellAt hbx (o := 1) rfl
          have c2 := cellAt hbx (o := 2) rfl
          have c3 := cellAt hbx (o := 3) rfl
          have c4 := cellAt hbx (o := 4) rfl
          have c5 := cellAt hbx (o := 5) rfl
          have c6 := cellAt hbx (o := 6) rfl
          have c7 := cellAt hbx (o := 7) rfl
          have c8 := cellAt hbx (o := 8) rfl
          have c9 := cellAt hbx (o := 9) rfl
          have c10 := cellAt hbx (o := 10) rfl
          have HL := Lib.hid (table_Lay w2 t M F x (HT.out.below hB) hid HON.out HFL.out)
          have HB := Lib.hid hB
          clear hS2 hbx hB hb2
          unfold Thg.val at HL
          go_wp2_with (at_len; refine wpl_lenT _ rfl _ rfl bm M rfl him ?_)
          refine Calls.mono HL.out ?_
          rintro e w3 ⟨rfl, h3⟩
          have H3 := Lib.hid h3
          clear h3 HL
          go_wp2_with fail
          go_ret
          exact ⟨rfl, TblTo.after HB.out H3.out⟩

set_option maxHeartbeats 4000000 in
set_option maxRecDepth 100000 in
theorem table_Set (w : World) (t : Nat) (M : Ths) (F : List Nat) (x : Thg) (h : Tbl w t M F) (hid : (Lit.int .i64 x.id).wf = true) (hx : okT x) (hlM : M.length ≤ 399) :
    Calls Try.prog 45 #[.pointer (some ⟨t, 0, none⟩), x.val] w fun e w' => e = .returned (.int .i64 (tsetC M x)) ∧ TblTo w t F (tsetT M x) w' := by
  obtain ⟨bm, q, hS0⟩ := h.boxed x
  obtain ⟨W, hWd⟩ : ∃ W, W = w.alloc (.cells #[.int .i64 x.id, .int .i64 x.x, .int .i64 x.y, .int .i64 x.a.n, .string x.a.t, .int .i64 x.b.n, .string x.b.t, .int .i64 x.c.n, .string x.c.t, .int .i64 x.d.n, .string x.d.t] 63) := ⟨_, rfl⟩
  rw [← hWd] at hS0
  obtain ⟨n, hn⟩ : ∃ n, n = w.heap.size := ⟨_, rfl⟩
  rw [← hn] at hS0
  have HS0 := Lib.hid hS0
  have hlk : ∀ W', Below W.heap.size W W' → W'.cell? ⟨t, 0, none⟩ = some (.map (some bm)) ∧ W'.cell? ⟨n, 0, none⟩ = some (.int .i64 x.id) ∧ LooksT bm x.id (getT M x.id) (hasT M x.id) W' := fun W' hb =>
    have h' := hS0.below hb
    ⟨h'.hd0, cellAt (h'.bx (n, x.obj) (by simp)).1 rfl, getT_run h'.im hid⟩
  generalize getT M x.id = y0 at hlk
  have HT := Lib.hid h
  have hWb : Below w.heap.size w W := by rw [hWd]; exact (Below.refl _ w).alloc (Nat.le_refl _) _
  have HWB := Lib.hid hWb
  have HIS := Lib.hid (fun W' => thing_Is x W' hx)
  clear hS0 h hWb
  unfold Thg.val at HIS
  unfold Thg.val
  unfold LooksT at hlk
  cases hb : thgB x <;> rw [hb] at HIS
  · have hc : tsetC M x = 11 := by unfold tsetC; rw [if_pos hb]
    rw [tsetT_no (by rw [hc]; decide), hc]
    go_enter Try.func45, Try.ntmps45
    go_wp2_with fail
    rw [← hWd]
    clear hWd hn
    refine Calls.mono (HIS.out _) ?_
    rintro e w2 ⟨rfl, hb2⟩
    have hB := hb2.via HWB.out.size HWB.out
    go_wp2_with fail
    go_ret
    exact ⟨rfl, TblTo.of_below HT.out hB⟩
  · have hon : onB x.x x.y = true := (thgB_iff.1 hb).2.2.1
    have HON := Lib.hid hon
    have hfl : (delT x.id M).length < 400 := by have := delT_len x.id M; omega
    have HFL := Lib.hid hfl
    clear hon hfl
    cases hh : hasT M x.id <;> rw [hh] at hlk
    · have hc : tsetC M x = 15 := by unfold tsetC; rw [if_neg (by rw [hb]; simp), if_pos hh]
      rw [tsetT_no (by rw [hc]; decide), hc]
      have HLK0 := Lib.hid hlk
      clear hlk
      go_enter Try.func45, Try.ntmps45
      go_wp2_with fail
      rw [← hWd, ← hn]
      clear hWd hn
      refine Calls.mono (HIS.out _) ?_
      rintro e w2 ⟨rfl, hb2⟩
      have hB := hb2.via HWB.out.size HWB.out
      have HLK : Hid (∀ W', Below w2.heap.size w2 W' → _) := Lib.hid (fun W' hb => HLK0.out W' (hb.via hb2.size hb2))
      go_wp2_with fail
      go_region_held3 (fun W' => W'.cell? ⟨t, 0, none⟩ = some (.map (some bm)) ∧ W'.cell? ⟨n, 0, none⟩ = some (.int .i64 x.id) ∧ (Instr.lookup 126 (.map (some bm)) (.int .i64 x.id) true).run Try.prog W' = .ok (.tuple #[.agg #[.int .i64 y0.id, .int .i64 y0.x, .int .i64 y0.y, .int .i64 y0.a.n, .string y0.a.t, .int .i64 y0.b.n, .string y0.b.t, .int .i64 y0.c.n, .string y0.c.t, .int .i64 y0.d.n, .string y0.d.t], .bool false]) W') (exact HLK.out _ (by (repeat (first | exact Below.refl _ _ | assumption | refine Below.alloc ?_ (by first | omega | (simp; done) | (simp; omega)) _ | refine Below.setCell ?_ (by first | omega | (simp; done) | (simp; omega)) _ | refine Below.drew ?_ | refine Below.draws ?_ _ | refine Below.via (by assumption) (by first | omega | (simp; done) | (simp; omega)) ?_)))) (fail)
      all_goals
        obtain ⟨W1, hW1⟩ : ∃ W1, W1 = (w2.alloc (.cells #[.int .i64 y0.id, .int .i64 y0.x, .int .i64 y0.y, .int .i64 y0.a.n, .string y0.a.t, .int .i64 y0.b.n, .string y0.b.t, .int .i64 y0.c.n, .string y0.c.t, .int .i64 y0.d.n, .string y0.d.t] 63)).drew := ⟨_, rfl⟩
        have hWB1 : Below w2.heap.size w2 W1 := by rw [hW1]; exact ((Below.refl _ w2).alloc (Nat.le_refl _) _).drew
        rw [← hW1]
        clear hW1
        go_wp2_with fail
        go_ret
        exact ⟨rfl, TblTo.of_below HT.out (hWB1.via hB.size hB)⟩
    · have hc : tsetC M x = 0 := by unfold tsetC; rw [if_neg (by rw [hb]; simp), if_neg (by rw [hh]; simp)]
      rw [tsetT_yes hc, hc]
      have HLK0 := Lib.hid hlk
      clear hlk
      go_enter Try.func45, Try.ntmps45
      go_wp2_with fail
      rw [← hWd, ← hn]
      clear hWd hn
      refine Calls.mono (HIS.out _) ?_
      rintro e w2 ⟨rfl, hb2⟩
      have hB := hb2.via HWB.out.size HWB.out
      have HLK : Hid (∀ W', Below w2.heap.size w2 W' → _) := Lib.hid (fun W' hb => HLK0.out W' (hb.via hb2.size hb2))
      go_wp2_with fail
      go_region_held3 (fun W' => W'.cell? ⟨t, 0, none⟩ = some (.map (some bm)) ∧ W'.cell? ⟨n, 0, none⟩ = some (.int .i64 x.id) ∧ (Instr.lookup 126 (.map (some bm)) (.int .i64 x.id) true).run Try.prog W' = .ok (.tuple #[.agg #[.int .i64 y0.id, .int .i64 y0.x, .int .i64 y0.y, .int .i64 y0.a.n, .string y0.a.t, .int .i64 y0.b.n, .string y0.b.t, .int .i64 y0.c.n, .string y0.c.t, .int .i64 y0.d.n, .string y0.d.t], .bool true]) W') (exact HLK.out _ (by (repeat (first | exact Below.refl _ _ | assumption | refine Below.alloc ?_ (by first | omega | (simp; done) | (simp; omega)) _ | refine Below.setCell ?_ (by first | omega | (simp; done) | (simp; omega)) _ | refine Below.drew ?_ | refine Below.draws ?_ _ | refine Below.via (by assumption) (by first | omega | (simp; done) | (simp; omega)) ?_)))) (fail)
      all_goals
        obtain ⟨W1, hW1⟩ : ∃ W1, W1 = (w2.alloc (.cells #[.int .i64 y0.id, .int .i64 y0.x, .int .i64 y0.y, .int .i64 y0.a.n, .string y0.a.t, .int .i64 y0.b.n, .string y0.b.t, .int .i64 y0.c.n, .string y0.c.t, .int .i64 y0.d.n, .string y0.d.t] 63)).drew := ⟨_, rfl⟩
        have hWB1 : Below w2.heap.size w2 W1 := by rw [hW1]; exact ((Below.refl _ w2).alloc (Nat.le_refl _) _).drew
        rw [← hW1]
        clear hW1
        have hB1 := hWB1.via hB.size hB
        have hbx := (((HS0.out.below hb2).below hWB1).bx (n, x.obj) (by simp)).1
        have c0 := cellAt hbx (o := 0) rfl
        have c1 := cellAt hbx (o := 1) rfl
        have c2 := cellAt hbx (o := 2) rfl
        have c3 := cellAt hbx (o := 3) rfl
        have c4 := cellAt hbx (o := 4) rfl
        have c5 := cellAt hbx (o := 5) rfl
        have c6 := cellAt hbx (o := 6) rfl
        have c7 := cellAt hbx (o := 7) rfl
        have c8 := cellAt hbx (o := 8) rfl
        have c9 := cellAt hbx (o := 9) rfl
        have c10 := cellAt hbx (o := 10) rfl
        have HL := Lib.hid (table_Lay W1 t M F x (HT.out.below hB1) hid HON.out HFL.out)
        have HB := Lib.hid hB1
        clear hbx hB hb2 hB1 hWB1
        unfold Thg.val at HL
        go_wp2_with fail
        refine Calls.mono HL.out ?_
        rintro e w3 ⟨rfl, h3⟩
        have H3 := Lib.hid h3
        clear h3 HL
        go_wp2_with fail
        go_ret
        exact ⟨rfl, TblTo.after HB.out H3.out⟩

def tdropC (M : Ths) (id : Int) : Int := if hasT M id = false then 15 else 0
def tdropT (M : Ths) (id : Int) : Ths := delT id M

set_option maxHeartbeats 4000000 in
set_option maxRecDepth 100000 in
theorem table_Drop (w : World) (t : Nat) (M : Ths) (F : List Nat) (id : Int) (h : Tbl w t M F) (hid : (Lit.int .i64 id).wf = true) :
    Calls Try.prog 46 #[.pointer (some ⟨t, 0, none⟩), .int .i64 id] w fun e w' => e = .returned (.int .i64 (tdropC M id)) ∧ TblTo w t F (delT id M) w' := by
  obtain ⟨bm, q, hS0⟩ := h.ts
  have HS0 := Lib.hid hS0
  have HT := Lib.hid h
  have k0 := hS0.hd0
  have him := hS0.im
  clear hS0 h
  cases hh : hasT M id
  · have hc : tdropC M id = 15 := by unfold tdropC; rw [if_pos hh]
    rw [delT_none hh, hc]
    go_enter Try.func46, Try.ntmps46
    go_wp2_with (at_lookup; refine wpl_getT_ok _ rfl _ _ rfl bm M id rfl rfl him hid ?_; rw [hh]; generalize getT M id = y0)
    go_ret
    exact ⟨rfl, TblTo.of_below HT.out (by (repeat (first | exact Below.refl _ _ | assumption | refine Below.alloc ?_ (by first | omega | (simp; done) | (simp; omega)) _ | refine Below.setCell ?_ (by first | omega | (simp; done) | (simp; omega)) _ | refine Below.drew ?_ | refine Below.draws ?_ _ | refine Below.via (by assumption) (by first | omega | (simp; done) | (simp; omega)) ?_)))⟩
  · have hc : tdropC M id = 0 := by unfold tdropC; rw [if_neg (by rw [hh]; simp)]
    have HEQ : Hid (delE id (entT M) = entT (delT id M) ∧ drpL (ptsT M) id = ptsT (delT id M)) := Lib.hid ⟨(entT_del id M).symm, by rw [drpL_del, ptsT_del]⟩
    rw [hc]
    have HLK := Lib.hid (getT_run him hid)
    go_enter Try.func46, Try.ntmps46
    go_wp2_with (first
      | (at_lookup; refine wpl_getT_ok _ rfl _ _ rfl bm M id rfl rfl him hid ?_; rw [hh]; generalize getT M id = y0; have k0 := (HS0.out.below (W' := w.alloc (.cells #[.int .i64 y0.id, .int .i64 y0.x, .int .i64 y0.y, .int .i64 y0.a.n, .string y0.a.t, .int .i64 y0.b.n, .string y0.b.t, .int .i64 y0.c.n, .string y0.c.t, .int .i64 y0.d.n, .string y0.d.t] 63)) (by (repeat (first | exact Below.refl _ _ | assumption | refine Below.alloc ?_ (by first | omega | (simp; done) | (simp; omega)) _ | refine Below.setCell ?_ (by first | omega | (simp; done) | (simp; omega)) _ | refine Below.drew ?_ | refine Below.draws ?_ _ | refine Below.via (by assumption) (by first | omega | (simp; done) | (simp; omega)) ?_)))).hd0; have him1 := (HS0.out.below (W' := w.alloc (.cells #[.int .i64 y0.id, .int .i64 y0.x, .int .i64 y0.y, .int .i64 y0.a.n, .string y0.a.t, .int .i64 y0.b.n, .string y0.b.t, .int .i64 y0.c.n, .string y0.c.t, .int .i64 y0.d.n, .string y0.d.t] 63)) (by (repeat (first | exact Below.refl _ _ | assumption | refine Below.alloc ?_ (by first | omega | (simp; done) | (simp; omega)) _ | refine Below.setCell ?_ (by first | omega | (simp; done) | (simp; omega)) _ | refine Below.drew ?_ | refine Below.draws ?_ _ | refine Below.via (by assumption) (by first | omega | (simp; done) | (simp; omega)) ?_)))).im)
      | (at_delete; refine wpl_delete _ rfl _ _ _ rfl 63 Try.underlying126 bm (entT M) id rfl rfl him1 hid ?_; intro w3 him3 ht3; have hS3 := (HS0.out.below (W' := w.alloc (.cells #[.int .i64 y0.id, .int .i64 y0.x, .int .i64 y0.y, .int .i64 y0.a.n, .string y0.a.t, .int .i64 y0.b.n, .string y0.b.t, .int .i64 y0.c.n, .string y0.c.t, .int .i64 y0.d.n, .string y0.d.t] 63)) (by (repeat (first | exact Below.refl _ _ | assumption | refine Below.alloc ?_ (by first | omega | (simp; done) | (simp; omega)) _ | refine Below.setCell ?_ (by first | omega | (simp; done) | (simp; omega)) _ | refine Below.drew ?_ | refine Below.draws ?_ _ | refine Below.via (by assumption) (by first | omega | (simp; done) | (simp; omega)) ?_)))).turn him3 ht3; have k1 := hS3.hd1; have HS3 := Lib.hid hS3; clear him3 ht3 hS3))
    refine Calls.mono (ts_Drop HS3.out hid) ?_
    rintro e w4 ⟨rfl, h4⟩
    have H4 := Lib.hid h4
    clear h4
    go_wp2_with fail
    go_ret
    refine ⟨rfl, ?_⟩
    have h4 := H4.out
    rw [HEQ.out.1, HEQ.out.2] at h4
    exact h4.done

set_option maxHeartbeats 1000000 in
theorem table_Len (w : World) (t : Nat) (M : Ths) (F : List Nat) (h : Tbl w t M F) :
    Calls Try.prog 55 #[.pointer (some ⟨t, 0, none⟩)] w fun e w' => e = .returned (.int .i64 M.length) ∧ w' = w := by
  obtain ⟨bm, q, hS0⟩ := h.ts
  have k0 := hS0.hd0
  have him := hS0.im
  clear hS0 h
  go_enter Try.func55, Try.ntmps55
  go_wp2_with (at_len; refine wpl_lenT _ rfl _ rfl bm M rfl him ?_)
  go_ret
  exact ⟨rfl, rfl⟩

set_option maxHeartbeats 4000000 in
theorem table_Get (w : World) (t : Nat) (M : Ths) (F : List Nat) (id : Int) (h : Tbl w t M F) (hid : (Lit.int .i64 id).wf = true) :
    Calls Try.prog 54 #[.pointer (some ⟨t, 0, none⟩), .int .i64 id] w fun e w' => e = .returned (.tuple #[(getT M id).val, .bool (hasT M id)]) ∧ Below w.heap.size w w' := by
  obtain ⟨bm, q, hS0⟩ := h.ts
  have HS0 := Lib.hid hS0
  have k0 := (hS0.below (W' := w.alloc (.cells #[.int .i64 zeroT.id, .int .i64 zeroT.x, .int .i64 zeroT.y, .int .i64 zeroT.a.n, .string zeroT.a.t, .int .i64 zeroT.b.n, .string zeroT.b.t, .int .i64 zeroT.c.n, .string zeroT.c.t, .int .i64 zeroT.d.n, .string zeroT.d.t] 63)) (by (repeat (first | exact Below.refl _ _ | assumption | refine Below.alloc ?_ (by first | omega | (simp; done) | (simp; omega)) _ | refine Below.setCell ?_ (by first | omega | (simp; done) | (simp; omega)) _ | refine Below.drew ?_ | refine Below.draws ?_ _ | refine Below.via (by assumption) (by first | omega | (simp; done) | (simp; omega)) ?_)))).hd0
  have him := (hS0.below (W' := w.alloc (.cells #[.int .i64 zeroT.id, .int .i64 zeroT.x, .int .i64 zeroT.y, .int .i64 zeroT.a.n, .string zeroT.a.t, .int .i64 zeroT.b.n, .string zeroT.b.t, .int .i64 zeroT.c.n, .string zeroT.c.t, .int .i64 zeroT.d.n, .string zeroT.d.t] 63)) (by (repeat (first | exact Below.refl _ _ | assumption | refine Below.alloc ?_ (by first | omega | (simp; done) | (simp; omega)) _ | refine Below.setCell ?_ (by first | omega | (simp; done) | (simp; omega)) _ | refine Below.drew ?_ | refine Below.draws ?_ _ | refine Below.via (by assumption) (by first | omega | (simp; done) | (simp; omega)) ?_)))).im
  simp only [zeroT, zeroF] at k0 him
  clear hS0 h
  unfold Thg.val
  generalize hy : getT M id = y0
  generalize hz : hasT M id = z0
  go_enter Try.func54, Try.ntmps54
  go_wp2_with (at_lookup; refine wpl_getT_ok _ rfl _ _ rfl bm M id rfl rfl him hid ?_; rw [hy, hz])
  exact bodyPost_ret (v := .tuple #[.agg #[.int .i64 y0.id, .int .i64 y0.x, .int .i64 y0.y, .int .i64 y0.a.n, .string y0.a.t, .int .i64 y0.b.n, .string y0.b.t, .int .i64 y0.c.n, .string y0.c.t, .int .i64 y0.d.n, .string y0.d.t], .bool z0]) (by simp [results, Try.results54, go_sem]) rfl ⟨rfl, (by (repeat (first | exact Below.refl _ _ | assumption | refine Below.alloc ?_ (by first | omega | (simp; done) | (simp; omega)) _ | refine Below.setCell ?_ (by first | omega | (simp; done) | (simp; omega)) _ | refine Below.drew ?_ | refine Below.draws ?_ _ | refine Below.via (by assumption) (by first | omega | (simp; done) | (simp; omega)) ?_)))⟩

set_option maxHeartbeats 2000000 in
theorem table_New (w : World) : Calls Try.prog 38 #[] w fun e w' => ∃ t F, e = .returned (.pointer (some ⟨t, 0, none⟩)) ∧ Tbl w' t [] F ∧ Below w.heap.size w w' ∧ ∀ k ∈ F, w.heap.size ≤ k := by
  have hmm := @run_makeMap Try.prog
  go_enter Try.func38, Try.ntmps38
  go_wp2_with fail
  refine Calls.mono (quad_New _) ?_
  rintro e w1 ⟨q, Fq, rfl, hT, hb, hF⟩
  have him := (IMap.made w).below hb
  have hbW : Below w.heap.size w w1 := (by (repeat (first | exact Below.refl _ _ | assumption | refine Below.alloc ?_ (by first | omega | (simp; done) | (simp; omega)) _ | refine Below.setCell ?_ (by first | omega | (simp; done) | (simp; omega)) _ | refine Below.drew ?_ | refine Below.draws ?_ _ | refine Below.via (by assumption) (by first | omega | (simp; done) | (simp; omega)) ?_)))
  have HF := Lib.hid hF
  clear hF
  go_wp2_with fail
  go_ret
  refine ⟨w1.heap.size, w1.heap.size :: w.heap.size :: Fq, rfl, ⟨w.heap.size, q, Fq, heap_alloc_new w1 _, him.alloc _, hT.below ((Below.refl _ _).alloc (Nat.le_refl _) _), rfl, ?_, ?_, ?_⟩, hbW.alloc hbW.size _, ?_⟩
  · have := him.lt; omega
  · exact fun e => Nat.lt_irrefl _ (hT.lt _ e)
  · exact fun e => by have := HF.out _ e; simp at this; omega
  · intro k hk
    simp only [List.mem_cons] at hk
    rcases hk with rfl | rfl | hk
    · exact hbW.size
    · exact Nat.le_refl _
    · have := HF.out _ hk; simp at this; omega
end Go.Proofs.Ytggeehmcjndlgaa
