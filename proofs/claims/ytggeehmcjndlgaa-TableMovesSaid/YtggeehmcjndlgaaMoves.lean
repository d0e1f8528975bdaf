/-
  TableMoves: the walk.
-/
import Derived.Test.YtggeehmcjndlgaaFullPlain
import Derived.Test.YtggeehmcjndlgaaKnown9
import Derived.Test.YtggeehmcjndlgaaIn
import Derived.Test.YtggeehmcjndlgaaSqRem
namespace Go.Proofs.Ytggeehmcjndlgaa
open Go Go.RowKit Go.Sort Go.Shelf
set_option linter.unusedVariables false
set_option linter.unusedSimpArgs false
set_option linter.unnecessarySimpa false

def mk9 (k x y : Int) : Thg := ⟨k, x, y, zeroF, zeroF, zeroF, zeroF⟩
theorem mk9_cells {w : World} {n : Nat} {k x y : Int} (h : w.heap[n]? = some (mk9 k x y).obj) : w.cell? ⟨n, 0, none⟩ = some (.int .i64 k) ∧ w.cell? ⟨n, 1, none⟩ = some (.int .i64 x) ∧ w.cell? ⟨n, 2, none⟩ = some (.int .i64 y) ∧ w.cell? ⟨n, 3, none⟩ = some (.int .i64 0) ∧ w.cell? ⟨n, 4, none⟩ = some (.string ⟨#[]⟩) ∧ w.cell? ⟨n, 5, none⟩ = some (.int .i64 0) ∧ w.cell? ⟨n, 6, none⟩ = some (.string ⟨#[]⟩) ∧ w.cell? ⟨n, 7, none⟩ = some (.int .i64 0) ∧ w.cell? ⟨n, 8, none⟩ = some (.string ⟨#[]⟩) ∧ w.cell? ⟨n, 9, none⟩ = some (.int .i64 0) ∧ w.cell? ⟨n, 10, none⟩ = some (.string ⟨#[]⟩) :=
  ⟨cellAt h rfl, cellAt h rfl, cellAt h rfl, cellAt h rfl, cellAt h rfl, cellAt h rfl, cellAt h rfl, cellAt h rfl, cellAt h rfl, cellAt h rfl, cellAt h rfl⟩
theorem mk9_free {w : World} {n : Nat} {k x y : Int} (h : w.heap[n]? = some (mk9 k x y).obj) (i : Nat) : w.frozen? ⟨n, i, none⟩ = false := freeAt (o := i) h
theorem mk9_set {w : World} {n : Nat} {k x y : Int} (h : w.heap[n]? = some (mk9 k x y).obj) (x' y' : Int) : ((w.setCell ⟨n, 1, none⟩ (.int .i64 x')).setCell ⟨n, 2, none⟩ (.int .i64 y')).heap[n]? = some (mk9 k x' y').obj :=
  set_cell_block (set_cell_block h _) _
theorem chg_set2 {w : World} {n : Nat} {x' y' : Int} : Chg (· = n) w ((w.setCell ⟨n, 1, none⟩ (.int .i64 x')).setCell ⟨n, 2, none⟩ (.int .i64 y')) :=
  (Chg.setCell (· = n) _ _ _ (fun _ => rfl)).trans (Chg.setCell (· = n) _ _ _ (fun _ => rfl))
theorem onB_iff {x y : Int} : onB x y = true ↔ 0 ≤ x ∧ x < 64 ∧ 0 ≤ y ∧ y < 64 := by unfold onB; simp
theorem mk9_putC {k : Int} (h : 0 ≤ k) (h' : k ≤ 255) : tputC [] (mk9 k 0 0) = 0 := by
  unfold tputC
  rw [if_neg, if_neg (by decide)]
  rintro (e | e)
  · have : thgB (mk9 k 0 0) = true := thgB_z h (by omega) (by decide) (by decide) (by decide) (by decide)
    rw [this] at e; cases e
  · cases e
theorem mk9_putT {k : Int} (h : 0 ≤ k) (h' : k ≤ 255) : tputT [] (mk9 k 0 0) = [mk9 k 0 0] := by rw [tputT_yes (mk9_putC h h')]; rfl
theorem mk9_has {k x y : Int} : hasT [mk9 k x y] k = true := hasT_iff.2 ⟨mk9 k x y, by simp, rfl⟩
theorem mk9_thg {k x y : Int} (h : 0 ≤ k) (h' : k ≤ 255) : thgB (mk9 k x y) = onB x y := by
  cases hb : onB x y
  · cases ht : thgB (mk9 k x y)
    · rfl
    · have := (thgB_iff.1 ht).2.2.1
      rw [show (mk9 k x y).x = x from rfl, show (mk9 k x y).y = y from rfl, hb] at this; cases this
  · obtain ⟨h1, h2, h3, h4⟩ := onB_iff.1 hb
    exact thgB_z h (by omega) h1 h2 h3 h4
theorem mk9_setC {k x y x' y' : Int} (h : 0 ≤ k) (h' : k ≤ 255) : tsetC [mk9 k x y] (mk9 k x' y') = if onB x' y' = true then 0 else 11 := by
  unfold tsetC
  rw [mk9_thg h h', show (mk9 k x' y').id = k from rfl, mk9_has]
  cases onB x' y' <;> simp
theorem mk9_setT {k x y x' y' : Int} (h : 0 ≤ k) (h' : k ≤ 255) (hon : onB x' y' = true) : tsetT [mk9 k x y] (mk9 k x' y') = [mk9 k x' y'] := by
  rw [tsetT_yes (by rw [mk9_setC h h', if_pos hon])]
  unfold putT
  have : delT (mk9 k x' y').id [mk9 k x y] = [] := by simp [delT, mk9]
  rw [this]; rfl
theorem mk9_in {k x y : Int} : inT [mk9 k x y] ⟨x, y, x + 1, y + 1⟩ = [mk9 k x y] := by simp [inT, inB, mk9]; omega
theorem mk9_out {k x y x' y' : Int} (h : ¬ (x = x' ∧ y = y')) : inT [mk9 k x y] ⟨x', y', x' + 1, y' + 1⟩ = [] := by simp [inT, inB, mk9]; omega

set_option maxHeartbeats 8000000 in
set_option maxRecDepth 100000 in
theorem tableMoves_walk (w : World) (v : Value) (l : List (Int × Int)) (hr : InRow encPt 2 w v l) (k : Int) (hk : (Lit.int .u8 k).wf = true) :
    Calls Try.prog 8 #[v, .int .u8 k] w fun e w' => e = .returned (.bool true) ∧ Below w.heap.size w w' := by
  have hk0 : 0 ≤ k ∧ k ≤ 255 := by
    have e1 : IntKind.u8.min = 0 := rfl
    have e2 : IntKind.u8.max = 255 := rfl
    simp [Lit.wf, e1, e2] at hk
    omega
  obtain ⟨hk1, hk2⟩ := hk0
  obtain ⟨ao, cap, hv⟩ := hr.len
  subst hv
  have HR := Lib.hid hr
  clear hr hk
  go_enter Try.func8, Try.ntmps8
  go_wp2_with fail
  refine Calls.mono (law9_known _) ?_
  rintro e w1 ⟨rfl, hb1⟩
  by_cases hlen : l.length ≤ 30
  rotate_left
  · have hlen' : 30 < (l.length : Int) := by omega
    go_wp2_with fail
    go_ret
    exact ⟨rfl, hb1⟩
  have hlen' : (l.length : Int) ≤ 30 := by omega
  go_wp2_with fail
  refine Calls.mono (tl_New (B := w.heap.size) (K := fun _ => False) (w0 := w) hb1 hb1.size (fun _ h => h.elim)) ?_
  rintro e w2 ⟨t, rfl, h2, _⟩
  clear hb1
  go_wp2_with fail
  obtain ⟨W2, hW2⟩ : ∃ W, W = w2.alloc (.cells #[.int .i64 k, .int .i64 0, .int .i64 0, .int .i64 0, .string ⟨#[]⟩, .int .i64 0, .string ⟨#[]⟩, .int .i64 0, .string ⟨#[]⟩, .int .i64 0, .string ⟨#[]⟩] 63) := ⟨_, rfl⟩
  obtain ⟨n, hn⟩ : ∃ n, n = w2.heap.size := ⟨_, rfl⟩
  rw [← hn, ← hW2]
  have hx2 : W2.heap[n]? = some (mk9 k 0 0).obj := by rw [hW2, hn]; exact heap_alloc_new _ _
  have h3 : TL t [] w.heap.size (· = n) w W2 := h2.more (tblF t _) (by rw [hW2]; exact (by (repeat (first | exact Below.refl _ _ | assumption | refine Below.alloc ?_ (by first | omega | (simp; done) | (simp; omega)) _ | refine Below.setCell ?_ (by first | omega | (simp; done) | (simp; omega)) _ | refine Below.drew ?_ | refine Below.draws ?_ _ | refine Below.via (by assumption) (by first | omega | (simp; done) | (simp; omega)) ?_)))) (fun k e => .inr ⟨by rw [e, hn]; exact Nat.le_refl _, by rw [e, hn, hW2]; simp⟩)
  have hnB : w.heap.size ≤ n := by rw [hn]; exact h2.size
  have HNB := Lib.hid hnB
  clear h2 hn hW2 hnB
  refine Calls.mono (tl_Put h3 (mk9 k 0 0) (wfI (by simp only [mk9]; omega) (by simp only [mk9]; omega)) okZ) ?_
  rintro e w3 ⟨rfl, h4, hk4⟩
  rw [mk9_putC hk1 hk2]
  rw [mk9_putT hk1 hk2] at h4
  have hx4 := hk4.heap hx2 (fun e => e.2 rfl)
  have H4 := Lib.hid h4
  have HX4 := Lib.hid hx4
  clear h3 hx2 hk4 h4 hx4
  go_wp2_with fail
  go_loopw [7, 8, 9, 10, 11] (fun i _ _ _ _ wl => ∃ (j : Nat) (x y : Int), j ≤ l.length ∧ i = .int .i64 j ∧ onB x y = true ∧ wl.heap[n]? = some (mk9 k x y).obj ∧ TL t [mk9 k x y] w.heap.size (· = n) w wl) (fun i _ _ _ _ _ => l.length - (intOf i).toNat)
  case atStart => exact ⟨0, 0, 0, Nat.zero_le _, rfl, rfl, HX4.out, H4.out⟩
  case round =>
    clear H4 HX4
    obtain ⟨j, x, y, hj, rfl, hon, hbx, hT⟩ := hrel
    rcases Nat.lt_or_ge j l.length with hlt | hge
    · have hcur : l[j]? = some l[j] := List.getElem?_eq_getElem hlt
      obtain ⟨b, off, hao, hc⟩ := HR.out.cell rfl hcur
      subst hao
      generalize l[j] = p at *
      obtain ⟨g1, g2, g3, g4⟩ := onB_iff.1 hon
      obtain ⟨W5, hW5⟩ : ∃ W, W = wr.alloc (.cells #[.int .i64 x, .int .i64 y] 31) := ⟨_, rfl⟩
      obtain ⟨nw, hnw⟩ : ∃ m, m = wr.heap.size := ⟨_, rfl⟩
      have hb5 : Below wr.heap.size wr W5 := by rw [hW5]; exact (by (repeat (first | exact Below.refl _ _ | assumption | refine Below.alloc ?_ (by first | omega | (simp; done) | (simp; omega)) _ | refine Below.setCell ?_ (by first | omega | (simp; done) | (simp; omega)) _ | refine Below.drew ?_ | refine Below.draws ?_ _ | refine Below.via (by assumption) (by first | omega | (simp; done) | (simp; omega)) ?_)))
      have hB5 := hT.to.trans (hb5.mono hT.size)
      have d0 := (hB5.cell (p := ⟨b, off + j * 2, none⟩) (World.block_lt_of_cell? w _ (hc 0 _ rfl))).trans (hc 0 _ rfl)
      have d1 := (hB5.cell (p := ⟨b, off + j * 2 + 1, none⟩) (World.block_lt_of_cell? w _ (hc 1 _ rfl))).trans (hc 1 _ rfl)
      obtain ⟨_, e1, e2, _⟩ := mk9_cells hbx
      have hx5 := (hb5.block _ (lt_of_block hbx)).trans hbx
      have hw5 : W5.heap[nw]? = some (.cells #[.int .i64 x, .int .i64 y] 31 (0, 0)) := by rw [hW5, hnw]; exact heap_alloc_new _ _
      have hx6 := mk9_set hx5 p.1 p.2
      have hne : nw ≠ n := fun e => by have := lt_of_block hbx; omega
      have h5 : TL t [mk9 k x y] w.heap.size (fun m => m = n ∨ m = nw) w W5 := hT.more (tblF t _) hb5 (fun m e => e.elim .inl fun e => .inr ⟨by rw [e, hnw]; exact Nat.le_refl _, by rw [e, hnw, hW5]; simp⟩)
      have hnwB : w.heap.size ≤ nw := by rw [hnw]; exact hT.size
      have h6 : TL t [mk9 k x y] w.heap.size (fun m => m = n ∨ m = nw) w ((W5.setCell ⟨n, 1, none⟩ (.int .i64 p.1)).setCell ⟨n, 2, none⟩ (.int .i64 p.2)) := h5.keep (tblF t _) chg_set2 (fun m e => ⟨.inl e, by rw [e]; exact HNB.out⟩)
      have hw6 := (chg_set2 (w := W5) (n := n) (x' := p.1) (y' := p.2)).heap hw5 hne
      obtain ⟨W6, hW6⟩ : ∃ W, W = (W5.setCell ⟨n, 1, none⟩ (.int .i64 p.1)).setCell ⟨n, 2, none⟩ (.int .i64 p.2) := ⟨_, rfl⟩
      have f1 := mk9_free hx5 1
      have f2 := freeAt (o := 2) (set_cell_block (o := 1) hx5 (.int .i64 p.1))
      obtain ⟨q0, q1, q2, q3, q4, q5, q6, q7, q8, q9, q10⟩ := mk9_cells hx6
      obtain ⟨r0, r1, r2, r3, r4, r5, r6, r7, r8, r9, r10⟩ := mk9_cells hx5
      rw [← hW6] at h6 hx6 hw6
      have H6 := Lib.hid h6
      have HX6 := Lib.hid hx6
      have HW6 := Lib.hid hw6
      rw [hW5] at d0 d1 f1 f2 q0 q1 q2 q3 q4 q5 q6 q7 q8 q9 q10 r0 r1 r2 r3 r4 r5 r6 r7 r8 r9 r10
      clear hc hcur h5 h6 hx6 hw6 hw5 hx5 hbx hT hb5 hB5
      go_wp2_with fail
      rw [← hW5, ← hW6, ← hnw]
      clear hW5 hW6 hnw d0 d1 f1 f2 e1 e2 q0 q1 q2 q3 q4 q5 q6 q7 q8 q9 q10 r0 r1 r2 r3 r4 r5 r6 r7 r8 r9 r10
      refine Calls.mono (tl_Set H6.out (mk9 k p.1 p.2) (wfI (by simp only [mk9]; omega) (by simp only [mk9]; omega)) okZ (by simp)) ?_
      rintro e w7 ⟨rfl, h7, hk7⟩
      have hx7 := hk7.heap HX6.out (fun e => e.2 (.inl rfl))
      have hw7 := hk7.heap HW6.out (fun e => e.2 (.inr rfl))
      clear H6 HX6 HW6
      cases hop : onB p.1 p.2
      · rw [mk9_setC hk1 hk2, if_neg (by rw [hop]; decide)]
        rw [tsetT_no (by rw [mk9_setC hk1 hk2, if_neg (by rw [hop]; decide)]; decide)] at h7
        have hx8 := mk9_set hx7 x y
        have hw8 := (chg_set2 (w := w7) (n := n) (x' := x) (y' := y)).heap hw7 hne
        have h8 : TL t [mk9 k x y] w.heap.size (fun m => m = n ∨ m = nw) w ((w7.setCell ⟨n, 1, none⟩ (.int .i64 x)).setCell ⟨n, 2, none⟩ (.int .i64 y)) := h7.keep (tblF t _) chg_set2 (fun m e => ⟨.inl e, by rw [e]; exact HNB.out⟩)
        have f1 := mk9_free hx7 1
        have f2 := freeAt (o := 2) (set_cell_block (o := 1) hx7 (.int .i64 x))
        obtain ⟨_, y1, y2, _⟩ := mk9_cells hx7
        have u0 := cellAt hw7 (o := 0) rfl
        have u1 := cellAt hw7 (o := 1) rfl
        obtain ⟨W10, hW10⟩ : ∃ W, W = (((w7.setCell ⟨n, 1, none⟩ (.int .i64 x)).setCell ⟨n, 2, none⟩ (.int .i64 y)).alloc (.cells #[.int .i64 x, .int .i64 y, .int .i64 (x + 1), .int .i64 (y + 1)] 33)).alloc (.cells #[.int .i64 x, .int .i64 y, .int .i64 (x + 1), .int .i64 (y + 1)] 33) := ⟨_, rfl⟩
        have hb9 : Below (((w7.setCell ⟨n, 1, none⟩ (.int .i64 x)).setCell ⟨n, 2, none⟩ (.int .i64 y))).heap.size (((w7.setCell ⟨n, 1, none⟩ (.int .i64 x)).setCell ⟨n, 2, none⟩ (.int .i64 y))) (((w7.setCell ⟨n, 1, none⟩ (.int .i64 x)).setCell ⟨n, 2, none⟩ (.int .i64 y)).alloc (.cells #[.int .i64 x, .int .i64 y, .int .i64 (x + 1), .int .i64 (y + 1)] 33)) := (Below.refl _ _).alloc (Nat.le_refl _) _
        have hb10 : Below (((w7.setCell ⟨n, 1, none⟩ (.int .i64 x)).setCell ⟨n, 2, none⟩ (.int .i64 y))).heap.size (((w7.setCell ⟨n, 1, none⟩ (.int .i64 x)).setCell ⟨n, 2, none⟩ (.int .i64 y))) W10 := by rw [hW10]; exact hb9.alloc hb9.size _
        have hw9 := (hb9.block _ (lt_of_block hw8)).trans hw8
        have z0 := cellAt hw9 (o := 0) rfl
        have z1 := cellAt hw9 (o := 1) rfl
        have hx10 := (hb10.block _ (lt_of_block hx8)).trans hx8
        have hw10 := (hb10.block _ (lt_of_block hw8)).trans hw8
        have h10 := h8.below (tblF t _) hb10
        obtain ⟨_, s1, s2, _⟩ := mk9_cells hx8
        have ha10 : W10.heap[w7.heap.size]? = some (.cells #[.int .i64 x, .int .i64 y, .int .i64 (x + 1), .int .i64 (y + 1)] 33 (0, 0)) := by rw [hW10, Below.heap_alloc _ _ _ (by simp)]; simpa using heap_alloc_new (((w7.setCell ⟨n, 1, none⟩ (.int .i64 x)).setCell ⟨n, 2, none⟩ (.int .i64 y))) (.cells #[.int .i64 x, .int .i64 y, .int .i64 (x + 1), .int .i64 (y + 1)] 33)
        have hc10 : W10.heap[w7.heap.size + 1]? = some (.cells #[.int .i64 x, .int .i64 y, .int .i64 (x + 1), .int .i64 (y + 1)] 33 (0, 0)) := by rw [hW10]; simpa using heap_alloc_new (((w7.setCell ⟨n, 1, none⟩ (.int .i64 x)).setCell ⟨n, 2, none⟩ (.int .i64 y)).alloc (.cells #[.int .i64 x, .int .i64 y, .int .i64 (x + 1), .int .i64 (y + 1)] 33)) (.cells #[.int .i64 x, .int .i64 y, .int .i64 (x + 1), .int .i64 (y + 1)] 33)
        have a0 := cellAt ha10 (o := 0) rfl
        have a1 := cellAt ha10 (o := 1) rfl
        have a2 := cellAt ha10 (o := 2) rfl
        have a3 := cellAt ha10 (o := 3) rfl
        rw [hW10] at a0 a1 a2 a3
        clear h8 hx8 hw8 hw9 ha10 hb9 hb10 h7 hk7 hx7 hw7
        go_wp2_with fail
        rw [← hW10]
        obtain ⟨n2, hn2⟩ : ∃ m, m = w7.heap.size + 1 := ⟨_, rfl⟩
        obtain ⟨n1, hn1⟩ : ∃ m, m = w7.heap.size := ⟨_, rfl⟩
        rw [← hn2] at hc10
        rw [← hn2, ← hn1]
        clear hn1 hn2 hW10 a0 a1 a2 a3 z0 z1 s1 s2
        refine Calls.mono (tl_In h10 ⟨x, y, x + 1, y + 1⟩) ?_
        rintro e w11 ⟨v11, rfl, hr11, hb11⟩
        rw [mk9_in] at hr11
        obtain ⟨a11, c11, e11⟩ := hr11.reads.len
        subst e11
        have h11 := h10.below (tblF t _) hb11
        have hx11 := (hb11.block _ (lt_of_block hx10)).trans hx10
        have hw11 := (hb11.block _ (lt_of_block hw10)).trans hw10
        have hc11 := (hb11.block _ (lt_of_block hc10)).trans hc10
        obtain ⟨_, s1, s2, _⟩ := mk9_cells hx11
        have z0 := cellAt hw11 (o := 0) rfl
        have z1 := cellAt hw11 (o := 1) rfl
        have a0 := cellAt hc11 (o := 0) rfl
        have a1 := cellAt hc11 (o := 1) rfl
        have a2 := cellAt hc11 (o := 2) rfl
        have a3 := cellAt hc11 (o := 3) rfl
        clear h10 hx10 hw10 hc10 hr11 hb11 hw11 hc11
        go_wp2_with fail
        refine Calls.mono (tl_Len h11) ?_
        rintro e w13 ⟨rfl, rfl⟩
        go_wp2_with fail
        go_roundw
        case rel => exact ⟨j + 1, x, y, by omega, by go_num, hon, hx11, h11.less (fun _ e => .inl e)⟩
        case measure => simp [intOf]; omega
      · rw [mk9_setC hk1 hk2, if_pos hop]
        rw [mk9_setT hk1 hk2 hop] at h7
        obtain ⟨m1, m2, m3, m4⟩ := onB_iff.1 hop
        obtain ⟨px, py⟩ := p
        simp only at *
        by_cases hpx : px = x
        · subst hpx
          by_cases hpy : py = y
          · subst hpy
            have hx8 := hx7
            have hw8 := hw7
            have h8 := h7
            obtain ⟨W10, hW10⟩ : ∃ W, W = (w7.alloc (.cells #[.int .i64 px, .int .i64 py, .int .i64 (px + 1), .int .i64 (py + 1)] 33)).alloc (.cells #[.int .i64 px, .int .i64 py, .int .i64 (px + 1), .int .i64 (py + 1)] 33) := ⟨_, rfl⟩
            have hb9 : Below (w7).heap.size (w7) (w7.alloc (.cells #[.int .i64 px, .int .i64 py, .int .i64 (px + 1), .int .i64 (py + 1)] 33)) := (Below.refl _ _).alloc (Nat.le_refl _) _
            have hb10 : Below (w7).heap.size (w7) W10 := by rw [hW10]; exact hb9.alloc hb9.size _
            have hw9 := (hb9.block _ (lt_of_block hw8)).trans hw8
            have z0 := cellAt hw9 (o := 0) rfl
            have z1 := cellAt hw9 (o := 1) rfl
            have hx10 := (hb10.block _ (lt_of_block hx8)).trans hx8
            have hw10 := (hb10.block _ (lt_of_block hw8)).trans hw8
            have h10 := h8.below (tblF t _) hb10
            obtain ⟨_, s1, s2, _⟩ := mk9_cells hx8
            have ha10 : W10.heap[w7.heap.size]? = some (.cells #[.int .i64 px, .int .i64 py, .int .i64 (px + 1), .int .i64 (py + 1)] 33 (0, 0)) := by rw [hW10, Below.heap_alloc _ _ _ (by simp)]; simpa using heap_alloc_new (w7) (.cells #[.int .i64 px, .int .i64 py, .int .i64 (px + 1), .int .i64 (py + 1)] 33)
            have hc10 : W10.heap[w7.heap.size + 1]? = some (.cells #[.int .i64 px, .int .i64 py, .int .i64 (px + 1), .int .i64 (py + 1)] 33 (0, 0)) := by rw [hW10]; simpa using heap_alloc_new (w7.alloc (.cells #[.int .i64 px, .int .i64 py, .int .i64 (px + 1), .int .i64 (py + 1)] 33)) (.cells #[.int .i64 px, .int .i64 py, .int .i64 (px + 1), .int .i64 (py + 1)] 33)
            have a0 := cellAt ha10 (o := 0) rfl
            have a1 := cellAt ha10 (o := 1) rfl
            have a2 := cellAt ha10 (o := 2) rfl
            have a3 := cellAt ha10 (o := 3) rfl
            rw [hW10] at a0 a1 a2 a3
            clear h8 hx8 hw8 hw9 ha10 hb9 hb10 h7 hk7 hx7 hw7
            go_wp2_with fail
            rw [← hW10]
            obtain ⟨n2, hn2⟩ : ∃ m, m = w7.heap.size + 1 := ⟨_, rfl⟩
            obtain ⟨n1, hn1⟩ : ∃ m, m = w7.heap.size := ⟨_, rfl⟩
            rw [← hn2] at hc10
            rw [← hn2, ← hn1]
            clear hn1 hn2 hW10 a0 a1 a2 a3 z0 z1 s1 s2
            refine Calls.mono (tl_In h10 ⟨px, py, px + 1, py + 1⟩) ?_
            rintro e w11 ⟨v11, rfl, hr11, hb11⟩
            rw [mk9_in] at hr11
            obtain ⟨a11, c11, e11⟩ := hr11.reads.len
            subst e11
            have h11 := h10.below (tblF t _) hb11
            have hx11 := (hb11.block _ (lt_of_block hx10)).trans hx10
            have hw11 := (hb11.block _ (lt_of_block hw10)).trans hw10
            have hc11 := (hb11.block _ (lt_of_block hc10)).trans hc10
            obtain ⟨_, s1, s2, _⟩ := mk9_cells hx11
            have z0 := cellAt hw11 (o := 0) rfl
            have z1 := cellAt hw11 (o := 1) rfl
            have a0 := cellAt hc11 (o := 0) rfl
            have a1 := cellAt hc11 (o := 1) rfl
            have a2 := cellAt hc11 (o := 2) rfl
            have a3 := cellAt hc11 (o := 3) rfl
            clear h10 hx10 hw10 hc10 hr11 hb11 hw11 hc11
            go_wp2_with fail
            refine Calls.mono (tl_Len h11) ?_
            rintro e w13 ⟨rfl, rfl⟩
            go_wp2_with fail
            go_roundw
            case rel => exact ⟨j + 1, px, py, by omega, by go_num, hon, hx11, h11.less (fun _ e => .inl e)⟩
            case measure => simp [intOf]; omega
          · have hx8 := hx7
            have hw8 := hw7
            have h8 := h7
            obtain ⟨W10, hW10⟩ : ∃ W, W = (w7.alloc (.cells #[.int .i64 px, .int .i64 py, .int .i64 (px + 1), .int .i64 (py + 1)] 33)).alloc (.cells #[.int .i64 px, .int .i64 y, .int .i64 (px + 1), .int .i64 (y + 1)] 33) := ⟨_, rfl⟩
            have hb9 : Below (w7).heap.size (w7) (w7.alloc (.cells #[.int .i64 px, .int .i64 py, .int .i64 (px + 1), .int .i64 (py + 1)] 33)) := (Below.refl _ _).alloc (Nat.le_refl _) _
            have hb10 : Below (w7).heap.size (w7) W10 := by rw [hW10]; exact hb9.alloc hb9.size _
            have hw9 := (hb9.block _ (lt_of_block hw8)).trans hw8
            have z0 := cellAt hw9 (o := 0) rfl
            have z1 := cellAt hw9 (o := 1) rfl
            have hx10 := (hb10.block _ (lt_of_block hx8)).trans hx8
            have hw10 := (hb10.block _ (lt_of_block hw8)).trans hw8
            have h10 := h8.below (tblF t _) hb10
            obtain ⟨_, s1, s2, _⟩ := mk9_cells hx8
            have ha10 : W10.heap[w7.heap.size]? = some (.cells #[.int .i64 px, .int .i64 py, .int .i64 (px + 1), .int .i64 (py + 1)] 33 (0, 0)) := by rw [hW10, Below.heap_alloc _ _ _ (by simp)]; simpa using heap_alloc_new (w7) (.cells #[.int .i64 px, .int .i64 py, .int .i64 (px + 1), .int .i64 (py + 1)] 33)
            have hc10 : W10.heap[w7.heap.size + 1]? = some (.cells #[.int .i64 px, .int .i64 y, .int .i64 (px + 1), .int .i64 (y + 1)] 33 (0, 0)) := by rw [hW10]; simpa using heap_alloc_new (w7.alloc (.cells #[.int .i64 px, .int .i64 py, .int .i64 (px + 1), .int .i64 (py + 1)] 33)) (.cells #[.int .i64 px, .int .i64 y, .int .i64 (px + 1), .int .i64 (y + 1)] 33)
            have a0 := cellAt ha10 (o := 0) rfl
            have a1 := cellAt ha10 (o := 1) rfl
            have a2 := cellAt ha10 (o := 2) rfl
            have a3 := cellAt ha10 (o := 3) rfl
            rw [hW10] at a0 a1 a2 a3
            clear h8 hx8 hw8 hw9 ha10 hb9 hb10 h7 hk7 hx7 hw7
            go_wp2_with fail
            rw [← hW10]
            obtain ⟨n2, hn2⟩ : ∃ m, m = w7.heap.size + 1 := ⟨_, rfl⟩
            obtain ⟨n1, hn1⟩ : ∃ m, m = w7.heap.size := ⟨_, rfl⟩
            rw [← hn2] at hc10
            rw [← hn2, ← hn1]
            clear hn1 hn2 hW10 a0 a1 a2 a3 z0 z1 s1 s2
            refine Calls.mono (tl_In h10 ⟨px, py, px + 1, py + 1⟩) ?_
            rintro e w11 ⟨v11, rfl, hr11, hb11⟩
            rw [mk9_in] at hr11
            obtain ⟨a11, c11, e11⟩ := hr11.reads.len
            subst e11
            have h11 := h10.below (tblF t _) hb11
            have hx11 := (hb11.block _ (lt_of_block hx10)).trans hx10
            have hw11 := (hb11.block _ (lt_of_block hw10)).trans hw10
            have hc11 := (hb11.block _ (lt_of_block hc10)).trans hc10
            obtain ⟨_, s1, s2, _⟩ := mk9_cells hx11
            have z0 := cellAt hw11 (o := 0) rfl
            have z1 := cellAt hw11 (o := 1) rfl
            have a0 := cellAt hc11 (o := 0) rfl
            have a1 := cellAt hc11 (o := 1) rfl
            have a2 := cellAt hc11 (o := 2) rfl
            have a3 := cellAt hc11 (o := 3) rfl
            clear h10 hx10 hw10 hc10 hr11 hb11 hw11 hc11
            go_wp2_with fail
            refine Calls.mono (tl_In h11 ⟨px, y, px + 1, y + 1⟩) ?_
            rintro e w12 ⟨v12, rfl, hr12, hb12⟩
            rw [mk9_out (by omega)] at hr12
            obtain ⟨a12, c12, e12⟩ := hr12.reads.len
            subst e12
            have h12 := h11.below (tblF t _) hb12
            have hx12 := (hb12.block _ (lt_of_block hx11)).trans hx11
            clear h11 hx11 hr12 hb12 s1 s2 z0 z1 a0 a1 a2 a3
            go_wp2_with fail
            refine Calls.mono (tl_Len h12) ?_
            rintro e w13 ⟨rfl, rfl⟩
            go_wp2_with fail
            go_roundw
            case rel => exact ⟨j + 1, px, py, by omega, by go_num, hop, hx12, h12.less (fun _ e => .inl e)⟩
            case measure => simp [intOf]; omega
        · have hx8 := hx7
          have hw8 := hw7
          have h8 := h7
          obtain ⟨W10, hW10⟩ : ∃ W, W = (w7.alloc (.cells #[.int .i64 px, .int .i64 py, .int .i64 (px + 1), .int .i64 (py + 1)] 33)).alloc (.cells #[.int .i64 x, .int .i64 y, .int .i64 (x + 1), .int .i64 (y + 1)] 33) := ⟨_, rfl⟩
          have hb9 : Below (w7).heap.size (w7) (w7.alloc (.cells #[.int .i64 px, .int .i64 py, .int .i64 (px + 1), .int .i64 (py + 1)] 33)) := (Below.refl _ _).alloc (Nat.le_refl _) _
          have hb10 : Below (w7).heap.size (w7) W10 := by rw [hW10]; exact hb9.alloc hb9.size _
          have hw9 := (hb9.block _ (lt_of_block hw8)).trans hw8
          have z0 := cellAt hw9 (o := 0) rfl
          have z1 := cellAt hw9 (o := 1) rfl
          have hx10 := (hb10.block _ (lt_of_block hx8)).trans hx8
          have hw10 := (hb10.block _ (lt_of_block hw8)).trans hw8
          have h10 := h8.below (tblF t _) hb10
          obtain ⟨_, s1, s2, _⟩ := mk9_cells hx8
          have ha10 : W10.heap[w7.heap.size]? = some (.cells #[.int .i64 px, .int .i64 py, .int .i64 (px + 1), .int .i64 (py + 1)] 33 (0, 0)) := by rw [hW10, Below.heap_alloc _ _ _ (by simp)]; simpa using heap_alloc_new (w7) (.cells #[.int .i64 px, .int .i64 py, .int .i64 (px + 1), .int .i64 (py + 1)] 33)
          have hc10 : W10.heap[w7.heap.size + 1]? = some (.cells #[.int .i64 x, .int .i64 y, .int .i64 (x + 1), .int .i64 (y + 1)] 33 (0, 0)) := by rw [hW10]; simpa using heap_alloc_new (w7.alloc (.cells #[.int .i64 px, .int .i64 py, .int .i64 (px + 1), .int .i64 (py + 1)] 33)) (.cells #[.int .i64 x, .int .i64 y, .int .i64 (x + 1), .int .i64 (y + 1)] 33)
          have a0 := cellAt ha10 (o := 0) rfl
          have a1 := cellAt ha10 (o := 1) rfl
          have a2 := cellAt ha10 (o := 2) rfl
          have a3 := cellAt ha10 (o := 3) rfl
          rw [hW10] at a0 a1 a2 a3
          clear h8 hx8 hw8 hw9 ha10 hb9 hb10 h7 hk7 hx7 hw7
          go_wp2_with fail
          rw [← hW10]
          obtain ⟨n2, hn2⟩ : ∃ m, m = w7.heap.size + 1 := ⟨_, rfl⟩
          obtain ⟨n1, hn1⟩ : ∃ m, m = w7.heap.size := ⟨_, rfl⟩
          rw [← hn2] at hc10
          rw [← hn2, ← hn1]
          clear hn1 hn2 hW10 a0 a1 a2 a3 z0 z1 s1 s2
          refine Calls.mono (tl_In h10 ⟨px, py, px + 1, py + 1⟩) ?_
          rintro e w11 ⟨v11, rfl, hr11, hb11⟩
          rw [mk9_in] at hr11
          obtain ⟨a11, c11, e11⟩ := hr11.reads.len
          subst e11
          have h11 := h10.below (tblF t _) hb11
          have hx11 := (hb11.block _ (lt_of_block hx10)).trans hx10
          have hw11 := (hb11.block _ (lt_of_block hw10)).trans hw10
          have hc11 := (hb11.block _ (lt_of_block hc10)).trans hc10
          obtain ⟨_, s1, s2, _⟩ := mk9_cells hx11
          have z0 := cellAt hw11 (o := 0) rfl
          have z1 := cellAt hw11 (o := 1) rfl
          have a0 := cellAt hc11 (o := 0) rfl
          have a1 := cellAt hc11 (o := 1) rfl
          have a2 := cellAt hc11 (o := 2) rfl
          have a3 := cellAt hc11 (o := 3) rfl
          clear h10 hx10 hw10 hc10 hr11 hb11 hw11 hc11
          go_wp2_with fail
          refine Calls.mono (tl_In h11 ⟨x, y, x + 1, y + 1⟩) ?_
          rintro e w12 ⟨v12, rfl, hr12, hb12⟩
          rw [mk9_out (by omega)] at hr12
          obtain ⟨a12, c12, e12⟩ := hr12.reads.len
          subst e12
          have h12 := h11.below (tblF t _) hb12
          have hx12 := (hb12.block _ (lt_of_block hx11)).trans hx11
          clear h11 hx11 hr12 hb12 s1 s2 z0 z1 a0 a1 a2 a3
          go_wp2_with fail
          refine Calls.mono (tl_Len h12) ?_
          rintro e w13 ⟨rfl, rfl⟩
          go_wp2_with fail
          go_roundw
          case rel => exact ⟨j + 1, px, py, by omega, by go_num, hop, hx12, h12.less (fun _ e => .inl e)⟩
          case measure => simp [intOf]; omega
    · go_wp2_with fail
      go_ret
      exact ⟨rfl, hT.to⟩
end Go.Proofs.Ytggeehmcjndlgaa
