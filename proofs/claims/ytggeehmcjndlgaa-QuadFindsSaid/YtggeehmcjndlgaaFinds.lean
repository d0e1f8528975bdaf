/-
  QuadFinds: the walk.
-/
import Derived.Test.YtggeehmcjndlgaaKnown8
import Derived.Test.YtggeehmcjndlgaaFindsPlain
import Derived.Test.YtggeehmcjndlgaaMerges
namespace Go.Proofs.Ytggeehmcjndlgaa
open Go Go.RowKit Go.Sort Go.Shelf

abbrev K2 (n : Nat) : Nat → Prop := fun k => k = n ∨ k = n + 1
def seven (l : List (Int × Int)) (j : Nat) : Int × (Int × Int) := (7 * (j : Int), nthP l j)

theorem sum_take_le {α : Type} (f : α → Nat) (l : List α) (q : Nat) : ((l.take q).map f).sum ≤ (l.map f).sum := by
  have h : (l.map f).sum = ((l.take q).map f).sum + ((l.drop q).map f).sum := by
    rw [← List.sum_append, ← List.map_append, List.take_append_drop]
  omega
theorem run_mn4 (x y z u : Int) : ∃ m : Int, ∀ (ts : Array TypeId) (t : TypeId) (w : World), (Builtin.min_ ts t #[.int .i64 x, .int .i64 y, .int .i64 z, .int .i64 u]).run Try.prog w = .ok (.int .i64 m) w := by
  refine ⟨min (min (min x y) z) u, fun ts t w => ?_⟩
  simp [Builtin.min_, Builtin.min2]
  (repeat' split) <;> omega
theorem run_mx4 (x y z u : Int) : ∃ m : Int, ∀ (ts : Array TypeId) (t : TypeId) (w : World), (Builtin.max_ ts t #[.int .i64 x, .int .i64 y, .int .i64 z, .int .i64 u]).run Try.prog w = .ok (.int .i64 m) w := by
  refine ⟨max (max (max x y) z) u, fun ts t w => ?_⟩
  simp [Builtin.max_, Builtin.max2]
  (repeat' split) <;> omega

set_option maxHeartbeats 16000000 in
set_option maxRecDepth 100000 in
theorem quadFinds_walk (w : World) (v : Value) (l : List (Int × Int)) (hr : InRow encPt 2 w v l) (a b : R4) :
    Calls Try.prog 4 #[v, .agg #[.int .i64 a.x0, .int .i64 a.y0, .int .i64 a.x1, .int .i64 a.y1], .agg #[.int .i64 b.x0, .int .i64 b.y0, .int .i64 b.x1, .int .i64 b.y1]] w fun e w' => e = .returned (.bool true) ∧ Below w.heap.size w w' := by
  obtain ⟨ao, cap, hv⟩ := hr.len
  subst hv
  have HR := Lib.hid hr
  clear hr
  go_enter Try.func4, Try.ntmps4
  go_wp2_with fail
  refine Calls.mono (law8_known _) ?_
  rintro e w1 ⟨rfl, hb1⟩
  have hW1 : Below w.heap.size w w1 := (by (repeat (first | exact Below.refl _ _ | assumption | refine Below.alloc ?_ (by first | omega | (simp; done) | (simp; omega)) _ | refine Below.setCell ?_ (by first | omega | (simp; done) | (simp; omega)) _ | refine Below.drew ?_ | refine Below.draws ?_ _ | refine Below.via (by assumption) (by first | omega | (simp; done) | (simp; omega)) ?_)))
  have hx1 : w1.heap[w.heap.size]? = some (.cells #[.int .i64 a.x0, .int .i64 a.y0, .int .i64 a.x1, .int .i64 a.y1] 33 (0, 0)) := (hb1.block _ (by simp; omega)).trans ((Below.heap_alloc _ _ _ (by simp)).trans (heap_alloc_new w _))
  have hy1 : w1.heap[w.heap.size + 1]? = some (.cells #[.int .i64 b.x0, .int .i64 b.y0, .int .i64 b.x1, .int .i64 b.y1] 33 (0, 0)) := (hb1.block _ (by simp)).trans (by
    have := heap_alloc_new (w.alloc (.cells #[.int .i64 a.x0, .int .i64 a.y0, .int .i64 a.x1, .int .i64 a.y1] 33)) (.cells #[.int .i64 b.x0, .int .i64 b.y0, .int .i64 b.x1, .int .i64 b.y1] 33)
    simpa using this)
  clear hb1
  have hlt1 := lt_of_block hy1
  by_cases hlen : l.length ≤ 60
  rotate_left
  · have hlen' : 60 < (l.length : Int) := by omega
    go_wp2_with fail
    go_ret
    exact ⟨rfl, hW1⟩
  · have hlen' : (l.length : Int) ≤ 60 := by omega
    have hg : ∀ i j, i < j → (seven l i).1 < (seven l j).1 := fun i j h => by simp only [seven]; omega
    have hg0 : ∀ j, 0 ≤ (seven l j).1 := fun j => by simp only [seven]; omega
    have HG := Lib.hid hg
    have HG0 := Lib.hid hg0
    clear hg hg0
    go_wp2_with fail
    refine Calls.mono (lone_New (B := w.heap.size) (K := K2 w.heap.size) (w0 := w) hW1 hW1.size (fun k e => by rcases e with e | e <;> omega)) ?_
    rintro e w2 ⟨t, rfl, h2, hb2⟩
    have hx2 := (hb2.block _ (by omega)).trans hx1
    have hy2 := (hb2.block _ hlt1).trans hy1
    clear hb2 hx1 hy1 hW1 hlt1
    go_wp2_with fail
    go_loopw [8, 9, 10, 11] (fun n i _ _ wl => ∃ j : Nat, j ≤ l.length ∧ i = .int .i64 j ∧ n = .int .i64 (after (seven l) [] j).length ∧ Lone w.heap.size (K2 w.heap.size) w wl t (after (seven l) [] j) ∧ wl.heap[w.heap.size]? = some (.cells #[.int .i64 a.x0, .int .i64 a.y0, .int .i64 a.x1, .int .i64 a.y1] 33 (0, 0)) ∧ wl.heap[w.heap.size + 1]? = some (.cells #[.int .i64 b.x0, .int .i64 b.y0, .int .i64 b.x1, .int .i64 b.y1] 33 (0, 0)))
      (fun _ i _ _ _ => l.length - (intOf i).toNat)
    case atStart => exact ⟨0, Nat.zero_le _, rfl, rfl, h2, hx2, hy2⟩
    case round =>
      obtain ⟨j, hj, rfl, rfl, hL, hx, hy⟩ := hrel
      have hnlen := after_len (g := seven l) (L := []) j
      simp only [List.length_nil, Nat.zero_add] at hnlen
      rcases Nat.lt_or_ge j l.length with hlt | hge
      · obtain ⟨c, off, hbo, hc⟩ := HR.out.cell rfl (nthP_get hlt)
        subst hbo
        have c0 := hc 0 _ rfl
        have c1 := hc 1 _ rfl
        rw [Nat.add_zero] at c0
        have HC0 := Lib.hid c0
        have HC1 := Lib.hid c1
        have d0 := (hL.to.cell (p := ⟨c, off + j * 2, none⟩) (World.block_lt_of_cell? w _ c0)).trans c0
        have d1 := (hL.to.cell (p := ⟨c, off + j * 2 + 1, none⟩) (World.block_lt_of_cell? w _ c1)).trans c1
        obtain ⟨hlts, hon1, hon0⟩ := after_step (seven l) HG.out HG0.out j (by omega)
        have hput := lone_Put hL (id := 7 * (j : Int)) (px := (nthP l j).1) (py := (nthP l j).2) (wfI (by omega) (by omega))
        have HPUT := Lib.hid hput
        clear hput hc c0 c1
        have H1 := Lib.hid hon1
        have H0 := Lib.hid hon0
        clear hon1 hon0 hlts
        go_wp2_with fail
        refine Calls.mono HPUT.out ?_
        rintro e w3 ⟨rfl, h3, hk3⟩
        clear HPUT
        have d0 := (h3.to.cell (p := ⟨c, off + j * 2, none⟩) (World.block_lt_of_cell? w _ HC0.out)).trans HC0.out
        have d1 := (h3.to.cell (p := ⟨c, off + j * 2 + 1, none⟩) (World.block_lt_of_cell? w _ HC1.out)).trans HC1.out
        have hx3 := hk3.heap hx (fun e => e.2 (.inl rfl))
        have hy3 := hk3.heap hy (fun e => e.2 (.inr rfl))
        go_wp2_with fail
        refine Calls.mono (ref3_On _ _ _) ?_
        rintro e w4 ⟨rfl, hb4⟩
        have h4 := h3.below hb4
        have hx4 := (hb4.block _ (lt_of_block hx3)).trans hx3
        have hy4 := (hb4.block _ (lt_of_block hy3)).trans hy3
        cases hon : onB (nthP l j).1 (nthP l j).2
        · obtain ⟨hpc, haf⟩ := H0.out hon
          have hpc' : (putC (after (seven l) [] j) (7 * (j : Int)) (nthP l j) == 0) = false := beq_eq_false_iff_ne.2 hpc
          have h4' : Lone w.heap.size (K2 w.heap.size) w w4 t (after (seven l) [] (j + 1)) := h4
          go_wp2_with fail
          go_roundw
          case rel => exact ⟨j + 1, by omega, by go_num, by rw [haf], h4', hx4, hy4⟩
          case measure => simp [intOf]; omega
        · obtain ⟨hpc, haf⟩ := H1.out hon
          have hpc' : putC (after (seven l) [] j) (7 * (j : Int)) (nthP l j) = 0 := hpc
          have h4' : Lone w.heap.size (K2 w.heap.size) w w4 t (after (seven l) [] (j + 1)) := h4
          have hsev : seven l j = (7 * (j : Int), nthP l j) := rfl
          rw [haf, hsev] at h4'
          generalize hA : after (seven l) [] j = A at *
          clear hA h4 h3 hk3 hL hb4
          have d0 := (h4'.to.cell (p := ⟨c, off + j * 2, none⟩) (World.block_lt_of_cell? w _ HC0.out)).trans HC0.out
          have d1 := (h4'.to.cell (p := ⟨c, off + j * 2 + 1, none⟩) (World.block_lt_of_cell? w _ HC1.out)).trans HC1.out
          have q0 := cell_regrown d0
          have q1 := cell_regrown d1
          obtain ⟨px, hpx⟩ : ∃ px, px = (nthP l j).1 := ⟨_, rfl⟩
          obtain ⟨py, hpy⟩ : ∃ py, py = (nthP l j).2 := ⟨_, rfl⟩
          have hp : nthP l j = (px, py) := by rw [hpx, hpy]
          rw [hp] at h4' hon hpc' d0 d1 q0 q1 ⊢
          simp only at hon d0 d1 q0 q1
          have hon' := hon
          simp only [onB, decide_eq_true_eq] at hon'
          obtain ⟨p1, p2, p3, p4⟩ := hon'
          have haf2 : after (seven l) [] (j + 1) = A ++ [(7 * (j : Int), px, py)] := by rw [haf, hsev, hp]
          have HAF := Lib.hid haf2
          clear hpx hpy hp H1 H0 haf hsev hpc haf2
          go_wp2_with fail
          (refine wp_region_below_tail 24 (by kernel_rfl) (by kernel_rfl) ?_; simp only [List.take_succ_cons, List.take_zero, List.drop_succ_cons, List.drop_zero]; (repeat (go_big_quiet_step (fail))); refine wpQuiet_nil ?_; intro wqC hwq; have hbqC := below_of_class hwq; clear hwq)
          clear q0 q1
          have h5 := h4'.below hbqC
          have hx5 := (hbqC.block _ (lt_of_block hx4)).trans hx4
          have hy5 := (hbqC.block _ (lt_of_block hy4)).trans hy4
          have hIn := lone_In h5 ⟨px, py, px + 1, py + 1⟩
          rw [inL_last _ (by simp [inB]; omega)] at hIn
          have HI := Lib.hid hIn
          clear hIn
          go_wp2_with fail
          refine Calls.mono HI.out ?_
          rintro e w6 ⟨v6, rfl, hr6, _, hb6⟩
          clear HI
          have h6 := h5.below hb6
          have hx6 := (hb6.block _ (lt_of_block hx5)).trans hx5
          have hy6 := (hb6.block _ (lt_of_block hy5)).trans hy5
          obtain ⟨n, hn⟩ : ∃ n, n = (inL A ⟨px, py, px + 1, py + 1⟩).length := ⟨_, rfl⟩
          have hnl : n ≤ A.length := by rw [hn]; unfold inL; rw [List.length_map]; exact List.length_filter_le _ _
          have hln : (inL A ⟨px, py, px + 1, py + 1⟩ ++ [7 * (j : Int)]).length = n + 1 := by rw [hn]; simp
          obtain ⟨g6, c6, hv6⟩ := hr6.slicel (by simp)
          rw [hln] at hv6
          obtain ⟨b', off', hbo, hc⟩ := hr6.reads.cell (k := 1) (fun _ => rfl) hv6 (j := n) (x := 7 * (j : Int)) (by rw [hn]; simp)
          cases hbo
          have e6 := hc 0 _ rfl
          simp only [Nat.mul_one, Nat.zero_add, Nat.add_zero] at e6
          subst hv6
          clear hc hr6 hn hln
          go_wp2_with fail
          go_roundw
          case rel => exact ⟨j + 1, by omega, by go_num, by rw [HAF.out]; simp, by rw [HAF.out]; exact h6, hx6, hy6⟩
          case measure => simp [intOf]; omega
      · have hje : j = l.length := by omega
        subst hje
        obtain ⟨A, hA⟩ : ∃ A, A = after (seven l) [] l.length := ⟨_, rfl⟩
        rw [← hA] at hL hnlen ⊢
        clear hA hj hge
        obtain ⟨F, hF⟩ := hL.tree
        have hon := hF.on
        have hsrt := hF.srt
        clear hF
        have hIn := lone_In hL whole
        rw [inL_whole hon] at hIn
        have HI := Lib.hid hIn
        clear hIn hon
        go_wp2_with fail
        refine Calls.mono HI.out ?_
        rintro e w3 ⟨v3, rfl, hr3, _, hb3⟩
        clear HI
        have h3 := hL.below hb3
        have hx3 := (hb3.block _ (lt_of_block hx)).trans hx
        have hy3 := (hb3.block _ (lt_of_block hy)).trans hy
        obtain ⟨ao3, c3, hv3⟩ := hr3.reads.len
        have hml : (A.map (·.1)).length = A.length := by simp
        rw [hml] at hv3
        subst hv3
        have HR3 := Lib.hid hr3
        clear hr3 hml hL hx hy hb3
        have hlA : A.length ≤ 60 := by omega
        go_wp2_with fail
        go_loopw [13] (fun i wl => ∃ q : Nat, (q = 0 ∨ q + 1 ≤ A.length) ∧ i = .int .i64 ((q : Int) + 1) ∧ Below w3.heap.size w3 wl) (fun i _ => A.length + 1 - (intOf i).toNat)
        case atStart => exact ⟨0, .inl rfl, rfl, Below.refl _ _⟩
        case round =>
          obtain ⟨q, hq, rfl, hb⟩ := hrel
          rcases Nat.lt_or_ge (q + 1) A.length with hlt | hge
          · have hq1 : (A.map (·.1))[q]? = some (A[q].1) := by rw [List.getElem?_map, List.getElem?_eq_getElem (by omega)]; rfl
            have hq2 : (A.map (·.1))[q + 1]? = some (A[q + 1].1) := by rw [List.getElem?_map, List.getElem?_eq_getElem hlt]; rfl
            have hrise : A[q].1 < A[q + 1].1 := List.pairwise_iff_getElem.1 hsrt q (q + 1) (by omega) hlt (by omega)
            generalize A[q].1 = z1 at hq1 hrise
            generalize A[q + 1].1 = z2 at hq2 hrise
            obtain ⟨g1, o1, hb1, hc1⟩ := HR3.out.reads.cell (k := 1) (fun _ => rfl) rfl hq1
            subst hb1
            obtain ⟨g2, o2, hb2, hc2⟩ := HR3.out.reads.cell (k := 1) (fun _ => rfl) rfl hq2
            cases hb2
            have c1 := hc1 0 _ rfl
            have c2 := hc2 0 _ rfl
            simp only [Nat.mul_one, Nat.add_zero] at c1 c2
            have q1 := cell_regrown ((hb.cell (p := ⟨g1, o1 + q, none⟩) (World.block_lt_of_cell? w3 _ c1)).trans c1)
            have q2 := cell_regrown ((hb.cell (p := ⟨g1, o1 + (q + 1), none⟩) (World.block_lt_of_cell? w3 _ c2)).trans c2)
            clear hc1 hc2 c1 c2 hq1 hq2
            have hlt' : (q : Int) + 1 < A.length := by omega
            go_wp2_with fail
            (refine wp_region_quiet_below (by kernel_rfl) (by kernel_rfl) ?_; (repeat (go_big_quiet_step (fail))); refine wpQuiet_nil ?_; intro wqD hwq; have hbqD := below_of_class hwq; clear hwq)
            go_wp2_with fail
            go_roundw
            case rel => exact ⟨q + 1, .inr (by omega), by go_num, hbqD.via hb.size hb⟩
            case measure => simp [intOf]; omega
          · have hge' : ¬ ((q : Int) + 1 < A.length) := by omega
            have h4 := h3.below hb
            have hx4 := (hb.block _ (lt_of_block hx3)).trans hx3
            have hy4 := (hb.block _ (lt_of_block hy3)).trans hy3
            have x0 := cellAt hx4 (o := 0) rfl
            have x1 := cellAt hx4 (o := 1) rfl
            have x2 := cellAt hx4 (o := 2) rfl
            have x3 := cellAt hx4 (o := 3) rfl
            have y0 := cellAt hy4 (o := 0) rfl
            have y1 := cellAt hy4 (o := 1) rfl
            have y2 := cellAt hy4 (o := 2) rfl
            have y3 := cellAt hy4 (o := 3) rfl
            clear h3 hx3 hy3 HR3 hsrt
            obtain ⟨mn, hmn⟩ := run_mn4 a.x0 a.y0 b.x0 b.y0
            obtain ⟨mx, hmx⟩ := run_mx4 a.x1 a.y1 b.x1 b.y1
            by_cases c1 : mn < -1000
            · go_wp2_with fail
              go_ret
              exact ⟨rfl, h4.to⟩
            · by_cases c2 : 1000 < mx
              · go_wp2_with fail
                go_ret
                exact ⟨rfl, h4.to⟩
              · go_wp2_with fail
                have hM := ref3_Meet a b
                simp only [R4.val] at hM
                have HM := Lib.hid hM
                clear hM hmn hmx
                refine Calls.mono (HM.out _) ?_
                rintro e w5 ⟨rfl, hb5⟩
                have h5 := h4.below hb5
                have hx5 := (hb5.block _ (lt_of_block hx4)).trans hx4
                have hy5 := (hb5.block _ (lt_of_block hy4)).trans hy4
                have HI := Lib.hid (lone_In h5 (meet a b))
                clear x0 x1 x2 x3 y0 y1 y2 y3
                go_wp2_with fail
                refine Calls.mono HI.out ?_
                rintro e w6 ⟨v6, rfl, hr6, _, hb6⟩
                have h6 := h5.below hb6
                have hx6 := (hb6.block _ (lt_of_block hx5)).trans hx5
                have hy6 := (hb6.block _ (lt_of_block hy5)).trans hy5
                have x0 := cellAt hx6 (o := 0) rfl
                have x1 := cellAt hx6 (o := 1) rfl
                have x2 := cellAt hx6 (o := 2) rfl
                have x3 := cellAt hx6 (o := 3) rfl
                have y0 := cellAt hy6 (o := 0) rfl
                have y1 := cellAt hy6 (o := 1) rfl
                have y2 := cellAt hy6 (o := 2) rfl
                have y3 := cellAt hy6 (o := 3) rfl
                obtain ⟨ao6, c6, hv6⟩ := hr6.reads.len
                subst hv6
                have HMI := Lib.hid (ref3_Minus a b w6)
                clear HI hr6
                go_wp2_with fail
                refine Calls.mono HMI.out ?_
                rintro e w7 ⟨v7, rfl, hr7, hb7⟩
                have h7 := h6.below hb7
                have hx7 := (hb7.block _ (lt_of_block hx6)).trans hx6
                obtain ⟨ao7, c7, hv7⟩ := hr7.reads.len
                subst hv7
                have HR7 := Lib.hid hr7
                have hparts := parts_len a b A
                have hmlen : (minusL a b).length ≤ 4 := by
                  unfold minusL
                  split
                  · simp
                  · split
                    · simp
                    · unfold fourTo
                      refine Nat.le_trans (List.length_filter_le _ _) ?_
                      simp
                have hinl : ∀ r, (inL A r).length ≤ A.length := fun r => by unfold inL; rw [List.length_map]; exact List.length_filter_le _ _
                have HINL := Lib.hid hinl
                have HPARTS := Lib.hid hparts
                clear HMI hr7 hparts hinl x0 x1 x2 x3 y0 y1 y2 y3
                generalize hMs : minusL a b = Ms at *
                generalize (inL A (meet a b)).length = n0 at *
                go_wp2_with fail
                go_loopw [14, 16] (fun kk i wl => ∃ q : Nat, q ≤ Ms.length ∧ i = .int .i64 q ∧ kk = .int .i64 ((n0 + ((Ms.take q).map fun r => (inL A r).length).sum : Nat)) ∧ Below w7.heap.size w7 wl) (fun _ i _ => Ms.length - (intOf i).toNat)
                case atStart => exact ⟨0, Nat.zero_le _, rfl, by simp, Below.refl _ _⟩
                case round =>
                  obtain ⟨q, hq, rfl, rfl, hb⟩ := hrel
                  have h8 := h7.below hb
                  have hx8 := (hb.block _ (lt_of_block hx7)).trans hx7
                  have hsum := sum_take_le (fun r => (inL A r).length) Ms q
                  have hall := HPARTS.out
                  have hia := HINL.out a
                  rcases Nat.lt_or_ge q Ms.length with hlt | hge
                  · have hcur : Ms[q]? = some Ms[q] := List.getElem?_eq_getElem hlt
                    have hnext : ((Ms.take (q + 1)).map fun r => (inL A r).length).sum = ((Ms.take q).map fun r => (inL A r).length).sum + (inL A Ms[q]).length := by
                      rw [List.take_succ_eq_append_getElem hlt, List.map_append, List.sum_append]
                      simp
                    generalize Ms[q] = r at hcur hnext
                    have hir := HINL.out r
                    obtain ⟨g7, o7, hg7, hc7⟩ := HR7.out.reads.cell (k := 4) (fun _ => rfl) rfl hcur
                    subst hg7
                    have z0 := hc7 0 _ rfl
                    have z1 := hc7 1 _ rfl
                    have z2 := hc7 2 _ rfl
                    have z3 := hc7 3 _ rfl
                    rw [Nat.add_zero] at z0
                    have z0 := (hb.cell (p := ⟨g7, o7 + q * 4, none⟩) (World.block_lt_of_cell? w7 _ z0)).trans z0
                    have z1 := (hb.cell (p := ⟨g7, o7 + q * 4 + 1, none⟩) (World.block_lt_of_cell? w7 _ z1)).trans z1
                    have z2 := (hb.cell (p := ⟨g7, o7 + q * 4 + 2, none⟩) (World.block_lt_of_cell? w7 _ z2)).trans z2
                    have z3 := (hb.cell (p := ⟨g7, o7 + q * 4 + 3, none⟩) (World.block_lt_of_cell? w7 _ z3)).trans z3
                    have HI := Lib.hid (lone_In h8 r)
                    have HN := Lib.hid hnext
                    clear hc7 hnext hcur
                    generalize hS : ((Ms.take q).map fun r => (inL A r).length).sum = S at *
                    clear hS
                    go_wp2_with fail
                    refine Calls.mono HI.out ?_
                    rintro e w9 ⟨v9, rfl, hr9, _, hb9⟩
                    obtain ⟨ao9, c9, hv9⟩ := hr9.reads.len
                    subst hv9
                    clear HI hr9
                    go_wp2_with fail
                    go_roundw
                    case rel => exact ⟨q + 1, by omega, by go_num, by rw [HN.out]; congr 1; omega, hb9.via hb.size hb⟩
                    case measure => simp [intOf]; omega
                  · have hqe : q = Ms.length := by omega
                    subst hqe
                    rw [List.take_length]
                    have x0 := cellAt hx8 (o := 0) rfl
                    have x1 := cellAt hx8 (o := 1) rfl
                    have x2 := cellAt hx8 (o := 2) rfl
                    have x3 := cellAt hx8 (o := 3) rfl
                    rw [← hall]
                    have HI := Lib.hid (lone_In h8 a)
                    have hd4 : (deepR A 4 whole : Int) ≤ 4 := by have := deepR_le A 4 whole; omega
                    clear hsum hall
                    go_wp2_with fail
                    refine Calls.mono HI.out ?_
                    rintro e w9 ⟨v9, rfl, hr9, _, hb9⟩
                    obtain ⟨ao9, c9, hv9⟩ := hr9.reads.len
                    subst hv9
                    have h9 := h8.below hb9
                    have HD := Lib.hid (lone_Depth h9)
                    clear HI hr9 x0 x1 x2 x3
                    go_wp2_with fail
                    refine Calls.mono HD.out ?_
                    rintro e w10 ⟨rfl, rfl⟩
                    go_wp2_with fail
                    go_ret
                    exact ⟨rfl, h9.to⟩
end Go.Proofs.Ytggeehmcjndlgaa
