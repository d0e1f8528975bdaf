/-
  The document's tree: how deep it is; Put, Move, Drop.
-/
import Derived.Test.YtggeehmcjndlgaaRef8
namespace Go.Proofs.Ytggeehmcjndlgaa
open Go Go.RowKit Go.Sort Go.Shelf
set_option linter.unusedVariables false
set_option linter.unusedSimpArgs false
set_option linter.unnecessarySimpa false

def maxTo (L : Pts) (n : Nat) (q : R4) : Nat → Nat
  | 0 => 0
  | k + 1 => max (maxTo L n q k) (1 + deepR L n (qtr q k))
theorem maxTo4 (L : Pts) (n : Nat) (q : R4) : maxTo L n q 4 = 1 + max (max (deepR L n (qtr q 0)) (deepR L n (qtr q 1))) (max (deepR L n (qtr q 2)) (deepR L n (qtr q 3))) := by
  simp only [maxTo]
  omega

/-- What 'deep' tells: n more splits may be. -/
def DeepSpec (n : Nat) : Prop := ∀ (w : World) (base r : Nat) (v : Value) (L : Pts) (q : R4), RTree w base r v L → L.length ≤ 1000 → n ≤ 4 → q.sq → q.pw n →
    Calls Try.prog 82 #[.pointer (some ⟨r, 0, none⟩), .agg #[.int .i64 q.x0, .int .i64 q.y0, .int .i64 q.x1, .int .i64 q.y1], .int .i64 (4 - n)] w fun e w' =>
      e = .returned (.int .i64 (4 - n + deepR L n q)) ∧ Below w.heap.size w w'

theorem RTree.below {w w' : World} {base r : Nat} {v : Value} {L : Pts} (h : RTree w base r v L) (hb : Below w.heap.size w w') : RTree w' base r v L := ⟨(hb.block _ (lt_of_block h.1)).trans h.1, h.2.1.below hb, h.2.2⟩

set_option maxHeartbeats 4000000 in
theorem ref8_deep0 : DeepSpec 0 := by
  intro w base r v L q h hl _ hsq hp
  go_enter Try.func82, Try.ntmps82
  go_wp2_with fail
  go_ret
  exact ⟨retc (by simp [deepR]), (by (repeat (first | exact Below.refl _ _ | assumption | refine Below.alloc ?_ (by first | omega | (simp; done) | (simp; omega)) _ | refine Below.setCell ?_ (by first | omega | (simp; done) | (simp; omega)) _ | refine Below.drew ?_ | refine Below.draws ?_ _ | refine Below.via (by assumption) (by first | omega | (simp; done) | (simp; omega)) ?_)))⟩

set_option maxHeartbeats 8000000 in
set_option maxRecDepth 100000 in
theorem ref8_deepS (n : Nat) (ih : DeepSpec n) : DeepSpec (n + 1) := by
  intro w base r v L q h hl hn hsq hp
  obtain ⟨d, hdd⟩ : ∃ d : Int, d = 4 - ((n + 1 : Nat) : Int) := ⟨_, rfl⟩
  rw [← hdd]
  have hd0 : 0 ≤ d := by omega
  have hd4 : d < 4 := by omega
  have hd : (d == 4) = false := beq_eq_false_iff_ne.2 (by omega)
  have hdn : (4 : Int) - n = d + 1 := by omega
  clear hdd
  obtain ⟨W, hWd⟩ : ∃ W, W = w.alloc (.cells #[.int .i64 q.x0, .int .i64 q.y0, .int .i64 q.x1, .int .i64 q.y1] 33) := ⟨_, rfl⟩
  have hW : Below w.heap.size w W := by rw [hWd]; exact (Below.refl _ w).alloc (Nat.le_refl _) _
  have hbox : W.heap[w.heap.size]? = some (.cells #[.int .i64 q.x0, .int .i64 q.y0, .int .i64 q.x1, .int .i64 q.y1] 33 (0, 0)) := by rw [hWd]; exact heap_alloc_new _ _
  have hT := h.below hW
  have HI := Lib.hid (ref8_In W base r v L q hT hl)
  have HT := Lib.hid hT
  clear h hT
  go_enter Try.func82, Try.ntmps82
  go_wp2_with fail
  rw [← hWd]
  clear hWd
  refine Calls.mono HI.out ?_
  rintro e w1 ⟨v1, rfl, hr1, hb1⟩
  obtain ⟨ao1, c1, hv1⟩ := hr1.reads.len
  subst hv1
  by_cases hle : (inL L q).length ≤ 4
  · have hle' : ((inL L q).length : Int) ≤ 4 := by omega
    have hd0 : deepR L (n + 1) q = 0 := by simp only [deepR]; rw [if_pos hle]
    go_wp2_with fail
    go_ret
    exact ⟨retc (by rw [hd0]; simp), hb1.via hW.size hW⟩
  · have hle' : 4 < ((inL L q).length : Int) := by omega
    have hds : deepR L (n + 1) q = 1 + max (max (deepR L n (qtr q 0)) (deepR L n (qtr q 1))) (max (deepR L n (qtr q 2)) (deepR L n (qtr q 3))) := by simp only [deepR]; rw [if_neg hle]
    obtain ⟨m, hm0, hm1, hm2, hm3⟩ := pw_half hp
    have hh : (q.x1 - q.x0) / 2 = m := by omega
    have HM1 := Lib.hid hm1
    have HM2 := Lib.hid hm2
    have HM3 := Lib.hid hm3
    clear hm1 hm2 hm3
    have hbox1 := (hb1.block _ (lt_of_block hbox)).trans hbox
    have x0 := cellAt hbox1 (o := 0) rfl
    have x1 := cellAt hbox1 (o := 1) rfl
    have x2 := cellAt hbox1 (o := 2) rfl
    have hsq' := hsq
    obtain ⟨s1, s2, s3, s4, s5, s6⟩ := hsq
    have hmx := run_mx
    have hb1W := hb1.via hW.size hW
    have hxm : q.x0 + m + m ≤ 64 := by have := HM2.out; omega
    have hym : q.y0 + m + m ≤ 64 := by have := HM3.out; omega
    have HS6 := Lib.hid s6
    have HDN := Lib.hid hdn
    clear s6 hdn
    go_wp2_with fail
    rw [hh]
    have HH := Lib.hid hh
    clear hh
    go_loopw [8, 9, 10, 11] (fun out i _ _ wl => ∃ k : Nat, k ≤ 4 ∧ i = .int .i64 k ∧ out = .int .i64 (d + maxTo L n q k) ∧ Below W.heap.size W wl) (fun _ i _ _ _ => 4 - (intOf i).toNat)
    case atStart => exact ⟨0, by omega, rfl, by simp [maxTo], hb1⟩
    case round =>
      obtain ⟨k, hk, rfl, rfl, hbl⟩ := hrel
      have hboxr := (hbl.block _ (lt_of_block hbox)).trans hbox
      have q0 := cell_regrown (cellAt hboxr (o := 0) rfl)
      have q1 := cell_regrown (cellAt hboxr (o := 1) rfl)
      rcases Nat.lt_or_ge k 4 with hlt | hge
      · have hh := HH.out
        have hk4 : k = 0 ∨ k = 1 ∨ k = 2 ∨ k = 3 := by omega
        have he0 : qtr q 0 = ⟨q.x0, q.y0, q.x0 + m, q.y0 + m⟩ := by simp only [qtr]; rw [hh]; simp
        have he1 : qtr q 1 = ⟨q.x0 + m, q.y0, q.x0 + m + m, q.y0 + m⟩ := by simp only [qtr]; rw [hh]; simp
        have he2 : qtr q 2 = ⟨q.x0, q.y0 + m, q.x0 + m, q.y0 + m + m⟩ := by simp only [qtr]; rw [hh]; simp
        have he3 : qtr q 3 = ⟨q.x0 + m, q.y0 + m, q.x0 + m + m, q.y0 + m + m⟩ := by simp only [qtr]; rw [hh]; simp
        rcases hk4 with rfl | rfl | rfl | rfl
        · have HC := Lib.hid (fun W' (hB' : Below W.heap.size W W') => ih W' base r v L (qtr q 0) (HT.out.below hB') hl (by omega) (hsq'.qtr (by omega)) (hp.qtr (by omega)))
          have hstep : maxTo L n q (0 + 1) = max (maxTo L n q 0) (1 + deepR L n (qtr q 0)) := rfl
          rw [he0] at HC
          rw [he0] at hstep
          simp only [HDN.out] at HC
          generalize deepR L n _ = dd at HC hstep
          generalize maxTo L n q 0 = mo at *
          have HST := Lib.hid hstep
          clear hh hstep he0 he1 he2 he3
          go_wp2_with fail
          (refine wp_region_quiet_below (by kernel_rfl) (by kernel_rfl) ?_; (repeat (go_big_quiet_step (fail))); refine wpQuiet_nil ?_; intro wqA hwq; have hbqA := below_of_class hwq; clear hwq)
          go_wp2_with fail
          refine Calls.mono (HC.out _ (hbqA.via hbl.size hbl)) ?_
          rintro e w5 ⟨rfl, hb5⟩
          have HB5 := Lib.hid hb5
          clear hb5 q0 q1
          go_wp2_with fail
          go_roundw
          case rel => exact ⟨0 + 1, by omega, by go_num, by rw [HST.out]; congr 1; omega, HB5.out.via (Nat.le_trans hbl.size hbqA.size) (hbqA.via hbl.size hbl)⟩
          case measure => simp [intOf]
        · have HC := Lib.hid (fun W' (hB' : Below W.heap.size W W') => ih W' base r v L (qtr q 1) (HT.out.below hB') hl (by omega) (hsq'.qtr (by omega)) (hp.qtr (by omega)))
          have hstep : maxTo L n q (1 + 1) = max (maxTo L n q 1) (1 + deepR L n (qtr q 1)) := rfl
          rw [he1] at HC
          rw [he1] at hstep
          simp only [HDN.out] at HC
          generalize deepR L n _ = dd at HC hstep
          generalize maxTo L n q 1 = mo at *
          have HST := Lib.hid hstep
          clear hh hstep he0 he1 he2 he3
          go_wp2_with fail
          (refine wp_region_quiet_below (by kernel_rfl) (by kernel_rfl) ?_; (repeat (go_big_quiet_step (fail))); refine wpQuiet_nil ?_; intro wqA hwq; have hbqA := below_of_class hwq; clear hwq)
          go_wp2_with fail
          refine Calls.mono (HC.out _ (hbqA.via hbl.size hbl)) ?_
          rintro e w5 ⟨rfl, hb5⟩
          have HB5 := Lib.hid hb5
          clear hb5 q0 q1
          go_wp2_with fail
          go_roundw
          case rel => exact ⟨1 + 1, by omega, by go_num, by rw [HST.out]; congr 1; omega, HB5.out.via (Nat.le_trans hbl.size hbqA.size) (hbqA.via hbl.size hbl)⟩
          case measure => simp [intOf]
        · have HC := Lib.hid (fun W' (hB' : Below W.heap.size W W') => ih W' base r v L (qtr q 2) (HT.out.below hB') hl (by omega) (hsq'.qtr (by omega)) (hp.qtr (by omega)))
          have hstep : maxTo L n q (2 + 1) = max (maxTo L n q 2) (1 + deepR L n (qtr q 2)) := rfl
          rw [he2] at HC
          rw [he2] at hstep
          simp only [HDN.out] at HC
          generalize deepR L n _ = dd at HC hstep
          generalize maxTo L n q 2 = mo at *
          have HST := Lib.hid hstep
          clear hh hstep he0 he1 he2 he3
          go_wp2_with fail
          (refine wp_region_quiet_below (by kernel_rfl) (by kernel_rfl) ?_; (repeat (go_big_quiet_step (fail))); refine wpQuiet_nil ?_; intro wqA hwq; have hbqA := below_of_class hwq; clear hwq)
          go_wp2_with fail
          refine Calls.mono (HC.out _ (hbqA.via hbl.size hbl)) ?_
          rintro e w5 ⟨rfl, hb5⟩
          have HB5 := Lib.hid hb5
          clear hb5 q0 q1
          go_wp2_with fail
          go_roundw
          case rel => exact ⟨2 + 1, by omega, by go_num, by rw [HST.out]; congr 1; omega, HB5.out.via (Nat.le_trans hbl.size hbqA.size) (hbqA.via hbl.size hbl)⟩
          case measure => simp [intOf]
        · have HC := Lib.hid (fun W' (hB' : Below W.heap.size W W') => ih W' base r v L (qtr q 3) (HT.out.below hB') hl (by omega) (hsq'.qtr (by omega)) (hp.qtr (by omega)))
          have hstep : maxTo L n q (3 + 1) = max (maxTo L n q 3) (1 + deepR L n (qtr q 3)) := rfl
          rw [he3] at HC
          rw [he3] at hstep
          simp only [HDN.out] at HC
          generalize deepR L n _ = dd at HC hstep
          generalize maxTo L n q 3 = mo at *
          have HST := Lib.hid hstep
          clear hh hstep he0 he1 he2 he3
          go_wp2_with fail
          (refine wp_region_quiet_below (by kernel_rfl) (by kernel_rfl) ?_; (repeat (go_big_quiet_step (fail))); refine wpQuiet_nil ?_; intro wqA hwq; have hbqA := below_of_class hwq; clear hwq)
          go_wp2_with fail
          refine Calls.mono (HC.out _ (hbqA.via hbl.size hbl)) ?_
          rintro e w5 ⟨rfl, hb5⟩
          have HB5 := Lib.hid hb5
          clear hb5 q0 q1
          go_wp2_with fail
          go_roundw
          case rel => exact ⟨3 + 1, by omega, by go_num, by rw [HST.out]; congr 1; omega, HB5.out.via (Nat.le_trans hbl.size hbqA.size) (hbqA.via hbl.size hbl)⟩
          case measure => simp [intOf]
      · have hke : k = 4 := by omega
        subst hke
        go_wp2_with fail
        go_ret
        exact ⟨retc (by rw [hds, ← maxTo4]), hbl.via hW.size hW⟩
end Go.Proofs.Ytggeehmcjndlgaa
