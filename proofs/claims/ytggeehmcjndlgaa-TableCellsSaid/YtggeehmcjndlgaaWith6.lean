/-
  The document's rows of things: With. And what thing may stand: the document's Is; the laws' bounds on text.
-/
import Derived.Test.YtggeehmcjndlgaaRef6
namespace Go.Proofs.Ytggeehmcjndlgaa
open Go Go.RowKit Go.Sort Go.Shelf
set_option linter.unusedVariables false
set_option linter.unusedSimpArgs false
set_option linter.unnecessarySimpa false

def wst (t : Thg) (a : Ths × Bool) (y : Thg) : Ths × Bool :=
  let a1 := if a.2 = false ∧ t.id ≤ y.id then (a.1 ++ [t], true) else a
  if y.id = t.id then a1 else (a1.1 ++ [y], a1.2)
theorem wst_done (t : Thg) (acc : Ths) (y : Thg) : wst t (acc, true) y = if y.id = t.id then (acc, true) else (acc ++ [y], true) := by simp [wst]
theorem wst_le {t : Thg} (acc : Ths) {y : Thg} (h : t.id ≤ y.id) : wst t (acc, false) y = if y.id = t.id then (acc ++ [t], true) else (acc ++ [t] ++ [y], true) := by simp [wst, h]
theorem wst_gt {t : Thg} (acc : Ths) {y : Thg} (h : ¬ t.id ≤ y.id) : wst t (acc, false) y = (acc ++ [y], false) := by
  have : y.id ≠ t.id := by omega
  simp [wst, h, this]
theorem fold_done (t : Thg) : ∀ (l : Ths) (acc : Ths), l.foldl (wst t) (acc, true) = (acc ++ delT t.id l, true)
  | [], acc => by simp [delT]
  | y :: l, acc => by
    rw [List.foldl_cons, wst_done]
    by_cases h : y.id = t.id
    · rw [if_pos h, fold_done t l]
      simp [delT, List.filter_cons, h]
    · rw [if_neg h, fold_done t l]
      simp [delT, List.filter_cons, h]
def wend (t : Thg) (a : Ths × Bool) : Ths := if a.2 then a.1 else a.1 ++ [t]
theorem ins_front {t : Thg} : ∀ {l : Ths}, (∀ z ∈ l, t.id < z.id) → insT t l = t :: l
  | [], _ => rfl
  | z :: l, h => by rw [insT, if_pos (h z (by simp))]
theorem fold_with (t : Thg) : ∀ (l : Ths) (acc : Ths), SrtT l → wend t (l.foldl (wst t) (acc, false)) = acc ++ putT t l
  | [], acc, _ => by simp [wend, putT, delT, insT]
  | y :: l, acc, hs => by
    obtain ⟨h1, h2⟩ := List.pairwise_cons.1 hs
    rw [List.foldl_cons]
    by_cases hle : t.id ≤ y.id
    · rw [wst_le acc hle]
      by_cases heq : y.id = t.id
      · rw [if_pos heq, fold_done]
        have hd : delT t.id (y :: l) = delT t.id l := by simp [delT, List.filter_cons, heq]
        have hi : insT t (delT t.id l) = t :: delT t.id l := ins_front fun z hz => by have := h1 z (mem_delT.1 hz).1; omega
        simp [wend, putT, hd, hi]
      · rw [if_neg heq, fold_done]
        have hd : delT t.id (y :: l) = y :: delT t.id l := by simp [delT, List.filter_cons, heq]
        have hi : insT t (y :: delT t.id l) = t :: y :: delT t.id l := by rw [insT, if_pos (by omega)]
        simp [wend, putT, hd, hi]
    · rw [wst_gt acc hle, fold_with t l _ h2]
      have heq : y.id ≠ t.id := by omega
      have hd : delT t.id (y :: l) = y :: delT t.id l := by simp [delT, List.filter_cons, heq]
      have hi : insT t (y :: delT t.id l) = y :: insT t (delT t.id l) := by rw [insT, if_neg (by omega)]
      simp [putT, hd, hi]
theorem fold_len (t : Thg) : ∀ (l : Ths) (a : Ths × Bool), (l.foldl (wst t) a).1.length ≤ a.1.length + 2 * l.length
  | [], a => by simp
  | y :: l, a => by
    rw [List.foldl_cons]
    have := fold_len t l (wst t a y)
    have h2 : (wst t a y).1.length ≤ a.1.length + 2 := by
      unfold wst
      split <;> split <;> simp
    simp only [List.length_cons]
    omega

set_option maxHeartbeats 8000000 in
set_option maxRecDepth 100000 in
theorem ref6_With (w : World) (v : Value) (M : Ths) (x : Thg) (h : Reads encT w v M) (hl : M.length ≤ 1000) (hs : SrtT M) :
    Calls Try.prog 44 #[v, x.val] w fun e w' => ∃ v', e = .returned v' ∧ RowOf encT 11 63 w' w.heap.size v' (putT x M) ∧ Below w.heap.size w w' := by
  obtain ⟨ao, cap, hv⟩ := h.len
  subst hv
  obtain ⟨W, hWd⟩ : ∃ W, W = w.alloc (.cells #[.int .i64 x.id, .int .i64 x.x, .int .i64 x.y, .int .i64 x.a.n, .string x.a.t, .int .i64 x.b.n, .string x.b.t, .int .i64 x.c.n, .string x.c.t, .int .i64 x.d.n, .string x.d.t] 63) := ⟨_, rfl⟩
  have hW : Below w.heap.size w W := by rw [hWd]; exact (Below.refl _ w).alloc (Nat.le_refl _) _
  have hbox : W.heap[w.heap.size]? = some x.obj := by rw [hWd]; exact heap_alloc_new _ _
  obtain ⟨n, hn⟩ : ∃ n, n = w.heap.size := ⟨_, rfl⟩
  rw [← hn] at hbox
  have HR := Lib.hid (Reads.later h hW)
  have hX : ∀ W', Below W.heap.size W W' → W'.cell? ⟨n, 0, none⟩ = some (.int .i64 x.id) ∧ W'.cell? ⟨n, 1, none⟩ = some (.int .i64 x.x) ∧ W'.cell? ⟨n, 2, none⟩ = some (.int .i64 x.y) ∧ W'.cell? ⟨n, 3, none⟩ = some (.int .i64 x.a.n) ∧ W'.cell? ⟨n, 4, none⟩ = some (.string x.a.t) ∧ W'.cell? ⟨n, 5, none⟩ = some (.int .i64 x.b.n) ∧ W'.cell? ⟨n, 6, none⟩ = some (.string x.b.t) ∧ W'.cell? ⟨n, 7, none⟩ = some (.int .i64 x.c.n) ∧ W'.cell? ⟨n, 8, none⟩ = some (.string x.c.t) ∧ W'.cell? ⟨n, 9, none⟩ = some (.int .i64 x.d.n) ∧ W'.cell? ⟨n, 10, none⟩ = some (.string x.d.t) := fun W' hb =>
    have h' : W'.heap[n]? = some x.obj := (hb.block _ (lt_of_block hbox)).trans hbox
    ⟨cellAt h' rfl, cellAt h' rfl, cellAt h' rfl, cellAt h' rfl, cellAt h' rfl, cellAt h' rfl, cellAt h' rfl, cellAt h' rfl, cellAt h' rfl, cellAt h' rfl, cellAt h' rfl⟩
  have HX := Lib.hid hX
  have hfin := fold_with x M [] hs
  have hflen : ∀ k, ((M.take k).foldl (wst x) ([], false)).1.length ≤ 2 * k := fun k => by
    have := fold_len x (M.take k) ([], false)
    rw [List.length_take] at this
    simp only [List.length_nil] at this
    omega
  have HFIN := Lib.hid hfin
  have HFLEN := Lib.hid hflen
  clear h hbox hX hfin hflen hs
  unfold Thg.val
  go_enter Try.func44, Try.ntmps44
  go_wp2_with fail
  rw [← hWd, ← hn]
  clear hWd hn
  go_loopw [5, 6, 7] (fun out dn i wl => ∃ (k : Nat) (acc : Ths) (done : Bool), k ≤ M.length ∧ i = .int .i64 k ∧ (M.take k).foldl (wst x) ([], false) = (acc, done) ∧ dn = .bool done ∧ RowOf encT 11 63 wl W.heap.size out acc ∧ Below W.heap.size W wl) (fun _ _ i _ => M.length - (intOf i).toNat)
  case atStart => exact ⟨0, [], false, Nat.zero_le _, rfl, rfl, rfl, RowOf.nil _ _ _, Below.refl _ _⟩
  case round =>
    obtain ⟨k, acc, done, hk, rfl, hfold, rfl, hrow, hb⟩ := hrel
    have hal := HFLEN.out k
    rw [hfold] at hal
    simp only at hal
    rcases Nat.lt_or_ge k M.length with hlt | hge
    · have hcur : M[k]? = some M[k] := List.getElem?_eq_getElem hlt
      have hnext : (M.take (k + 1)).foldl (wst x) ([], false) = wst x (acc, done) M[k] := by
        rw [List.take_succ_eq_append_getElem hlt, List.foldl_append, hfold]; rfl
      obtain ⟨b, off, hao, hc⟩ := HR.out.cell (k := 11) (fun _ => rfl) rfl hcur
      subst hao
      generalize M[k] = y at *
      have hY : ∀ W', Below W.heap.size W W' → W'.cell? ⟨b, off + k * 11, none⟩ = some (.int .i64 y.id) ∧ W'.cell? ⟨b, off + k * 11 + 1, none⟩ = some (.int .i64 y.x) ∧ W'.cell? ⟨b, off + k * 11 + 2, none⟩ = some (.int .i64 y.y) ∧ W'.cell? ⟨b, off + k * 11 + 3, none⟩ = some (.int .i64 y.a.n) ∧ W'.cell? ⟨b, off + k * 11 + 4, none⟩ = some (.string y.a.t) ∧ W'.cell? ⟨b, off + k * 11 + 5, none⟩ = some (.int .i64 y.b.n) ∧ W'.cell? ⟨b, off + k * 11 + 6, none⟩ = some (.string y.b.t) ∧ W'.cell? ⟨b, off + k * 11 + 7, none⟩ = some (.int .i64 y.c.n) ∧ W'.cell? ⟨b, off + k * 11 + 8, none⟩ = some (.string y.c.t) ∧ W'.cell? ⟨b, off + k * 11 + 9, none⟩ = some (.int .i64 y.d.n) ∧ W'.cell? ⟨b, off + k * 11 + 10, none⟩ = some (.string y.d.t) := fun W' hb =>
        ⟨(hb.cell (p := ⟨b, off + k * 11, none⟩) (World.block_lt_of_cell? W _ (hc 0 _ rfl))).trans (hc 0 _ rfl), (hb.cell (p := ⟨b, off + k * 11 + 1, none⟩) (World.block_lt_of_cell? W _ (hc 1 _ rfl))).trans (hc 1 _ rfl), (hb.cell (p := ⟨b, off + k * 11 + 2, none⟩) (World.block_lt_of_cell? W _ (hc 2 _ rfl))).trans (hc 2 _ rfl), (hb.cell (p := ⟨b, off + k * 11 + 3, none⟩) (World.block_lt_of_cell? W _ (hc 3 _ rfl))).trans (hc 3 _ rfl), (hb.cell (p := ⟨b, off + k * 11 + 4, none⟩) (World.block_lt_of_cell? W _ (hc 4 _ rfl))).trans (hc 4 _ rfl), (hb.cell (p := ⟨b, off + k * 11 + 5, none⟩) (World.block_lt_of_cell? W _ (hc 5 _ rfl))).trans (hc 5 _ rfl), (hb.cell (p := ⟨b, off + k * 11 + 6, none⟩) (World.block_lt_of_cell? W _ (hc 6 _ rfl))).trans (hc 6 _ rfl), (hb.cell (p := ⟨b, off + k * 11 + 7, none⟩) (World.block_lt_of_cell? W _ (hc 7 _ rfl))).trans (hc 7 _ rfl), (hb.cell (p := ⟨b, off + k * 11 + 8, none⟩) (World.block_lt_of_cell? W _ (hc 8 _ rfl))).trans (hc 8 _ rfl), (hb.cell (p := ⟨b, off + k * 11 + 9, none⟩) (World.block_lt_of_cell? W _ (hc 9 _ rfl))).trans (hc 9 _ rfl), (hb.cell (p := ⟨b, off + k * 11 + 10, none⟩) (World.block_lt_of_cell? W _ (hc 10 _ rfl))).trans (hc 10 _ rfl)⟩
      have HY := Lib.hid hY
      have HN := Lib.hid hnext
      have hlt' : (k : Int) < M.length := by omega
      clear hc hcur hnext hY hfold
      have q0 := cell_regrown (HX.out _ hb).1
      have q1 := cell_regrown (HY.out _ hb).1
      cases done
      · by_cases hle : x.id ≤ y.id
        · have HW := Lib.hid (wst_le acc hle)
          go_wp2_with fail
          (refine wp_region_quiet_below (by kernel_rfl) (by kernel_rfl) ?_; (repeat (go_big_quiet_step (fail))); refine wpQuiet_nil ?_; intro wqA hwq; have hbqA := below_of_class hwq; clear hwq)
          have hrowA := hrow.below hbqA
          have hbA := hbqA.via hb.size hb
          clear q0 q1
          obtain ⟨c0, c1, c2, c3, c4, c5, c6, c7, c8, c9, c10⟩ := HX.out _ hbA
          go_wp2_with (at_builtin; refine wpl_append_things rfl _ _ rfl W.heap.size _ _ rfl (hrowA.alloc _) _ _ rfl (reads_one (enc := encT) _ x _ _ rfl) (by simp only [List.length_cons, List.length_nil]; omega) (Nat.le_trans hbA.size (by simp)) ?_; intro v3 w3 hr3 hg3 _ hat3)
          have hb3 := (hbA.alloc hbA.size _).grown hg3 (Nat.le_trans hbA.size (by simp)) (fun j hj => (hrowA.lt j hj).1)
          have q0 := cell_regrown (HX.out _ hb3).1
          have q1 := cell_regrown (HY.out _ hb3).1
          by_cases heq : y.id = x.id
          · clear c0 c1 c2 c3 c4 c5 c6 c7 c8 c9 c10
            have heq' : (y.id == x.id) = true := beq_iff_eq.2 heq
            rw [if_pos heq] at HW
            have HEQ := Lib.hid heq
            clear heq
            (refine wp_region_quiet_below (by kernel_rfl) (by kernel_rfl) ?_; (repeat (go_big_quiet_step (fail))); refine wpQuiet_nil ?_; intro wqB hwq; have hbqB := below_of_class hwq; clear hwq)
            have hrowB := hr3.below hbqB
            have hbB := hbqB.via hb3.size hb3
            clear q0 q1
            go_wp2_with fail
            go_roundw
            case rel => exact ⟨k + 1, _, _, by omega, by go_num, by rw [HN.out, HW.out], rfl, hrowB, hbB⟩
            case measure => simp [intOf]; omega
          · clear c0 c1 c2 c3 c4 c5 c6 c7 c8 c9 c10
            have hne : (y.id == x.id) = false := beq_eq_false_iff_ne.2 heq
            rw [if_neg heq] at HW
            (refine wp_region_quiet_below (by kernel_rfl) (by kernel_rfl) ?_; (repeat (go_big_quiet_step (fail))); refine wpQuiet_nil ?_; intro wqB hwq; have hbqB := below_of_class hwq; clear hwq)
            have hrowB := hr3.below hbqB
            have hbB := hbqB.via hb3.size hb3
            clear q0 q1
            obtain ⟨d0, d1, d2, d3, d4, d5, d6, d7, d8, d9, d10⟩ := HY.out _ hbB
            go_wp2_with (at_builtin; refine wpl_append_things rfl _ _ rfl W.heap.size _ _ rfl (hrowB.alloc _) _ _ rfl (reads_one (enc := encT) _ y _ _ rfl) (by simp only [List.length_append, List.length_cons, List.length_nil]; omega) (Nat.le_trans hbB.size (by simp)) ?_; intro v4 w4 hr4 hg4 _ hat4)
            go_roundw
            case rel => exact ⟨k + 1, _, _, by omega, by go_num, by rw [HN.out, HW.out], rfl, hr4, (hbB.alloc hbB.size _).grown hg4 (Nat.le_trans hbB.size (by simp)) (fun j hj => (hrowB.lt j hj).1)⟩
            case measure => simp [intOf]; omega
        · have HW : Hid (wst x (acc, false) y = if y.id = x.id then (acc, false) else (acc ++ [y], false)) := Lib.hid (by rw [wst_gt acc hle, if_neg (by omega)])
          have heq : ¬ y.id = x.id := by omega
          have hle' : y.id < x.id := by omega
          go_wp2_with fail
          (refine wp_region_quiet_below (by kernel_rfl) (by kernel_rfl) ?_; (repeat (go_big_quiet_step (fail))); refine wpQuiet_nil ?_; intro wqA hwq; have hbqA := below_of_class hwq; clear hwq)
          have hrowA := hrow.below hbqA
          have hbA := hbqA.via hb.size hb
          clear q0 q1
          have q0 := cell_regrown (HX.out _ hbA).1
          have q1 := cell_regrown (HY.out _ hbA).1
          go_wp2_with fail
          have hne : (y.id == x.id) = false := beq_eq_false_iff_ne.2 heq
          rw [if_neg heq] at HW
          (refine wp_region_quiet_below (by kernel_rfl) (by kernel_rfl) ?_; (repeat (go_big_quiet_step (fail))); refine wpQuiet_nil ?_; intro wqB hwq; have hbqB := below_of_class hwq; clear hwq)
          have hrowB := hrowA.below hbqB
          have hbB := hbqB.via hbA.size hbA
          clear q0 q1
          obtain ⟨d0, d1, d2, d3, d4, d5, d6, d7, d8, d9, d10⟩ := HY.out _ hbB
          go_wp2_with (at_builtin; refine wpl_append_things rfl _ _ rfl W.heap.size _ _ rfl (hrowB.alloc _) _ _ rfl (reads_one (enc := encT) _ y _ _ rfl) (by simp only [List.length_append, List.length_cons, List.length_nil]; omega) (Nat.le_trans hbB.size (by simp)) ?_; intro v4 w4 hr4 hg4 _ hat4)
          go_roundw
          case rel => exact ⟨k + 1, _, _, by omega, by go_num, by rw [HN.out, HW.out], rfl, hr4, (hbB.alloc hbB.size _).grown hg4 (Nat.le_trans hbB.size (by simp)) (fun j hj => (hrowB.lt j hj).1)⟩
          case measure => simp [intOf]; omega
      · have HW := Lib.hid (wst_done x acc y)
        by_cases heq : y.id = x.id
        · go_wp2_with fail
          (refine wp_region_quiet_below (by kernel_rfl) (by kernel_rfl) ?_; (repeat (go_big_quiet_step (fail))); refine wpQuiet_nil ?_; intro wqA hwq; have hbqA := below_of_class hwq; clear hwq)
          have hrowA := hrow.below hbqA
          have hbA := hbqA.via hb.size hb
          clear q0 q1
          have q0 := cell_regrown (HX.out _ hbA).1
          have q1 := cell_regrown (HY.out _ hbA).1
          go_wp2_with fail
          have heq' : (y.id == x.id) = true := beq_iff_eq.2 heq
          rw [if_pos heq] at HW
          have HEQ := Lib.hid heq
          clear heq
          (refine wp_region_quiet_below (by kernel_rfl) (by kernel_rfl) ?_; (repeat (go_big_quiet_step (fail))); refine wpQuiet_nil ?_; intro wqB hwq; have hbqB := below_of_class hwq; clear hwq)
          have hrowB := hrowA.below hbqB
          have hbB := hbqB.via hbA.size hbA
          clear q0 q1
          go_wp2_with fail
          go_roundw
          case rel => exact ⟨k + 1, _, _, by omega, by go_num, by rw [HN.out, HW.out], rfl, hrowB, hbB⟩
          case measure => simp [intOf]; omega
        · go_wp2_with fail
          (refine wp_region_quiet_below (by kernel_rfl) (by kernel_rfl) ?_; (repeat (go_big_quiet_step (fail))); refine wpQuiet_nil ?_; intro wqA hwq; have hbqA := below_of_class hwq; clear hwq)
          have hrowA := hrow.below hbqA
          have hbA := hbqA.via hb.size hb
          clear q0 q1
          have q0 := cell_regrown (HX.out _ hbA).1
          have q1 := cell_regrown (HY.out _ hbA).1
          go_wp2_with fail
          have hne : (y.id == x.id) = false := beq_eq_false_iff_ne.2 heq
          rw [if_neg heq] at HW
          (refine wp_region_quiet_below (by kernel_rfl) (by kernel_rfl) ?_; (repeat (go_big_quiet_step (fail))); refine wpQuiet_nil ?_; intro wqB hwq; have hbqB := below_of_class hwq; clear hwq)
          have hrowB := hrowA.below hbqB
          have hbB := hbqB.via hbA.size hbA
          clear q0 q1
          obtain ⟨d0, d1, d2, d3, d4, d5, d6, d7, d8, d9, d10⟩ := HY.out _ hbB
          go_wp2_with (at_builtin; refine wpl_append_things rfl _ _ rfl W.heap.size _ _ rfl (hrowB.alloc _) _ _ rfl (reads_one (enc := encT) _ y _ _ rfl) (by simp only [List.length_append, List.length_cons, List.length_nil]; omega) (Nat.le_trans hbB.size (by simp)) ?_; intro v4 w4 hr4 hg4 _ hat4)
          go_roundw
          case rel => exact ⟨k + 1, _, _, by omega, by go_num, by rw [HN.out, HW.out], rfl, hr4, (hbB.alloc hbB.size _).grown hg4 (Nat.le_trans hbB.size (by simp)) (fun j hj => (hrowB.lt j hj).1)⟩
          case measure => simp [intOf]; omega
    · have hke : k = M.length := by omega
      subst hke
      rw [List.take_length] at hfold
      have hfin := HFIN.out
      rw [hfold, List.nil_append] at hfin
      have HF := Lib.hid hfin
      clear hfin hfold
      cases done
      · obtain ⟨c0, c1, c2, c3, c4, c5, c6, c7, c8, c9, c10⟩ := HX.out _ hb
        go_wp2_with (at_builtin; refine wpl_append_things rfl _ _ rfl W.heap.size _ _ rfl (hrow.alloc _) _ _ rfl (reads_one (enc := encT) _ x _ _ rfl) (by simp only [List.length_append, List.length_cons, List.length_nil]; omega) (Nat.le_trans hb.size (by simp)) ?_; intro v3 w3 hr3 hg3 _ hat3)
        obtain ⟨ao3, cp3, hv3⟩ := hr3.reads.len
        go_wp2_with fail
        go_ret
        refine ⟨_, rfl, ?_, ((hb.alloc hb.size _).grown hg3 (Nat.le_trans hb.size (by simp)) (fun j hj => (hrow.lt j hj).1)).via hW.size hW⟩
        rw [← HF.out]
        exact hr3.base_le hW.size
      · go_wp2_with fail
        go_ret
        refine ⟨_, rfl, ?_, hb.via hW.size hW⟩
        rw [← HF.out]
        exact hrow.base_le hW.size
end Go.Proofs.Ytggeehmcjndlgaa
