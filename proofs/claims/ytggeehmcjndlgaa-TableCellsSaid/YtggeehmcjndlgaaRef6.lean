/-
  The document's rows of things (vedetteref6): At, Is, With, Without, Seen, SameAll.
-/
import Derived.Test.YtggeehmcjndlgaaCells
import Derived.Test.YtggeehmcjndlgaaRef8
import Derived.Test.YtggeehmcjndlgaaEq
namespace Go.Proofs.Ytggeehmcjndlgaa
open Go Go.RowKit Go.Sort Go.Shelf
set_option linter.unusedVariables false
set_option linter.unusedSimpArgs false
set_option linter.unnecessarySimpa false

theorem Reads.later {α : Type} {enc : α → List Value} {w w' : World} {v : Value} {l : List α} (h : Reads enc w v l) (hb : Below w.heap.size w w') : Reads enc w' v l := by
  obtain ⟨ao, cap, rfl, hc, hnil, hr⟩ := h
  refine ⟨ao, cap, rfl, hc, hnil, fun b off sp e => ⟨(hr b off sp e).1, fun j u hj => ?_⟩⟩
  have h1 := (hr b off sp e).2 j u hj
  exact (hb.cell (p := ⟨b, off + j, none⟩) (World.block_lt_of_cell? w _ h1)).trans h1

def idxT (M : Ths) (id : Int) : Nat := M.findIdx fun x => x.id == id
def idxTI (M : Ths) (id : Int) : Int := if idxT M id < M.length then idxT M id else -1
theorem idxT_eq (M : Ths) (id : Int) : idxT M id = idxM (ptsT M) id := by
  simp only [idxT, idxM, ptsT, List.findIdx_map]
  rfl
theorem idxT_lt {M : Ths} {id : Int} : idxT M id < M.length ↔ hasT M id = true := by
  rw [idxT_eq, ← ptsT_len, idxM_lt, ptsT_has]

set_option maxHeartbeats 2000000 in
theorem ref6_At (w : World) (v : Value) (M : Ths) (id : Int) (h : Reads encT w v M) (hl : M.length ≤ 1000) :
    Calls Try.prog 41 #[v, .int .i64 id] w fun e w' => e = .returned (.int .i64 (idxTI M id)) ∧ w' = w := by
  obtain ⟨ao, cap, hv⟩ := h.len
  subst hv
  have HR := Lib.hid h
  clear h
  go_enter Try.func41, Try.ntmps41
  go_wp2_with fail
  go_loop [5] (fun i => ∃ k : Nat, k ≤ M.length ∧ i = .int .i64 k ∧ k ≤ idxT M id) (fun i => M.length - (intOf i).toNat)
  case atStart => exact ⟨0, Nat.zero_le _, rfl, Nat.zero_le _⟩
  case round =>
    obtain ⟨k, hk, rfl, hki⟩ := hrel
    rcases Nat.lt_or_ge k M.length with hlt | hge
    · have hcur : M[k]? = some M[k] := List.getElem?_eq_getElem hlt
      obtain ⟨b, off, hao, hc⟩ := HR.out.cell (k := 11) (fun _ => rfl) rfl hcur
      subst hao
      have c0 := hc 0 _ rfl
      rw [Nat.add_zero] at c0
      have hlt' : (k : Int) < M.length := by omega
      by_cases heq : M[k].id = id
      · have hidx : idxT M id = k := by
          rcases Nat.lt_or_ge k (idxT M id) with h | h
          · have := List.not_of_lt_findIdx (p := fun x : Thg => x.id == id) (xs := M) h
            simp [heq] at this
          · omega
        have hres : idxTI M id = k := by unfold idxTI; rw [hidx, if_pos hlt]
        have HRES := Lib.hid hres
        generalize M[k].id = z at *
        clear hc hcur hres hidx
        go_wp2_with fail
        go_ret
        exact ⟨retc HRES.out, rfl⟩
      · have hidx : k + 1 ≤ idxT M id := by
          rcases Nat.lt_or_ge (idxT M id) (k + 1) with h | h
          · exfalso
            have he : idxT M id = k := by omega
            have hlt' : M.findIdx (fun x => x.id == id) < M.length := by show idxT M id < M.length; omega
            have := List.findIdx_getElem (w := hlt')
            simp only [beq_iff_eq] at this
            apply heq
            rw [← this]
            congr 2
            exact he.symm
          · exact h
        have HIDX := Lib.hid hidx
        generalize M[k].id = z at *
        have hne : (z == id) = false := beq_eq_false_iff_ne.2 heq
        clear hc hcur hidx
        go_wp2_with fail
        go_round
        case rel => exact ⟨k + 1, by omega, by go_num, HIDX.out⟩
        case measure => simp [intOf]; omega
    · have hres : idxTI M id = -1 := by unfold idxTI; rw [if_neg (by omega)]
      have HRES := Lib.hid hres
      clear hres
      go_wp2_with fail
      go_ret
      exact ⟨retc HRES.out, rfl⟩

set_option maxHeartbeats 4000000 in
set_option maxRecDepth 100000 in
theorem ref6_Without (w : World) (v : Value) (M : Ths) (id : Int) (h : Reads encT w v M) (hl : M.length ≤ 1000) :
    Calls Try.prog 47 #[v, .int .i64 id] w fun e w' => ∃ v', e = .returned v' ∧ RowOf encT 11 63 w' w.heap.size v' (delT id M) ∧ Below w.heap.size w w' := by
  obtain ⟨ao, cap, hv⟩ := h.len
  subst hv
  have HR := Lib.hid h
  clear h
  go_enter Try.func47, Try.ntmps47
  go_wp2_with fail
  go_loopw [5, 6] (fun out i wl => ∃ k : Nat, k ≤ M.length ∧ i = .int .i64 k ∧ RowOf encT 11 63 wl w.heap.size out (delT id (M.take k)) ∧ Below w.heap.size w wl) (fun _ i _ => M.length - (intOf i).toNat)
  case atStart => exact ⟨0, Nat.zero_le _, rfl, RowOf.nil _ _ _, Below.refl _ _⟩
  case round =>
    obtain ⟨k, hk, rfl, hrow, hb⟩ := hrel
    rcases Nat.lt_or_ge k M.length with hlt | hge
    · have hcur : M[k]? = some M[k] := List.getElem?_eq_getElem hlt
      have hnext : delT id (M.take (k + 1)) = delT id (M.take k) ++ if M[k].id = id then [] else [M[k]] := by
        rw [List.take_succ_eq_append_getElem hlt]
        simp only [delT, List.filter_append, List.filter_cons, List.filter_nil]
        by_cases h : M[k].id = id <;> simp [h]
      obtain ⟨b, off, hao, hc⟩ := HR.out.cell (k := 11) (fun _ => rfl) rfl hcur
      subst hao
      generalize M[k] = y at *
      have c0 := (hb.cell (p := ⟨b, off + k * 11, none⟩) (World.block_lt_of_cell? w _ (hc 0 _ rfl))).trans (hc 0 _ rfl)
      have c1 := (hb.cell (p := ⟨b, off + k * 11 + 1, none⟩) (World.block_lt_of_cell? w _ (hc 1 _ rfl))).trans (hc 1 _ rfl)
      have c2 := (hb.cell (p := ⟨b, off + k * 11 + 2, none⟩) (World.block_lt_of_cell? w _ (hc 2 _ rfl))).trans (hc 2 _ rfl)
      have c3 := (hb.cell (p := ⟨b, off + k * 11 + 3, none⟩) (World.block_lt_of_cell? w _ (hc 3 _ rfl))).trans (hc 3 _ rfl)
      have c4 := (hb.cell (p := ⟨b, off + k * 11 + 4, none⟩) (World.block_lt_of_cell? w _ (hc 4 _ rfl))).trans (hc 4 _ rfl)
      have c5 := (hb.cell (p := ⟨b, off + k * 11 + 5, none⟩) (World.block_lt_of_cell? w _ (hc 5 _ rfl))).trans (hc 5 _ rfl)
      have c6 := (hb.cell (p := ⟨b, off + k * 11 + 6, none⟩) (World.block_lt_of_cell? w _ (hc 6 _ rfl))).trans (hc 6 _ rfl)
      have c7 := (hb.cell (p := ⟨b, off + k * 11 + 7, none⟩) (World.block_lt_of_cell? w _ (hc 7 _ rfl))).trans (hc 7 _ rfl)
      have c8 := (hb.cell (p := ⟨b, off + k * 11 + 8, none⟩) (World.block_lt_of_cell? w _ (hc 8 _ rfl))).trans (hc 8 _ rfl)
      have c9 := (hb.cell (p := ⟨b, off + k * 11 + 9, none⟩) (World.block_lt_of_cell? w _ (hc 9 _ rfl))).trans (hc 9 _ rfl)
      have c10 := (hb.cell (p := ⟨b, off + k * 11 + 10, none⟩) (World.block_lt_of_cell? w _ (hc 10 _ rfl))).trans (hc 10 _ rfl)
      have hln : (delT id (M.take k)).length + 1 ≤ 1000000 := by have := delT_len id (M.take k); rw [List.length_take] at this; omega
      have hlt' : (k : Int) < M.length := by omega
      have HN := Lib.hid hnext
      clear hc hcur hnext
      by_cases heq : y.id = id
      · have HE := Lib.hid heq
        have heq' : (y.id == id) = true := beq_iff_eq.2 heq
        go_wp2_with fail
        go_roundw
        case rel => exact ⟨k + 1, by omega, by go_num, by rw [HN.out, if_pos HE.out, List.append_nil]; exact hrow, hb⟩
        case measure => simp [intOf]; omega
      · have HE := Lib.hid heq
        have hne : (y.id == id) = false := beq_eq_false_iff_ne.2 heq
        go_wp2_with (at_builtin; refine wpl_append_things rfl _ _ rfl w.heap.size _ _ rfl (hrow.alloc _) _ _ rfl (reads_one (enc := encT) _ y _ _ rfl) hln (Nat.le_trans hb.size (by simp)) ?_; intro v3 w3 hr3 hg3 _ hat3)
        go_roundw
        case rel => exact ⟨k + 1, by omega, by go_num, by rw [HN.out, if_neg HE.out]; exact hr3, (hb.alloc hb.size _).grown hg3 (Nat.le_trans hb.size (by simp)) (fun j hj => (hrow.lt j hj).1)⟩
        case measure => simp [intOf]; omega
    · have hke : k = M.length := by omega
      subst hke
      rw [List.take_length] at hrow
      go_wp2_with fail
      go_ret
      exact ⟨_, rfl, hrow, hb⟩

theorem inT_take_succ {M : Ths} {k : Nat} {y : Thg} (h : M[k]? = some y) (r : R4) : inT (M.take (k + 1)) r = inT (M.take k) r ++ if inB r y.x y.y then [y] else [] := by
  rw [List.take_add_one, h]
  simp only [Option.toList_some, inT, List.filter_append]
  congr 1
  rw [List.filter_cons]
  split <;> rfl
theorem inT_len (M : Ths) (r : R4) : (inT M r).length ≤ M.length := List.length_filter_le _ _

set_option maxHeartbeats 4000000 in
set_option maxRecDepth 100000 in
theorem ref6_Seen (w : World) (v : Value) (M : Ths) (r : R4) (h : Reads encT w v M) (hl : M.length ≤ 1000) :
    Calls Try.prog 91 #[v, .agg #[.int .i64 r.x0, .int .i64 r.y0, .int .i64 r.x1, .int .i64 r.y1]] w fun e w' => ∃ v', e = .returned v' ∧ RowOf encT 11 63 w' w.heap.size v' (inT M r) ∧ Below w.heap.size w w' := by
  obtain ⟨ao, cap, hv⟩ := h.len
  subst hv
  obtain ⟨W, hWd⟩ : ∃ W, W = w.alloc (.cells #[.int .i64 r.x0, .int .i64 r.y0, .int .i64 r.x1, .int .i64 r.y1] 33) := ⟨_, rfl⟩
  have hW : Below w.heap.size w W := by rw [hWd]; exact (Below.refl _ w).alloc (Nat.le_refl _) _
  have hbox : W.heap[w.heap.size]? = some (.cells #[.int .i64 r.x0, .int .i64 r.y0, .int .i64 r.x1, .int .i64 r.y1] 33 (0, 0)) := by rw [hWd]; exact heap_alloc_new _ _
  obtain ⟨n, hn⟩ : ∃ n, n = w.heap.size := ⟨_, rfl⟩
  rw [← hn] at hbox
  have HR := Lib.hid (Reads.later h hW)
  have HBX := Lib.hid hbox
  clear h hbox
  go_enter Try.func91, Try.ntmps91
  go_wp2_with fail
  rw [← hWd, ← hn]
  clear hWd hn
  go_loopw [5, 6] (fun out i wl => ∃ k : Nat, k ≤ M.length ∧ i = .int .i64 k ∧ RowOf encT 11 63 wl W.heap.size out (inT (M.take k) r) ∧ Below W.heap.size W wl) (fun _ i _ => M.length - (intOf i).toNat)
  case atStart => exact ⟨0, Nat.zero_le _, rfl, RowOf.nil _ _ _, Below.refl _ _⟩
  case round =>
    obtain ⟨k, hk, rfl, hrow, hb⟩ := hrel
    rcases Nat.lt_or_ge k M.length with hlt | hge
    · have hcur : M[k]? = some M[k] := List.getElem?_eq_getElem hlt
      have hnext := inT_take_succ hcur r
      obtain ⟨b, off, hao, hc⟩ := HR.out.cell (k := 11) (fun _ => rfl) rfl hcur
      subst hao
      generalize M[k] = y at *
      have hboxr := (hb.block _ (lt_of_block HBX.out)).trans HBX.out
      have q0 := cell_regrown (cellAt hboxr (o := 0) rfl)
      have q1 := cell_regrown (cellAt hboxr (o := 1) rfl)
      have q2 := cell_regrown (cellAt hboxr (o := 2) rfl)
      have q3 := cell_regrown (cellAt hboxr (o := 3) rfl)
      have q4 := cell_regrown ((hb.cell (p := ⟨b, off + k * 11 + 1, none⟩) (World.block_lt_of_cell? W _ (hc 1 _ rfl))).trans (hc 1 _ rfl))
      have q5 := cell_regrown ((hb.cell (p := ⟨b, off + k * 11 + 2, none⟩) (World.block_lt_of_cell? W _ (hc 2 _ rfl))).trans (hc 2 _ rfl))
      have hI := regrown_call (w := wr) (ref3_In r y.x y.y)
      have HCC := Lib.hid hc
      have hln : (inT (M.take k) r).length + 1 ≤ 1000000 := by have := inT_len (M.take k) r; rw [List.length_take] at this; omega
      have hlt' : (k : Int) < M.length := by omega
      have HN := Lib.hid hnext
      clear hc hcur hnext hboxr
      cases hin : inB r y.x y.y
      · rw [hin] at hI
        go_wp2_with fail
        (refine wp_region_quiet_below (by kernel_rfl) (by kernel_rfl) ?_; (repeat (go_big_quiet_step (exact hI _ _))); refine wpQuiet_nil ?_; intro wqA hwq; have hbqA := below_of_class hwq; clear hwq)
        go_wp2_with fail
        go_roundw
        case rel => exact ⟨k + 1, by omega, by go_num, by rw [HN.out, hin]; simpa using hrow.below hbqA, hbqA.via hb.size hb⟩
        case measure => simp [intOf]; omega
      · rw [hin] at hI
        go_wp2_with fail
        (refine wp_region_quiet_below (by kernel_rfl) (by kernel_rfl) ?_; (repeat (go_big_quiet_step (exact hI _ _))); refine wpQuiet_nil ?_; intro wqA hwq; have hbqA := below_of_class hwq; clear hwq)
        have hrowA := hrow.below hbqA
        have hbA := hbqA.via hb.size hb
        have hc := HCC.out
        clear q0 q1 q2 q3 q4 q5 hI
        have c0 := (hbA.cell (p := ⟨b, off + k * 11, none⟩) (World.block_lt_of_cell? W _ (hc 0 _ rfl))).trans (hc 0 _ rfl)
        have c1 := (hbA.cell (p := ⟨b, off + k * 11 + 1, none⟩) (World.block_lt_of_cell? W _ (hc 1 _ rfl))).trans (hc 1 _ rfl)
        have c2 := (hbA.cell (p := ⟨b, off + k * 11 + 2, none⟩) (World.block_lt_of_cell? W _ (hc 2 _ rfl))).trans (hc 2 _ rfl)
        have c3 := (hbA.cell (p := ⟨b, off + k * 11 + 3, none⟩) (World.block_lt_of_cell? W _ (hc 3 _ rfl))).trans (hc 3 _ rfl)
        have c4 := (hbA.cell (p := ⟨b, off + k * 11 + 4, none⟩) (World.block_lt_of_cell? W _ (hc 4 _ rfl))).trans (hc 4 _ rfl)
        have c5 := (hbA.cell (p := ⟨b, off + k * 11 + 5, none⟩) (World.block_lt_of_cell? W _ (hc 5 _ rfl))).trans (hc 5 _ rfl)
        have c6 := (hbA.cell (p := ⟨b, off + k * 11 + 6, none⟩) (World.block_lt_of_cell? W _ (hc 6 _ rfl))).trans (hc 6 _ rfl)
        have c7 := (hbA.cell (p := ⟨b, off + k * 11 + 7, none⟩) (World.block_lt_of_cell? W _ (hc 7 _ rfl))).trans (hc 7 _ rfl)
        have c8 := (hbA.cell (p := ⟨b, off + k * 11 + 8, none⟩) (World.block_lt_of_cell? W _ (hc 8 _ rfl))).trans (hc 8 _ rfl)
        have c9 := (hbA.cell (p := ⟨b, off + k * 11 + 9, none⟩) (World.block_lt_of_cell? W _ (hc 9 _ rfl))).trans (hc 9 _ rfl)
        have c10 := (hbA.cell (p := ⟨b, off + k * 11 + 10, none⟩) (World.block_lt_of_cell? W _ (hc 10 _ rfl))).trans (hc 10 _ rfl)
        clear hc
        go_wp2_with (at_builtin; refine wpl_append_things rfl _ _ rfl W.heap.size _ _ rfl (hrowA.alloc _) _ _ rfl (reads_one (enc := encT) _ y _ _ rfl) hln (Nat.le_trans hbA.size (by simp)) ?_; intro v3 w3 hr3 hg3 _ hat3)
        go_roundw
        case rel => exact ⟨k + 1, by omega, by go_num, by rw [HN.out, hin]; simpa using hr3, (hbA.alloc hbA.size _).grown hg3 (Nat.le_trans hbA.size (by simp)) (fun j hj => (hrowA.lt j hj).1)⟩
        case measure => simp [intOf]; omega
    · have hke : k = M.length := by omega
      subst hke
      rw [List.take_length] at hrow
      go_wp2_with fail
      go_ret
      exact ⟨_, rfl, hrow.base_le hW.size, hb.via hW.size hW⟩

set_option maxHeartbeats 4000000 in
set_option maxRecDepth 100000 in
/-- Two rows that are one list. -/
theorem ref6_SameAll (w : World) (v1 v2 : Value) (M : Ths) (h1 : Reads encT w v1 M) (h2 : Reads encT w v2 M) (hl : M.length ≤ 1000) :
    Calls Try.prog 49 #[v1, v2] w fun e w' => e = .returned (.bool true) ∧ Below w.heap.size w w' := by
  obtain ⟨a1, c1, e1⟩ := h1.len
  obtain ⟨a2, c2, e2⟩ := h2.len
  subst e1 e2
  have HR1 := Lib.hid h1
  have HR2 := Lib.hid h2
  clear h1 h2
  go_enter Try.func49, Try.ntmps49
  go_wp2_with fail
  go_loopw [5] (fun i wl => ∃ k : Nat, k ≤ M.length ∧ i = .int .i64 k ∧ Below w.heap.size w wl) (fun i _ => M.length - (intOf i).toNat)
  case atStart => exact ⟨0, Nat.zero_le _, rfl, Below.refl _ _⟩
  case round =>
    obtain ⟨k, hk, rfl, hb⟩ := hrel
    rcases Nat.lt_or_ge k M.length with hlt | hge
    · have hcur : M[k]? = some M[k] := List.getElem?_eq_getElem hlt
      obtain ⟨b1, off1, hao1, hc1⟩ := HR1.out.cell (k := 11) (fun _ => rfl) rfl hcur
      obtain ⟨b2, off2, hao2, hc2⟩ := HR2.out.cell (k := 11) (fun _ => rfl) rfl hcur
      subst hao1 hao2
      generalize M[k] = y at *
      have hlt' : (k : Int) < M.length := by omega
      have c0 := cell_regrown ((hb.cell (p := ⟨b1, off1 + k * 11, none⟩) (World.block_lt_of_cell? w _ (hc1 0 _ rfl))).trans (hc1 0 _ rfl))
      have c1 := cell_regrown ((hb.cell (p := ⟨b1, off1 + k * 11 + 1, none⟩) (World.block_lt_of_cell? w _ (hc1 1 _ rfl))).trans (hc1 1 _ rfl))
      have c2 := cell_regrown ((hb.cell (p := ⟨b1, off1 + k * 11 + 2, none⟩) (World.block_lt_of_cell? w _ (hc1 2 _ rfl))).trans (hc1 2 _ rfl))
      have c3 := cell_regrown ((hb.cell (p := ⟨b1, off1 + k * 11 + 3, none⟩) (World.block_lt_of_cell? w _ (hc1 3 _ rfl))).trans (hc1 3 _ rfl))
      have c4 := cell_regrown ((hb.cell (p := ⟨b1, off1 + k * 11 + 4, none⟩) (World.block_lt_of_cell? w _ (hc1 4 _ rfl))).trans (hc1 4 _ rfl))
      have c5 := cell_regrown ((hb.cell (p := ⟨b1, off1 + k * 11 + 5, none⟩) (World.block_lt_of_cell? w _ (hc1 5 _ rfl))).trans (hc1 5 _ rfl))
      have c6 := cell_regrown ((hb.cell (p := ⟨b1, off1 + k * 11 + 6, none⟩) (World.block_lt_of_cell? w _ (hc1 6 _ rfl))).trans (hc1 6 _ rfl))
      have c7 := cell_regrown ((hb.cell (p := ⟨b1, off1 + k * 11 + 7, none⟩) (World.block_lt_of_cell? w _ (hc1 7 _ rfl))).trans (hc1 7 _ rfl))
      have c8 := cell_regrown ((hb.cell (p := ⟨b1, off1 + k * 11 + 8, none⟩) (World.block_lt_of_cell? w _ (hc1 8 _ rfl))).trans (hc1 8 _ rfl))
      have c9 := cell_regrown ((hb.cell (p := ⟨b1, off1 + k * 11 + 9, none⟩) (World.block_lt_of_cell? w _ (hc1 9 _ rfl))).trans (hc1 9 _ rfl))
      have c10 := cell_regrown ((hb.cell (p := ⟨b1, off1 + k * 11 + 10, none⟩) (World.block_lt_of_cell? w _ (hc1 10 _ rfl))).trans (hc1 10 _ rfl))
      have d0 := cell_regrown ((hb.cell (p := ⟨b2, off2 + k * 11, none⟩) (World.block_lt_of_cell? w _ (hc2 0 _ rfl))).trans (hc2 0 _ rfl))
      have d1 := cell_regrown ((hb.cell (p := ⟨b2, off2 + k * 11 + 1, none⟩) (World.block_lt_of_cell? w _ (hc2 1 _ rfl))).trans (hc2 1 _ rfl))
      have d2 := cell_regrown ((hb.cell (p := ⟨b2, off2 + k * 11 + 2, none⟩) (World.block_lt_of_cell? w _ (hc2 2 _ rfl))).trans (hc2 2 _ rfl))
      have d3 := cell_regrown ((hb.cell (p := ⟨b2, off2 + k * 11 + 3, none⟩) (World.block_lt_of_cell? w _ (hc2 3 _ rfl))).trans (hc2 3 _ rfl))
      have d4 := cell_regrown ((hb.cell (p := ⟨b2, off2 + k * 11 + 4, none⟩) (World.block_lt_of_cell? w _ (hc2 4 _ rfl))).trans (hc2 4 _ rfl))
      have d5 := cell_regrown ((hb.cell (p := ⟨b2, off2 + k * 11 + 5, none⟩) (World.block_lt_of_cell? w _ (hc2 5 _ rfl))).trans (hc2 5 _ rfl))
      have d6 := cell_regrown ((hb.cell (p := ⟨b2, off2 + k * 11 + 6, none⟩) (World.block_lt_of_cell? w _ (hc2 6 _ rfl))).trans (hc2 6 _ rfl))
      have d7 := cell_regrown ((hb.cell (p := ⟨b2, off2 + k * 11 + 7, none⟩) (World.block_lt_of_cell? w _ (hc2 7 _ rfl))).trans (hc2 7 _ rfl))
      have d8 := cell_regrown ((hb.cell (p := ⟨b2, off2 + k * 11 + 8, none⟩) (World.block_lt_of_cell? w _ (hc2 8 _ rfl))).trans (hc2 8 _ rfl))
      have d9 := cell_regrown ((hb.cell (p := ⟨b2, off2 + k * 11 + 9, none⟩) (World.block_lt_of_cell? w _ (hc2 9 _ rfl))).trans (hc2 9 _ rfl))
      have d10 := cell_regrown ((hb.cell (p := ⟨b2, off2 + k * 11 + 10, none⟩) (World.block_lt_of_cell? w _ (hc2 10 _ rfl))).trans (hc2 10 _ rfl))
      clear hc1 hc2 hcur
      have hEF := eq_fields_same y
      go_wp2_with fail
      (refine wp_region_quiet_below (by kernel_rfl) (by kernel_rfl) ?_; (repeat (go_big_quiet_step (fail))); refine wpQuiet_nil ?_; intro wqA hwq; have hbqA := below_of_class hwq; clear hwq)
      go_wp2_with fail
      go_roundw
      case rel => exact ⟨k + 1, by omega, by go_num, hbqA.via hb.size hb⟩
      case measure => simp [intOf]; omega
    · go_wp2_with fail
      go_ret
      exact ⟨rfl, hb⟩
end Go.Proofs.Ytggeehmcjndlgaa
