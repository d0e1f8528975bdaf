/-
  The document's tree: Depth, Move, Put, Drop.
-/
import Derived.Test.YtggeehmcjndlgaaDeep8
import Derived.Test.YtggeehmcjndlgaaRowSet
namespace Go.Proofs.Ytggeehmcjndlgaa
open Go Go.RowKit Go.Sort Go.Shelf
set_option linter.unusedVariables false
set_option linter.unusedSimpArgs false
set_option linter.unnecessarySimpa false

theorem ref8_deep : ∀ n, DeepSpec n
  | 0 => ref8_deep0
  | n + 1 => ref8_deepS n (ref8_deep n)

theorem ref3_Map (w : World) : Calls Try.prog 83 #[] w fun e w' => e = .returned (.agg #[.int .i64 0, .int .i64 0, .int .i64 64, .int .i64 64]) ∧ Below w.heap.size w w' := by
  go_enter Try.func83, Try.ntmps83
  go_wp2_with fail
  exact bodyPost_ret (v := .agg #[.int .i64 0, .int .i64 0, .int .i64 64, .int .i64 64]) (by simp [results, Try.results83, go_sem]) rfl ⟨rfl, (by (repeat (first | exact Below.refl _ _ | assumption | refine Below.alloc ?_ (by first | omega | (simp; done) | (simp; omega)) _ | refine Below.setCell ?_ (by first | omega | (simp; done) | (simp; omega)) _ | refine Below.drew ?_ | refine Below.draws ?_ _ | refine Below.via (by assumption) (by first | omega | (simp; done) | (simp; omega)) ?_)))⟩

set_option maxHeartbeats 1000000 in
theorem ref8_Depth (w : World) (base r : Nat) (v : Value) (L : Pts) (h : RTree w base r v L) (hl : L.length ≤ 1000) :
    Calls Try.prog 33 #[.pointer (some ⟨r, 0, none⟩)] w fun e w' => e = .returned (.int .i64 (deepR L 4 whole)) ∧ Below w.heap.size w w' := by
  have HD := Lib.hid (fun W' (hB' : Below w.heap.size w W') => ref8_deep 4 W' base r v L whole (h.below hB') hl (by omega) whole_sq whole_pw)
  clear h
  go_enter Try.func33, Try.ntmps33
  go_wp2_with fail
  refine Calls.mono (ref3_Map _) ?_
  rintro e w1 ⟨rfl, hb1⟩
  go_wp2_with fail
  refine Calls.mono (HD.out _ hb1) ?_
  rintro e w2 ⟨rfl, hb2⟩
  go_wp2_with fail
  go_ret
  exact ⟨retc (by simp), hb2.via hb1.size hb1⟩

def setM (L : Pts) (id : Int) (p : Int × Int) : Pts := if movC L id p = 0 then L.set (idxM L id) (id, p) else L
theorem setM_no {L : Pts} {id : Int} {p : Int × Int} (h : movC L id p ≠ 0) : setM L id p = L := if_neg h
theorem setM_yes {L : Pts} {id : Int} {p : Int × Int} (h : movC L id p = 0) : setM L id p = L.set (idxM L id) (id, p) := if_pos h

set_option maxHeartbeats 4000000 in
theorem ref8_Move (w : World) (base r : Nat) (v : Value) (L : Pts) (id : Int) (p : Int × Int) (h : RTree w base r v L) (hl : L.length ≤ 1000) :
    Calls Try.prog 23 #[.pointer (some ⟨r, 0, none⟩), .int .i64 id, .agg #[.int .i64 p.1, .int .i64 p.2]] w fun e w' => e = .returned (.int .i64 (movC L id p)) ∧ RTree w' base r v (setM L id p) ∧ Chg (fun k => v.ownBlock = some k) w w' := by
  have hbr := h.1
  obtain ⟨W, hWd⟩ : ∃ W, W = w.alloc (.cells #[.int .i64 p.1, .int .i64 p.2] 31) := ⟨_, rfl⟩
  have hW : Below w.heap.size w W := by rw [hWd]; exact (Below.refl _ w).alloc (Nat.le_refl _) _
  have hbox : W.heap[w.heap.size]? = some (.cells #[.int .i64 p.1, .int .i64 p.2] 31 (0, 0)) := by rw [hWd]; exact heap_alloc_new _ _
  have hat := ref8_at W base r v L id (h.below hW) hl
  cases hh : hasP L id
  · have hidx : idxI L id = -1 := by unfold idxI; rw [if_neg]; rw [idxM_lt, hh]; simp
    have hmv : movC L id p = 15 := by unfold movC; rw [if_pos hh]
    rw [hidx] at hat
    have HA := Lib.hid hat
    rw [setM_no (by rw [hmv]; decide), hmv]
    clear hat
    go_enter Try.func23, Try.ntmps23
    go_wp2_with fail
    rw [← hWd]
    clear hWd
    refine Calls.mono HA.out ?_
    rintro e w1 ⟨rfl, rfl⟩
    go_wp2_with fail
    go_ret
    exact ⟨rfl, h.below hW, Chg.of_below hW _⟩
  · have hlt : idxM L id < L.length := idxM_lt.2 hh
    have hidx : idxI L id = idxM L id := by unfold idxI; rw [if_pos hlt]
    have hcur : L[idxM L id]? = some L[idxM L id] := List.getElem?_eq_getElem hlt
    rw [hidx] at hat
    have HA := Lib.hid hat
    clear hat
    cases hon : onB p.1 p.2
    · have hmv : movC L id p = 14 := by unfold movC; rw [if_neg (by rw [hh]; simp), if_pos hon]
      rw [setM_no (by rw [hmv]; decide), hmv]
      have hx0 := cellAt hbox (o := 0) rfl
      have hx1 := cellAt hbox (o := 1) rfl
      go_enter Try.func23, Try.ntmps23
      go_wp2_with fail
      rw [← hWd]
      refine Calls.mono HA.out ?_
      rintro e w1 ⟨rfl, rfl⟩
      clear hWd
      go_wp2_with fail
      refine Calls.mono (ref3_On _ _ _) ?_
      rw [hon]
      rintro e w2 ⟨rfl, hb2⟩
      go_wp2_with fail
      go_ret
      exact ⟨rfl, (h.below hW).below hb2, Chg.of_below (hb2.via hW.size hW) _⟩
    · have hmv : movC L id p = 0 := by unfold movC; rw [if_neg (by rw [hh]; simp), if_neg (by rw [hon]; simp)]
      rw [setM_yes hmv, hmv]
      have HID : Hid (∀ e : Mark, L[idxM L id]? = some e → e.1 = id) := Lib.hid (fun e h => (idxM_at h).1)
      generalize idxM L id = k at *
      have hx0 := cellAt hbox (o := 0) rfl
      have hx1 := cellAt hbox (o := 1) rfl
      go_enter Try.func23, Try.ntmps23
      go_wp2_with fail
      rw [← hWd]
      refine Calls.mono HA.out ?_
      rintro e w1 ⟨rfl, rfl⟩
      clear hWd
      go_wp2_with fail
      refine Calls.mono (ref3_On _ _ _) ?_
      rw [hon]
      rintro e w2 ⟨rfl, hb2⟩
      have hW2 : Below w.heap.size w w2 := hb2.via hW.size hW
      have hbox2 := (hb2.block _ (lt_of_block hbox)).trans hbox
      have h2 := h.below hW2
      have k0 := cell_regrown (cellAt h2.1 (o := 0) rfl)
      have hy0 := cell_regrown (cellAt hbox2 (o := 0) rfl)
      have hy1 := cell_regrown (cellAt hbox2 (o := 1) rfl)
      obtain ⟨ao, cap, hv⟩ := h.2.1.reads.len
      subst hv
      have hne : L ≠ [] := fun e => by rw [e] at hlt; simp at hlt
      obtain ⟨g, cap', cur, hv, hbg, hcur2⟩ := h2.2.1.block hne
      simp only [Value.slice.injEq, true_and] at hv
      obtain ⟨rfl, rfl⟩ := hv
      obtain ⟨b, off, hao, hc⟩ := h2.2.1.reads.cell (k := 3) (fun _ => rfl) rfl hcur
      simp only [Option.some.injEq, Addr.mk.injEq, and_true] at hao
      obtain ⟨rfl, rfl⟩ := hao
      have c0 := hc 0 _ rfl
      have c1 := hc 1 _ rfl
      have c2 := hc 2 _ rfl
      have hid : L[k].1 = id := HID.out _ hcur
      rw [hid] at c0
      simp only [Nat.zero_add, Nat.add_zero] at c0 c1 c2
      have hlt' : (k : Int) < L.length := by omega
      have hlg := lt_of_block hcur2
      have HH := Lib.hid h
      have HH2 := Lib.hid h2
      have HCUR := Lib.hid hcur2
      clear hx0 hx1 hc hcur h h2 hbr hcur2
      go_wp2_with fail
      (refine wp_region_below_tail 8 (by kernel_rfl) (by kernel_rfl) ?_; simp only [List.take_succ_cons, List.take_zero, List.drop_succ_cons, List.drop_zero]; (repeat (go_big_quiet_step (fail))); refine wpQuiet_nil ?_; intro wqA hwq; have hbqA := below_of_class hwq; clear hwq)
      clear k0 hy0 hy1
      have hcurA := (hbqA.block g hlg).trans HCUR.out
      have c0 := (hbqA.cell (p := ⟨g, k * 3, none⟩) hlg).trans c0
      have d1 := (hbqA.cell (p := ⟨g, k * 3 + 1, none⟩) hlg).trans c1
      have d2 := (hbqA.cell (p := ⟨g, k * 3 + 2, none⟩) hlg).trans c2
      have f1 := freeAt (o := k * 3 + 1) hcurA
      have f2 := freeAt (o := k * 3 + 2) hcurA
      have HCA := Lib.hid hcurA
      clear c1 c2 hcurA
      go_wp2_with fail
      go_ret
      have s1 := set_cell_block (o := k * 3 + 1) HCA.out (.int .i64 p.1)
      have s2 := set_cell_block (o := k * 3 + 1 + 1) s1 (.int .i64 p.2)
      have e0 := cells_of_cell HCA.out c0
      have e2 := cells_of_cell HCA.out d2
      have hlt2 := (Array.getElem?_eq_some_iff.1 e2).1
      have hgr : g ≠ r := fun e => HH.out.2.2 (by rw [e]; rfl)
      have hA := HH2.out.below hbqA
      have hc2 : Chg (fun k => (Value.slice (some ⟨g, 0, none⟩) L.length cap).ownBlock = some k) wqA _ := (Chg.setCell (fun k => (Value.slice (some ⟨g, 0, none⟩) L.length cap).ownBlock = some k) wqA ⟨g, k * 3 + 1, none⟩ (.int .i64 p.1) (fun _ => rfl)).trans (Chg.setCell (fun k => (Value.slice (some ⟨g, 0, none⟩) L.length cap).ownBlock = some k) _ ⟨g, k * 3 + 1 + 1, none⟩ (.int .i64 p.2) (fun _ => rfl))
      refine ⟨rfl, ⟨?_, ?_, HH.out.2.2⟩, (Chg.of_below (hbqA.via hW2.size hW2) _).trans hc2⟩
      · exact hc2.heap hA.1 (fun e => hgr (by injection e))
      · refine hA.2.1.upd (fun _ => rfl) (by decide) HCA.out s2 (by simp) hlt (fun i u hi => ?_) (fun o ho => ?_)
        · have hi3 : i < 3 := (List.getElem?_eq_some_iff.1 hi).1
          match i, hi3 with
          | 0, _ => simp [encM] at hi; subst hi; rw [Array.getElem?_setIfInBounds_ne (by omega), Array.getElem?_setIfInBounds_ne (by omega)]; exact e0
          | 1, _ => simp [encM] at hi; subst hi; rw [Array.getElem?_setIfInBounds_ne (by omega), Array.getElem?_setIfInBounds_self_of_lt (by omega)]
          | 2, _ => simp [encM] at hi; subst hi; exact Array.getElem?_setIfInBounds_self_of_lt (by simp; omega)
        · rw [Array.getElem?_setIfInBounds_ne (by omega), Array.getElem?_setIfInBounds_ne (by omega)]
end Go.Proofs.Ytggeehmcjndlgaa
