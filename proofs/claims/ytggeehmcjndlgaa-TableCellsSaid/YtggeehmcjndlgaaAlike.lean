/-
  TablePlays' 'alike': a table and the document's row that are one list.
-/
import Derived.Test.YtggeehmcjndlgaaFew
namespace Go.Proofs.Ytggeehmcjndlgaa
open Go Go.RowKit Go.Sort Go.Shelf
set_option linter.unusedVariables false
set_option linter.unusedSimpArgs false
set_option linter.unnecessarySimpa false

/-- A step of the row. -/
structure S9 where
  what : Int
  c : Int
  X : Thg
  r : R4
def encS9 (s : S9) : List Value := [.int .i64 s.what, .int .i64 s.c, .int .i64 s.X.id, .int .i64 s.X.x, .int .i64 s.X.y, .int .i64 s.X.a.n, .string s.X.a.t, .int .i64 s.X.b.n, .string s.X.b.t, .int .i64 s.X.c.n, .string s.X.c.t, .int .i64 s.X.d.n, .string s.X.d.t, .int .i64 s.r.x0, .int .i64 s.r.y0, .int .i64 s.r.x1, .int .i64 s.r.y1]
def S9.val (s : S9) : Value := .agg #[.int .i64 s.what, .int .i64 s.c, .int .i64 s.X.id, .int .i64 s.X.x, .int .i64 s.X.y, .int .i64 s.X.a.n, .string s.X.a.t, .int .i64 s.X.b.n, .string s.X.b.t, .int .i64 s.X.c.n, .string s.X.c.t, .int .i64 s.X.d.n, .string s.X.d.t, .int .i64 s.r.x0, .int .i64 s.r.y0, .int .i64 s.r.x1, .int .i64 s.r.y1]

theorem idxT_find (id : Int) : ∀ M : Ths, M[idxT M id]? = M.find? fun x => x.id == id
  | [] => rfl
  | x :: M => by
    have ih := idxT_find id M
    unfold idxT at ih ⊢
    rw [List.findIdx_cons, List.find?_cons]
    cases h : (x.id == id)
    · simpa [h] using ih
    · simp [h]
theorem idxT_get {M : Ths} {id : Int} (h : hasT M id = true) : M[idxT M id]? = some (getT M id) := by
  rw [idxT_find]
  unfold getT
  cases hf : M.find? (fun x => x.id == id) with
  | none =>
    rw [List.find?_eq_none] at hf
    obtain ⟨x, hx, e⟩ := hasT_iff.1 h
    exact absurd (by simpa using e) (hf x hx)
  | some x => rfl

set_option maxHeartbeats 16000000 in
set_option maxRecDepth 100000 in
theorem law9_alike (w : World) (t : Nat) (M : Ths) (F : List Nat) (vr : Value) (s : S9) (hT : Tbl w t M F) (hr : Reads encT w vr M) (hl : M.length ≤ 1000) (hid : (Lit.int .i64 s.X.id).wf = true) :
    Calls Try.prog 48 #[.pointer (some ⟨t, 0, none⟩), vr, s.val] w fun e w' => e = .returned (.bool true) ∧ Below w.heap.size w w' := by
  obtain ⟨aor, capr, hvr⟩ := hr.len
  subst hvr
  obtain ⟨W, hWd⟩ : ∃ W, W = w.alloc (.cells #[.int .i64 s.what, .int .i64 s.c, .int .i64 s.X.id, .int .i64 s.X.x, .int .i64 s.X.y, .int .i64 s.X.a.n, .string s.X.a.t, .int .i64 s.X.b.n, .string s.X.b.t, .int .i64 s.X.c.n, .string s.X.c.t, .int .i64 s.X.d.n, .string s.X.d.t, .int .i64 s.r.x0, .int .i64 s.r.y0, .int .i64 s.r.x1, .int .i64 s.r.y1] 65) := ⟨_, rfl⟩
  have hW : Below w.heap.size w W := by rw [hWd]; exact (Below.refl _ w).alloc (Nat.le_refl _) _
  have hbox : W.heap[w.heap.size]? = some (.cells #[.int .i64 s.what, .int .i64 s.c, .int .i64 s.X.id, .int .i64 s.X.x, .int .i64 s.X.y, .int .i64 s.X.a.n, .string s.X.a.t, .int .i64 s.X.b.n, .string s.X.b.t, .int .i64 s.X.c.n, .string s.X.c.t, .int .i64 s.X.d.n, .string s.X.d.t, .int .i64 s.r.x0, .int .i64 s.r.y0, .int .i64 s.r.x1, .int .i64 s.r.y1] 65 (0, 0)) := by rw [hWd]; exact heap_alloc_new _ _
  obtain ⟨n, hn⟩ : ∃ n, n = w.heap.size := ⟨_, rfl⟩
  rw [← hn] at hbox
  have hS : ∀ W', Below W.heap.size W W' → W'.cell? ⟨n, 1, none⟩ = some (.int .i64 s.c) ∧ W'.cell? ⟨n, 2, none⟩ = some (.int .i64 s.X.id) ∧ W'.cell? ⟨n, 13, none⟩ = some (.int .i64 s.r.x0) ∧ W'.cell? ⟨n, 14, none⟩ = some (.int .i64 s.r.y0) ∧ W'.cell? ⟨n, 15, none⟩ = some (.int .i64 s.r.x1) ∧ W'.cell? ⟨n, 16, none⟩ = some (.int .i64 s.r.y1) := fun W' hb =>
    have h' := (hb.block _ (lt_of_block hbox)).trans hbox
    ⟨cellAt h' rfl, cellAt h' rfl, cellAt h' rfl, cellAt h' rfl, cellAt h' rfl, cellAt h' rfl⟩
  have HS := Lib.hid hS
  have HT0 := Lib.hid (hT.below hW)
  have HR0 := Lib.hid (Reads.later hr hW)
  have hlin : (inT M s.r).length ≤ 1000 := by have := inT_len M s.r; omega
  have hlce : (cellT M s.c).length ≤ 1000 := by
    unfold cellT
    split
    · have := inT_len M (rectC s.c); omega
    · simp
  have k1 := (hS W (Below.refl _ _)).1
  clear hT hr hbox hS
  unfold S9.val
  go_enter Try.func48, Try.ntmps48
  go_wp2_with fail
  rw [← hWd, ← hn]
  clear hWd hn
  refine Calls.mono (ref3_Rect s.c W) ?_
  rintro e w1 ⟨rfl, hb1⟩
  have hs1 := hb1.size
  have hb1' : Below W.heap.size W (w1.alloc (.cells #[.int .i64 (rectC s.c).x0, .int .i64 (rectC s.c).y0, .int .i64 (rectC s.c).x1, .int .i64 (rectC s.c).y1] 33)) := (by (repeat (first | exact Below.refl _ _ | assumption | refine Below.alloc ?_ (by first | omega | (simp; done) | (simp; omega)) _ | refine Below.setCell ?_ (by first | omega | (simp; done) | (simp; omega)) _ | refine Below.drew ?_ | refine Below.draws ?_ _ | refine Below.via (by assumption) (by first | omega | (simp; done) | (simp; omega)) ?_)))
  have k2 := (HS.out _ hb1').2.1
  have HB1' := Lib.hid hb1'
  clear k1 hb1'
  cases hic : isC s.c
  · have hcell : cellT M s.c = [] := by unfold cellT; rw [hic]; rfl
    have hgoal : True := trivial
    go_wp2_with fail
    obtain ⟨w2, hw2⟩ : ∃ w2, w2 = w1.alloc (.cells #[.int .i64 (rectC s.c).x0, .int .i64 (rectC s.c).y0, .int .i64 (rectC s.c).x1, .int .i64 (rectC s.c).y1] 33) := ⟨_, rfl⟩
    rw [← hw2] at HB1' ⊢
    have HB2 : Below W.heap.size W w2 := HB1'.out
    have HV9' : Hid (Reads encT w2 (.slice none 0 0) (cellT M s.c)) := Lib.hid (by rw [hcell]; exact (RowOf.nil 63 w2 0 (enc := encT) (k := 11)).reads)
    clear hw2 hcell
    have HG := Lib.hid (table_Get w2 t M F s.X.id (HT0.out.below HB2) hid)
    unfold Thg.val at HG
    have HGM := Lib.hid (idxT_get (M := M) (id := s.X.id))
    generalize getT M s.X.id = y at *
    refine Calls.mono HG.out ?_
    rintro e w3 ⟨rfl, hb3⟩
    have HB3 : Below W.heap.size W w3 := hb3.via HB2.size HB2
    obtain ⟨W3, hW3⟩ : ∃ W3, W3 = w3.alloc (.cells #[.int .i64 y.id, .int .i64 y.x, .int .i64 y.y, .int .i64 y.a.n, .string y.a.t, .int .i64 y.b.n, .string y.b.t, .int .i64 y.c.n, .string y.c.t, .int .i64 y.d.n, .string y.d.t] 63) := ⟨_, rfl⟩
    have HBW3 : Below W.heap.size W W3 := by rw [hW3]; exact HB3.alloc HB3.size _
    have hb23 : Below w2.heap.size w2 W3 := by rw [hW3]; exact hb3.alloc hb3.size _
    have k3 : (w3.alloc (.cells #[.int .i64 y.id, .int .i64 y.x, .int .i64 y.y, .int .i64 y.a.n, .string y.a.t, .int .i64 y.b.n, .string y.b.t, .int .i64 y.c.n, .string y.c.t, .int .i64 y.d.n, .string y.d.t] 63)).cell? ⟨n, 2, none⟩ = some (.int .i64 s.X.id) := by rw [← hW3]; exact (HS.out _ HBW3).2.1
    obtain ⟨nx, hnx⟩ : ∃ nx, nx = w3.heap.size := ⟨_, rfl⟩
    have hx3 : W3.heap[nx]? = some y.obj := by rw [hW3, hnx]; exact heap_alloc_new _ _
    have HX3 := Lib.hid hx3
    have HT := Lib.hid (HT0.out.below HBW3)
    have HR := Lib.hid (Reads.later HR0.out HBW3)
    have HV9 := Lib.hid (Reads.later HV9'.out hb23)
    have HS3 := Lib.hid (fun W' (hb : Below W3.heap.size W3 W') => HS.out W' (hb.via HBW3.size HBW3))
    have HA := Lib.hid (ref6_At W3 _ M s.X.id HR.out hl)
    have hWW3 := HBW3.via hW.size hW
    have HWW3 := Lib.hid hWW3
    clear k2 hx3 hb23 HBW3 hb3 HG hWW3
    go_wp2_with fail
    rw [← hnx, ← hW3]
    clear hnx hW3 k3
    refine Calls.mono HA.out ?_
    rintro e w4 ⟨rfl, rfl⟩
    cases hh : hasT M s.X.id
    · have hidx : idxTI M s.X.id = -1 := by unfold idxTI; rw [if_neg]; rw [idxT_lt, hh]; simp
      rw [hidx]
      have hcl : ∀ W', Below w4.heap.size w4 W' → W'.cell? ⟨n, 1, none⟩ = some (.int .i64 s.c) ∧ W'.cell? ⟨n, 2, none⟩ = some (.int .i64 s.X.id) ∧ W'.cell? ⟨n, 13, none⟩ = some (.int .i64 s.r.x0) ∧ W'.cell? ⟨n, 14, none⟩ = some (.int .i64 s.r.y0) ∧ W'.cell? ⟨n, 15, none⟩ = some (.int .i64 s.r.x1) ∧ W'.cell? ⟨n, 16, none⟩ = some (.int .i64 s.r.y1) := fun W' hb => HS3.out W' hb
      have HCL := Lib.hid hcl
      clear hcl hidx HA
      go_wp2_with fail
      first
      | go_region_held3 (fun W' => W'.cell? ⟨n, 1, none⟩ = some (.int .i64 s.c) ∧ W'.cell? ⟨n, 2, none⟩ = some (.int .i64 s.X.id) ∧ W'.cell? ⟨n, 13, none⟩ = some (.int .i64 s.r.x0) ∧ W'.cell? ⟨n, 14, none⟩ = some (.int .i64 s.r.y0) ∧ W'.cell? ⟨n, 15, none⟩ = some (.int .i64 s.r.x1) ∧ W'.cell? ⟨n, 16, none⟩ = some (.int .i64 s.r.y1)) (exact HCL.out _ (by (repeat (first | exact Below.refl _ _ | assumption | refine Below.alloc ?_ (by first | omega | (simp; done) | (simp; omega)) _ | refine Below.setCell ?_ (by first | omega | (simp; done) | (simp; omega)) _ | refine Below.drew ?_ | refine Below.draws ?_ _ | refine Below.via (by assumption) (by first | omega | (simp; done) | (simp; omega)) ?_))))
          (first
                    | (go_at_call 51; refine Calls.mono (table_All _ t M F (HT.out.below (by (repeat (first | exact Below.refl _ _ | assumption | refine Below.alloc ?_ (by first | omega | (simp; done) | (simp; omega)) _ | refine Below.setCell ?_ (by first | omega | (simp; done) | (simp; omega)) _ | refine Below.drew ?_ | refine Below.draws ?_ _ | refine Below.via (by assumption) (by first | omega | (simp; done) | (simp; omega)) ?_))))) ?_; rintro e wa ⟨va, rfl, hra, hba⟩; have HBA : Below w4.heap.size w4 wa := hba.via (by simp) (by (repeat (first | exact Below.refl _ _ | assumption | refine Below.alloc ?_ (by first | omega | (simp; done) | (simp; omega)) _ | refine Below.setCell ?_ (by first | omega | (simp; done) | (simp; omega)) _ | refine Below.drew ?_ | refine Below.draws ?_ _ | refine Below.via (by assumption) (by first | omega | (simp; done) | (simp; omega)) ?_))); have hsA := HBA.size; have HRA := Lib.hid hra.reads; clear hra hba)
                    | (go_at_call 56; refine Calls.mono (table_In _ t M F s.r (HT.out.below HBB)) ?_; rintro e wc ⟨vc, rfl, hrc, hbc⟩; have HBC : Below w4.heap.size w4 wc := hbc.via HBB.size HBB; have hsC := HBC.size; have HRC := Lib.hid hrc.reads; clear hrc hbc)
                    | (go_at_call 91; refine Calls.mono (ref6_Seen _ _ M s.r (Reads.later HR.out HBC) hl) ?_; rintro e wd ⟨vd, rfl, hrd, hbd⟩; have HBD : Below w4.heap.size w4 wd := hbd.via HBC.size HBC; have hsD := HBD.size; have HRC := Lib.hid (Reads.later HRC.out hbd); have HRD := Lib.hid hrd.reads; clear hrd hbd)
                    | (go_at_call 49; refine Calls.mono (ref6_SameAll _ _ _ _ HRC.out HRD.out hlin) ?_; rintro e we ⟨rfl, hbe⟩; have HBE : Below w4.heap.size w4 we := hbe.via HBD.size HBD; have hsE := HBE.size; clear hbe HRC HRD)
                    | (go_at_call 53; refine Calls.mono (table_Cell _ t M F s.c (HT.out.below HBE)) ?_; rintro e wf ⟨vf, rfl, hrf, hbf⟩; have HBF : Below w4.heap.size w4 wf := hbf.via HBE.size HBE; have hsF := HBF.size; have HRF := Lib.hid hrf.reads; clear hrf hbf)
                    | (go_at_call 49; refine Calls.mono (ref6_SameAll _ _ _ _ HRF.out (Reads.later HV9.out HBF) hlce) ?_; rintro e wg ⟨rfl, hbg⟩; have HBG : Below w4.heap.size w4 wg := hbg.via HBF.size HBF; have hsG := HBG.size; clear hbg)
                    | (go_at_call 49; refine Calls.mono (ref6_SameAll _ _ _ _ HRA.out (Reads.later HR.out HBA) hl) ?_; rintro e wb ⟨rfl, hbb⟩; have HBB : Below w4.heap.size w4 wb := hbb.via HBA.size HBA; have hsB := HBB.size; clear hbb HRA)
                    | (go_at_call 55; refine Calls.mono (table_Len _ t M F (HT.out.below HBG)) ?_; rintro e wh ⟨rfl, rfl⟩))
      | fail "region"
      all_goals
        go_wp2_with fail
        go_ret
        exact ⟨rfl, HBG.via HWW3.out.size HWW3.out⟩
    · have hlt : idxT M s.X.id < M.length := idxT_lt.2 hh
      have hidx : idxTI M s.X.id = idxT M s.X.id := by unfold idxTI; rw [if_pos hlt]
      rw [hidx]
      have hcur := HGM.out hh
      generalize idxT M s.X.id = k at *
      obtain ⟨be, oe, hao, hc⟩ := HR.out.cell (k := 11) (fun _ => rfl) rfl hcur
      subst hao
      have hcl : ∀ W', Below w4.heap.size w4 W' → (W'.cell? ⟨n, 1, none⟩ = some (.int .i64 s.c) ∧ W'.cell? ⟨n, 2, none⟩ = some (.int .i64 s.X.id) ∧ W'.cell? ⟨n, 13, none⟩ = some (.int .i64 s.r.x0) ∧ W'.cell? ⟨n, 14, none⟩ = some (.int .i64 s.r.y0) ∧ W'.cell? ⟨n, 15, none⟩ = some (.int .i64 s.r.x1) ∧ W'.cell? ⟨n, 16, none⟩ = some (.int .i64 s.r.y1)) ∧ (W'.cell? ⟨nx, 0, none⟩ = some (.int .i64 y.id) ∧ W'.cell? ⟨nx, 1, none⟩ = some (.int .i64 y.x) ∧ W'.cell? ⟨nx, 2, none⟩ = some (.int .i64 y.y) ∧ W'.cell? ⟨nx, 3, none⟩ = some (.int .i64 y.a.n) ∧ W'.cell? ⟨nx, 4, none⟩ = some (.string y.a.t) ∧ W'.cell? ⟨nx, 5, none⟩ = some (.int .i64 y.b.n) ∧ W'.cell? ⟨nx, 6, none⟩ = some (.string y.b.t) ∧ W'.cell? ⟨nx, 7, none⟩ = some (.int .i64 y.c.n) ∧ W'.cell? ⟨nx, 8, none⟩ = some (.string y.c.t) ∧ W'.cell? ⟨nx, 9, none⟩ = some (.int .i64 y.d.n) ∧ W'.cell? ⟨nx, 10, none⟩ = some (.string y.d.t)) ∧ (W'.cell? ⟨be, oe + k * 11, none⟩ = some (.int .i64 y.id) ∧ W'.cell? ⟨be, oe + k * 11 + 1, none⟩ = some (.int .i64 y.x) ∧ W'.cell? ⟨be, oe + k * 11 + 2, none⟩ = some (.int .i64 y.y) ∧ W'.cell? ⟨be, oe + k * 11 + 3, none⟩ = some (.int .i64 y.a.n) ∧ W'.cell? ⟨be, oe + k * 11 + 4, none⟩ = some (.string y.a.t) ∧ W'.cell? ⟨be, oe + k * 11 + 5, none⟩ = some (.int .i64 y.b.n) ∧ W'.cell? ⟨be, oe + k * 11 + 6, none⟩ = some (.string y.b.t) ∧ W'.cell? ⟨be, oe + k * 11 + 7, none⟩ = some (.int .i64 y.c.n) ∧ W'.cell? ⟨be, oe + k * 11 + 8, none⟩ = some (.string y.c.t) ∧ W'.cell? ⟨be, oe + k * 11 + 9, none⟩ = some (.int .i64 y.d.n) ∧ W'.cell? ⟨be, oe + k * 11 + 10, none⟩ = some (.string y.d.t)) := fun W' hb =>
        have h' := (hb.block _ (lt_of_block HX3.out)).trans HX3.out
        ⟨HS3.out W' hb, ⟨cellAt h' rfl, cellAt h' rfl, cellAt h' rfl, cellAt h' rfl, cellAt h' rfl, cellAt h' rfl, cellAt h' rfl, cellAt h' rfl, cellAt h' rfl, cellAt h' rfl, cellAt h' rfl⟩, ⟨(hb.cell (p := ⟨be, oe + k * 11, none⟩) (World.block_lt_of_cell? w4 _ (hc 0 _ rfl))).trans (hc 0 _ rfl), (hb.cell (p := ⟨be, oe + k * 11 + 1, none⟩) (World.block_lt_of_cell? w4 _ (hc 1 _ rfl))).trans (hc 1 _ rfl), (hb.cell (p := ⟨be, oe + k * 11 + 2, none⟩) (World.block_lt_of_cell? w4 _ (hc 2 _ rfl))).trans (hc 2 _ rfl), (hb.cell (p := ⟨be, oe + k * 11 + 3, none⟩) (World.block_lt_of_cell? w4 _ (hc 3 _ rfl))).trans (hc 3 _ rfl), (hb.cell (p := ⟨be, oe + k * 11 + 4, none⟩) (World.block_lt_of_cell? w4 _ (hc 4 _ rfl))).trans (hc 4 _ rfl), (hb.cell (p := ⟨be, oe + k * 11 + 5, none⟩) (World.block_lt_of_cell? w4 _ (hc 5 _ rfl))).trans (hc 5 _ rfl), (hb.cell (p := ⟨be, oe + k * 11 + 6, none⟩) (World.block_lt_of_cell? w4 _ (hc 6 _ rfl))).trans (hc 6 _ rfl), (hb.cell (p := ⟨be, oe + k * 11 + 7, none⟩) (World.block_lt_of_cell? w4 _ (hc 7 _ rfl))).trans (hc 7 _ rfl), (hb.cell (p := ⟨be, oe + k * 11 + 8, none⟩) (World.block_lt_of_cell? w4 _ (hc 8 _ rfl))).trans (hc 8 _ rfl), (hb.cell (p := ⟨be, oe + k * 11 + 9, none⟩) (World.block_lt_of_cell? w4 _ (hc 9 _ rfl))).trans (hc 9 _ rfl), (hb.cell (p := ⟨be, oe + k * 11 + 10, none⟩) (World.block_lt_of_cell? w4 _ (hc 10 _ rfl))).trans (hc 10 _ rfl)⟩⟩
      have HCL := Lib.hid hcl
      have hlt' : (k : Int) < M.length := by omega
      have hk0 : (0 : Int) ≤ (k : Int) := by omega
      have hEF := eq_fields_same y
      clear hcl hidx HA hc hcur
      go_wp2_with fail
      first
      | go_region_held3 (fun W' => (W'.cell? ⟨n, 1, none⟩ = some (.int .i64 s.c) ∧ W'.cell? ⟨n, 2, none⟩ = some (.int .i64 s.X.id) ∧ W'.cell? ⟨n, 13, none⟩ = some (.int .i64 s.r.x0) ∧ W'.cell? ⟨n, 14, none⟩ = some (.int .i64 s.r.y0) ∧ W'.cell? ⟨n, 15, none⟩ = some (.int .i64 s.r.x1) ∧ W'.cell? ⟨n, 16, none⟩ = some (.int .i64 s.r.y1)) ∧ (W'.cell? ⟨nx, 0, none⟩ = some (.int .i64 y.id) ∧ W'.cell? ⟨nx, 1, none⟩ = some (.int .i64 y.x) ∧ W'.cell? ⟨nx, 2, none⟩ = some (.int .i64 y.y) ∧ W'.cell? ⟨nx, 3, none⟩ = some (.int .i64 y.a.n) ∧ W'.cell? ⟨nx, 4, none⟩ = some (.string y.a.t) ∧ W'.cell? ⟨nx, 5, none⟩ = some (.int .i64 y.b.n) ∧ W'.cell? ⟨nx, 6, none⟩ = some (.string y.b.t) ∧ W'.cell? ⟨nx, 7, none⟩ = some (.int .i64 y.c.n) ∧ W'.cell? ⟨nx, 8, none⟩ = some (.string y.c.t) ∧ W'.cell? ⟨nx, 9, none⟩ = some (.int .i64 y.d.n) ∧ W'.cell? ⟨nx, 10, none⟩ = some (.string y.d.t)) ∧ (W'.cell? ⟨be, oe + k * 11, none⟩ = some (.int .i64 y.id) ∧ W'.cell? ⟨be, oe + k * 11 + 1, none⟩ = some (.int .i64 y.x) ∧ W'.cell? ⟨be, oe + k * 11 + 2, none⟩ = some (.int .i64 y.y) ∧ W'.cell? ⟨be, oe + k * 11 + 3, none⟩ = some (.int .i64 y.a.n) ∧ W'.cell? ⟨be, oe + k * 11 + 4, none⟩ = some (.string y.a.t) ∧ W'.cell? ⟨be, oe + k * 11 + 5, none⟩ = some (.int .i64 y.b.n) ∧ W'.cell? ⟨be, oe + k * 11 + 6, none⟩ = some (.string y.b.t) ∧ W'.cell? ⟨be, oe + k * 11 + 7, none⟩ = some (.int .i64 y.c.n) ∧ W'.cell? ⟨be, oe + k * 11 + 8, none⟩ = some (.string y.c.t) ∧ W'.cell? ⟨be, oe + k * 11 + 9, none⟩ = some (.int .i64 y.d.n) ∧ W'.cell? ⟨be, oe + k * 11 + 10, none⟩ = some (.string y.d.t))) (exact HCL.out _ (by (repeat (first | exact Below.refl _ _ | assumption | refine Below.alloc ?_ (by first | omega | (simp; done) | (simp; omega)) _ | refine Below.setCell ?_ (by first | omega | (simp; done) | (simp; omega)) _ | refine Below.drew ?_ | refine Below.draws ?_ _ | refine Below.via (by assumption) (by first | omega | (simp; done) | (simp; omega)) ?_))))
          (first
                    | (go_at_call 51; refine Calls.mono (table_All _ t M F (HT.out.below (by (repeat (first | exact Below.refl _ _ | assumption | refine Below.alloc ?_ (by first | omega | (simp; done) | (simp; omega)) _ | refine Below.setCell ?_ (by first | omega | (simp; done) | (simp; omega)) _ | refine Below.drew ?_ | refine Below.draws ?_ _ | refine Below.via (by assumption) (by first | omega | (simp; done) | (simp; omega)) ?_))))) ?_; rintro e wa ⟨va, rfl, hra, hba⟩; have HBA : Below w4.heap.size w4 wa := hba.via (by simp) (by (repeat (first | exact Below.refl _ _ | assumption | refine Below.alloc ?_ (by first | omega | (simp; done) | (simp; omega)) _ | refine Below.setCell ?_ (by first | omega | (simp; done) | (simp; omega)) _ | refine Below.drew ?_ | refine Below.draws ?_ _ | refine Below.via (by assumption) (by first | omega | (simp; done) | (simp; omega)) ?_))); have hsA := HBA.size; have HRA := Lib.hid hra.reads; clear hra hba)
                    | (go_at_call 56; refine Calls.mono (table_In _ t M F s.r (HT.out.below HBB)) ?_; rintro e wc ⟨vc, rfl, hrc, hbc⟩; have HBC : Below w4.heap.size w4 wc := hbc.via HBB.size HBB; have hsC := HBC.size; have HRC := Lib.hid hrc.reads; clear hrc hbc)
                    | (go_at_call 91; refine Calls.mono (ref6_Seen _ _ M s.r (Reads.later HR.out HBC) hl) ?_; rintro e wd ⟨vd, rfl, hrd, hbd⟩; have HBD : Below w4.heap.size w4 wd := hbd.via HBC.size HBC; have hsD := HBD.size; have HRC := Lib.hid (Reads.later HRC.out hbd); have HRD := Lib.hid hrd.reads; clear hrd hbd)
                    | (go_at_call 49; refine Calls.mono (ref6_SameAll _ _ _ _ HRC.out HRD.out hlin) ?_; rintro e we ⟨rfl, hbe⟩; have HBE : Below w4.heap.size w4 we := hbe.via HBD.size HBD; have hsE := HBE.size; clear hbe HRC HRD)
                    | (go_at_call 53; refine Calls.mono (table_Cell _ t M F s.c (HT.out.below HBE)) ?_; rintro e wf ⟨vf, rfl, hrf, hbf⟩; have HBF : Below w4.heap.size w4 wf := hbf.via HBE.size HBE; have hsF := HBF.size; have HRF := Lib.hid hrf.reads; clear hrf hbf)
                    | (go_at_call 49; refine Calls.mono (ref6_SameAll _ _ _ _ HRF.out (Reads.later HV9.out HBF) hlce) ?_; rintro e wg ⟨rfl, hbg⟩; have HBG : Below w4.heap.size w4 wg := hbg.via HBF.size HBF; have hsG := HBG.size; clear hbg)
                    | (go_at_call 49; refine Calls.mono (ref6_SameAll _ _ _ _ HRA.out (Reads.later HR.out HBA) hl) ?_; rintro e wb ⟨rfl, hbb⟩; have HBB : Below w4.heap.size w4 wb := hbb.via HBA.size HBA; have hsB := HBB.size; clear hbb HRA)
                    | (go_at_call 55; refine Calls.mono (table_Len _ t M F (HT.out.below HBG)) ?_; rintro e wh ⟨rfl, rfl⟩))
      | fail "region"
      all_goals
        go_wp2_with fail
        go_ret
        exact ⟨rfl, HBG.via HWW3.out.size HWW3.out⟩
  · have hcell : cellT M s.c = inT M (rectC s.c) := by unfold cellT; rw [hic]; rfl
    go_wp2_with fail
    refine Calls.mono (ref6_Seen _ _ M (rectC s.c) (Reads.later HR0.out HB1'.out) hl) ?_
    rintro e w2 ⟨v9, rfl, hr9, hb2⟩
    have HB2 : Below W.heap.size W w2 := hb2.via HB1'.out.size HB1'.out
    have HV9' : Hid (Reads encT w2 v9 (cellT M s.c)) := Lib.hid (by rw [hcell]; exact hr9.reads)
    obtain ⟨ao9, c9, hv9⟩ := hr9.reads.len
    have H9 := Lib.hid hv9
    have k2 := (HS.out _ HB2).2.1
    clear hr9 hb2 hcell hv9
    go_wp2_with fail
    have HG := Lib.hid (table_Get w2 t M F s.X.id (HT0.out.below HB2) hid)
    unfold Thg.val at HG
    have HGM := Lib.hid (idxT_get (M := M) (id := s.X.id))
    generalize getT M s.X.id = y at *
    refine Calls.mono HG.out ?_
    rintro e w3 ⟨rfl, hb3⟩
    have HB3 : Below W.heap.size W w3 := hb3.via HB2.size HB2
    obtain ⟨W3, hW3⟩ : ∃ W3, W3 = w3.alloc (.cells #[.int .i64 y.id, .int .i64 y.x, .int .i64 y.y, .int .i64 y.a.n, .string y.a.t, .int .i64 y.b.n, .string y.b.t, .int .i64 y.c.n, .string y.c.t, .int .i64 y.d.n, .string y.d.t] 63) := ⟨_, rfl⟩
    have HBW3 : Below W.heap.size W W3 := by rw [hW3]; exact HB3.alloc HB3.size _
    have hb23 : Below w2.heap.size w2 W3 := by rw [hW3]; exact hb3.alloc hb3.size _
    have k3 : (w3.alloc (.cells #[.int .i64 y.id, .int .i64 y.x, .int .i64 y.y, .int .i64 y.a.n, .string y.a.t, .int .i64 y.b.n, .string y.b.t, .int .i64 y.c.n, .string y.c.t, .int .i64 y.d.n, .string y.d.t] 63)).cell? ⟨n, 2, none⟩ = some (.int .i64 s.X.id) := by rw [← hW3]; exact (HS.out _ HBW3).2.1
    obtain ⟨nx, hnx⟩ : ∃ nx, nx = w3.heap.size := ⟨_, rfl⟩
    have hx3 : W3.heap[nx]? = some y.obj := by rw [hW3, hnx]; exact heap_alloc_new _ _
    have HX3 := Lib.hid hx3
    have HT := Lib.hid (HT0.out.below HBW3)
    have HR := Lib.hid (Reads.later HR0.out HBW3)
    have HV9 := Lib.hid (Reads.later HV9'.out hb23)
    have HS3 := Lib.hid (fun W' (hb : Below W3.heap.size W3 W') => HS.out W' (hb.via HBW3.size HBW3))
    have HA := Lib.hid (ref6_At W3 _ M s.X.id HR.out hl)
    have hWW3 := HBW3.via hW.size hW
    have HWW3 := Lib.hid hWW3
    clear k2 hx3 hb23 HBW3 hb3 HG hWW3
    go_wp2_with fail
    rw [← hnx, ← hW3]
    clear hnx hW3 k3
    refine Calls.mono HA.out ?_
    rintro e w4 ⟨rfl, rfl⟩
    cases hh : hasT M s.X.id
    · have hidx : idxTI M s.X.id = -1 := by unfold idxTI; rw [if_neg]; rw [idxT_lt, hh]; simp
      rw [hidx]
      have hcl : ∀ W', Below w4.heap.size w4 W' → W'.cell? ⟨n, 1, none⟩ = some (.int .i64 s.c) ∧ W'.cell? ⟨n, 2, none⟩ = some (.int .i64 s.X.id) ∧ W'.cell? ⟨n, 13, none⟩ = some (.int .i64 s.r.x0) ∧ W'.cell? ⟨n, 14, none⟩ = some (.int .i64 s.r.y0) ∧ W'.cell? ⟨n, 15, none⟩ = some (.int .i64 s.r.x1) ∧ W'.cell? ⟨n, 16, none⟩ = some (.int .i64 s.r.y1) := fun W' hb => HS3.out W' hb
      have HCL := Lib.hid hcl
      clear hcl hidx HA
      go_wp2_with fail
      first
      | go_region_held3 (fun W' => W'.cell? ⟨n, 1, none⟩ = some (.int .i64 s.c) ∧ W'.cell? ⟨n, 2, none⟩ = some (.int .i64 s.X.id) ∧ W'.cell? ⟨n, 13, none⟩ = some (.int .i64 s.r.x0) ∧ W'.cell? ⟨n, 14, none⟩ = some (.int .i64 s.r.y0) ∧ W'.cell? ⟨n, 15, none⟩ = some (.int .i64 s.r.x1) ∧ W'.cell? ⟨n, 16, none⟩ = some (.int .i64 s.r.y1)) (exact HCL.out _ (by (repeat (first | exact Below.refl _ _ | assumption | refine Below.alloc ?_ (by first | omega | (simp; done) | (simp; omega)) _ | refine Below.setCell ?_ (by first | omega | (simp; done) | (simp; omega)) _ | refine Below.drew ?_ | refine Below.draws ?_ _ | refine Below.via (by assumption) (by first | omega | (simp; done) | (simp; omega)) ?_))))
          (first
                    | (go_at_call 51; refine Calls.mono (table_All _ t M F (HT.out.below (by (repeat (first | exact Below.refl _ _ | assumption | refine Below.alloc ?_ (by first | omega | (simp; done) | (simp; omega)) _ | refine Below.setCell ?_ (by first | omega | (simp; done) | (simp; omega)) _ | refine Below.drew ?_ | refine Below.draws ?_ _ | refine Below.via (by assumption) (by first | omega | (simp; done) | (simp; omega)) ?_))))) ?_; rintro e wa ⟨va, rfl, hra, hba⟩; have HBA : Below w4.heap.size w4 wa := hba.via (by simp) (by (repeat (first | exact Below.refl _ _ | assumption | refine Below.alloc ?_ (by first | omega | (simp; done) | (simp; omega)) _ | refine Below.setCell ?_ (by first | omega | (simp; done) | (simp; omega)) _ | refine Below.drew ?_ | refine Below.draws ?_ _ | refine Below.via (by assumption) (by first | omega | (simp; done) | (simp; omega)) ?_))); have hsA := HBA.size; have HRA := Lib.hid hra.reads; clear hra hba)
                    | (go_at_call 56; refine Calls.mono (table_In _ t M F s.r (HT.out.below HBB)) ?_; rintro e wc ⟨vc, rfl, hrc, hbc⟩; have HBC : Below w4.heap.size w4 wc := hbc.via HBB.size HBB; have hsC := HBC.size; have HRC := Lib.hid hrc.reads; clear hrc hbc)
                    | (go_at_call 91; refine Calls.mono (ref6_Seen _ _ M s.r (Reads.later HR.out HBC) hl) ?_; rintro e wd ⟨vd, rfl, hrd, hbd⟩; have HBD : Below w4.heap.size w4 wd := hbd.via HBC.size HBC; have hsD := HBD.size; have HRC := Lib.hid (Reads.later HRC.out hbd); have HRD := Lib.hid hrd.reads; clear hrd hbd)
                    | (go_at_call 49; refine Calls.mono (ref6_SameAll _ _ _ _ HRC.out HRD.out hlin) ?_; rintro e we ⟨rfl, hbe⟩; have HBE : Below w4.heap.size w4 we := hbe.via HBD.size HBD; have hsE := HBE.size; clear hbe HRC HRD)
                    | (go_at_call 53; refine Calls.mono (table_Cell _ t M F s.c (HT.out.below HBE)) ?_; rintro e wf ⟨vf, rfl, hrf, hbf⟩; have HBF : Below w4.heap.size w4 wf := hbf.via HBE.size HBE; have hsF := HBF.size; have HRF := Lib.hid hrf.reads; clear hrf hbf)
                    | (go_at_call 49; refine Calls.mono (ref6_SameAll _ _ _ _ HRF.out (Reads.later HV9.out HBF) hlce) ?_; rintro e wg ⟨rfl, hbg⟩; have HBG : Below w4.heap.size w4 wg := hbg.via HBF.size HBF; have hsG := HBG.size; clear hbg)
                    | (go_at_call 49; refine Calls.mono (ref6_SameAll _ _ _ _ HRA.out (Reads.later HR.out HBA) hl) ?_; rintro e wb ⟨rfl, hbb⟩; have HBB : Below w4.heap.size w4 wb := hbb.via HBA.size HBA; have hsB := HBB.size; clear hbb HRA)
                    | (go_at_call 55; refine Calls.mono (table_Len _ t M F (HT.out.below HBG)) ?_; rintro e wh ⟨rfl, rfl⟩))
      | fail "region"
      all_goals
        go_wp2_with fail
        go_ret
        exact ⟨rfl, HBG.via HWW3.out.size HWW3.out⟩
    · have hlt : idxT M s.X.id < M.length := idxT_lt.2 hh
      have hidx : idxTI M s.X.id = idxT M s.X.id := by unfold idxTI; rw [if_pos hlt]
      rw [hidx]
      have hcur := HGM.out hh
      generalize idxT M s.X.id = k at *
      obtain ⟨be, oe, hao, hc⟩ := HR.out.cell (k := 11) (fun _ => rfl) rfl hcur
      subst hao
      have hcl : ∀ W', Below w4.heap.size w4 W' → (W'.cell? ⟨n, 1, none⟩ = some (.int .i64 s.c) ∧ W'.cell? ⟨n, 2, none⟩ = some (.int .i64 s.X.id) ∧ W'.cell? ⟨n, 13, none⟩ = some (.int .i64 s.r.x0) ∧ W'.cell? ⟨n, 14, none⟩ = some (.int .i64 s.r.y0) ∧ W'.cell? ⟨n, 15, none⟩ = some (.int .i64 s.r.x1) ∧ W'.cell? ⟨n, 16, none⟩ = some (.int .i64 s.r.y1)) ∧ (W'.cell? ⟨nx, 0, none⟩ = some (.int .i64 y.id) ∧ W'.cell? ⟨nx, 1, none⟩ = some (.int .i64 y.x) ∧ W'.cell? ⟨nx, 2, none⟩ = some (.int .i64 y.y) ∧ W'.cell? ⟨nx, 3, none⟩ = some (.int .i64 y.a.n) ∧ W'.cell? ⟨nx, 4, none⟩ = some (.string y.a.t) ∧ W'.cell? ⟨nx, 5, none⟩ = some (.int .i64 y.b.n) ∧ W'.cell? ⟨nx, 6, none⟩ = some (.string y.b.t) ∧ W'.cell? ⟨nx, 7, none⟩ = some (.int .i64 y.c.n) ∧ W'.cell? ⟨nx, 8, none⟩ = some (.string y.c.t) ∧ W'.cell? ⟨nx, 9, none⟩ = some (.int .i64 y.d.n) ∧ W'.cell? ⟨nx, 10, none⟩ = some (.string y.d.t)) ∧ (W'.cell? ⟨be, oe + k * 11, none⟩ = some (.int .i64 y.id) ∧ W'.cell? ⟨be, oe + k * 11 + 1, none⟩ = some (.int .i64 y.x) ∧ W'.cell? ⟨be, oe + k * 11 + 2, none⟩ = some (.int .i64 y.y) ∧ W'.cell? ⟨be, oe + k * 11 + 3, none⟩ = some (.int .i64 y.a.n) ∧ W'.cell? ⟨be, oe + k * 11 + 4, none⟩ = some (.string y.a.t) ∧ W'.cell? ⟨be, oe + k * 11 + 5, none⟩ = some (.int .i64 y.b.n) ∧ W'.cell? ⟨be, oe + k * 11 + 6, none⟩ = some (.string y.b.t) ∧ W'.cell? ⟨be, oe + k * 11 + 7, none⟩ = some (.int .i64 y.c.n) ∧ W'.cell? ⟨be, oe + k * 11 + 8, none⟩ = some (.string y.c.t) ∧ W'.cell? ⟨be, oe + k * 11 + 9, none⟩ = some (.int .i64 y.d.n) ∧ W'.cell? ⟨be, oe + k * 11 + 10, none⟩ = some (.string y.d.t)) := fun W' hb =>
        have h' := (hb.block _ (lt_of_block HX3.out)).trans HX3.out
        ⟨HS3.out W' hb, ⟨cellAt h' rfl, cellAt h' rfl, cellAt h' rfl, cellAt h' rfl, cellAt h' rfl, cellAt h' rfl, cellAt h' rfl, cellAt h' rfl, cellAt h' rfl, cellAt h' rfl, cellAt h' rfl⟩, ⟨(hb.cell (p := ⟨be, oe + k * 11, none⟩) (World.block_lt_of_cell? w4 _ (hc 0 _ rfl))).trans (hc 0 _ rfl), (hb.cell (p := ⟨be, oe + k * 11 + 1, none⟩) (World.block_lt_of_cell? w4 _ (hc 1 _ rfl))).trans (hc 1 _ rfl), (hb.cell (p := ⟨be, oe + k * 11 + 2, none⟩) (World.block_lt_of_cell? w4 _ (hc 2 _ rfl))).trans (hc 2 _ rfl), (hb.cell (p := ⟨be, oe + k * 11 + 3, none⟩) (World.block_lt_of_cell? w4 _ (hc 3 _ rfl))).trans (hc 3 _ rfl), (hb.cell (p := ⟨be, oe + k * 11 + 4, none⟩) (World.block_lt_of_cell? w4 _ (hc 4 _ rfl))).trans (hc 4 _ rfl), (hb.cell (p := ⟨be, oe + k * 11 + 5, none⟩) (World.block_lt_of_cell? w4 _ (hc 5 _ rfl))).trans (hc 5 _ rfl), (hb.cell (p := ⟨be, oe + k * 11 + 6, none⟩) (World.block_lt_of_cell? w4 _ (hc 6 _ rfl))).trans (hc 6 _ rfl), (hb.cell (p := ⟨be, oe + k * 11 + 7, none⟩) (World.block_lt_of_cell? w4 _ (hc 7 _ rfl))).trans (hc 7 _ rfl), (hb.cell (p := ⟨be, oe + k * 11 + 8, none⟩) (World.block_lt_of_cell? w4 _ (hc 8 _ rfl))).trans (hc 8 _ rfl), (hb.cell (p := ⟨be, oe + k * 11 + 9, none⟩) (World.block_lt_of_cell? w4 _ (hc 9 _ rfl))).trans (hc 9 _ rfl), (hb.cell (p := ⟨be, oe + k * 11 + 10, none⟩) (World.block_lt_of_cell? w4 _ (hc 10 _ rfl))).trans (hc 10 _ rfl)⟩⟩
      have HCL := Lib.hid hcl
      have hlt' : (k : Int) < M.length := by omega
      have hk0 : (0 : Int) ≤ (k : Int) := by omega
      have hEF := eq_fields_same y
      clear hcl hidx HA hc hcur
      go_wp2_with fail
      first
      | go_region_held3 (fun W' => (W'.cell? ⟨n, 1, none⟩ = some (.int .i64 s.c) ∧ W'.cell? ⟨n, 2, none⟩ = some (.int .i64 s.X.id) ∧ W'.cell? ⟨n, 13, none⟩ = some (.int .i64 s.r.x0) ∧ W'.cell? ⟨n, 14, none⟩ = some (.int .i64 s.r.y0) ∧ W'.cell? ⟨n, 15, none⟩ = some (.int .i64 s.r.x1) ∧ W'.cell? ⟨n, 16, none⟩ = some (.int .i64 s.r.y1)) ∧ (W'.cell? ⟨nx, 0, none⟩ = some (.int .i64 y.id) ∧ W'.cell? ⟨nx, 1, none⟩ = some (.int .i64 y.x) ∧ W'.cell? ⟨nx, 2, none⟩ = some (.int .i64 y.y) ∧ W'.cell? ⟨nx, 3, none⟩ = some (.int .i64 y.a.n) ∧ W'.cell? ⟨nx, 4, none⟩ = some (.string y.a.t) ∧ W'.cell? ⟨nx, 5, none⟩ = some (.int .i64 y.b.n) ∧ W'.cell? ⟨nx, 6, none⟩ = some (.string y.b.t) ∧ W'.cell? ⟨nx, 7, none⟩ = some (.int .i64 y.c.n) ∧ W'.cell? ⟨nx, 8, none⟩ = some (.string y.c.t) ∧ W'.cell? ⟨nx, 9, none⟩ = some (.int .i64 y.d.n) ∧ W'.cell? ⟨nx, 10, none⟩ = some (.string y.d.t)) ∧ (W'.cell? ⟨be, oe + k * 11, none⟩ = some (.int .i64 y.id) ∧ W'.cell? ⟨be, oe + k * 11 + 1, none⟩ = some (.int .i64 y.x) ∧ W'.cell? ⟨be, oe + k * 11 + 2, none⟩ = some (.int .i64 y.y) ∧ W'.cell? ⟨be, oe + k * 11 + 3, none⟩ = some (.int .i64 y.a.n) ∧ W'.cell? ⟨be, oe + k * 11 + 4, none⟩ = some (.string y.a.t) ∧ W'.cell? ⟨be, oe + k * 11 + 5, none⟩ = some (.int .i64 y.b.n) ∧ W'.cell? ⟨be, oe + k * 11 + 6, none⟩ = some (.string y.b.t) ∧ W'.cell? ⟨be, oe + k * 11 + 7, none⟩ = some (.int .i64 y.c.n) ∧ W'.cell? ⟨be, oe + k * 11 + 8, none⟩ = some (.string y.c.t) ∧ W'.cell? ⟨be, oe + k * 11 + 9, none⟩ = some (.int .i64 y.d.n) ∧ W'.cell? ⟨be, oe + k * 11 + 10, none⟩ = some (.string y.d.t))) (exact HCL.out _ (by (repeat (first | exact Below.refl _ _ | assumption | refine Below.alloc ?_ (by first | omega | (simp; done) | (simp; omega)) _ | refine Below.setCell ?_ (by first | omega | (simp; done) | (simp; omega)) _ | refine Below.drew ?_ | refine Below.draws ?_ _ | refine Below.via (by assumption) (by first | omega | (simp; done) | (simp; omega)) ?_))))
          (first
                    | (go_at_call 51; refine Calls.mono (table_All _ t M F (HT.out.below (by (repeat (first | exact Below.refl _ _ | assumption | refine Below.alloc ?_ (by first | omega | (simp; done) | (simp; omega)) _ | refine Below.setCell ?_ (by first | omega | (simp; done) | (simp; omega)) _ | refine Below.drew ?_ | refine Below.draws ?_ _ | refine Below.via (by assumption) (by first | omega | (simp; done) | (simp; omega)) ?_))))) ?_; rintro e wa ⟨va, rfl, hra, hba⟩; have HBA : Below w4.heap.size w4 wa := hba.via (by simp) (by (repeat (first | exact Below.refl _ _ | assumption | refine Below.alloc ?_ (by first | omega | (simp; done) | (simp; omega)) _ | refine Below.setCell ?_ (by first | omega | (simp; done) | (simp; omega)) _ | refine Below.drew ?_ | refine Below.draws ?_ _ | refine Below.via (by assumption) (by first | omega | (simp; done) | (simp; omega)) ?_))); have hsA := HBA.size; have HRA := Lib.hid hra.reads; clear hra hba)
                    | (go_at_call 56; refine Calls.mono (table_In _ t M F s.r (HT.out.below HBB)) ?_; rintro e wc ⟨vc, rfl, hrc, hbc⟩; have HBC : Below w4.heap.size w4 wc := hbc.via HBB.size HBB; have hsC := HBC.size; have HRC := Lib.hid hrc.reads; clear hrc hbc)
                    | (go_at_call 91; refine Calls.mono (ref6_Seen _ _ M s.r (Reads.later HR.out HBC) hl) ?_; rintro e wd ⟨vd, rfl, hrd, hbd⟩; have HBD : Below w4.heap.size w4 wd := hbd.via HBC.size HBC; have hsD := HBD.size; have HRC := Lib.hid (Reads.later HRC.out hbd); have HRD := Lib.hid hrd.reads; clear hrd hbd)
                    | (go_at_call 49; refine Calls.mono (ref6_SameAll _ _ _ _ HRC.out HRD.out hlin) ?_; rintro e we ⟨rfl, hbe⟩; have HBE : Below w4.heap.size w4 we := hbe.via HBD.size HBD; have hsE := HBE.size; clear hbe HRC HRD)
                    | (go_at_call 53; refine Calls.mono (table_Cell _ t M F s.c (HT.out.below HBE)) ?_; rintro e wf ⟨vf, rfl, hrf, hbf⟩; have HBF : Below w4.heap.size w4 wf := hbf.via HBE.size HBE; have hsF := HBF.size; have HRF := Lib.hid hrf.reads; clear hrf hbf)
                    | (go_at_call 49; refine Calls.mono (ref6_SameAll _ _ _ _ HRF.out (Reads.later HV9.out HBF) hlce) ?_; rintro e wg ⟨rfl, hbg⟩; have HBG : Below w4.heap.size w4 wg := hbg.via HBF.size HBF; have hsG := HBG.size; clear hbg)
                    | (go_at_call 49; refine Calls.mono (ref6_SameAll _ _ _ _ HRA.out (Reads.later HR.out HBA) hl) ?_; rintro e wb ⟨rfl, hbb⟩; have HBB : Below w4.heap.size w4 wb := hbb.via HBA.size HBA; have hsB := HBB.size; clear hbb HRA)
                    | (go_at_call 55; refine Calls.mono (table_Len _ t M F (HT.out.below HBG)) ?_; rintro e wh ⟨rfl, rfl⟩))
      | fail "region"
      all_goals
        go_wp2_with fail
        go_ret
        exact ⟨rfl, HBG.via HWW3.out.size HWW3.out⟩
end Go.Proofs.Ytggeehmcjndlgaa
