/-
  The document's tree (vedetteref8): marks in a row.
-/
import Derived.Test.YtggeehmcjndlgaaLone
import Derived.Test.YtggeehmcjndlgaaRef3
namespace Go.Proofs.Ytggeehmcjndlgaa
open Go Go.RowKit Go.Sort Go.Shelf

def encM (e : Mark) : List Value := [.int .i64 e.1, .int .i64 e.2.1, .int .i64 e.2.2]
/-- Block r is the document's tree, its row v of the call's own (blocks from base on). -/
def RTree (w : World) (base r : Nat) (v : Value) (L : Pts) : Prop :=
  w.heap[r]? = some (.cells #[v] 29 (0, 0)) ∧ RowOf encM 3 116 w base v L ∧ v.ownBlock ≠ some r
/-- Where the number is. -/
def idxM (L : Pts) (id : Int) : Nat := L.findIdx fun e => e.1 == id
def idxI (L : Pts) (id : Int) : Int := if idxM L id < L.length then idxM L id else -1

set_option maxHeartbeats 2000000 in
theorem ref8_at (w : World) (base r : Nat) (v : Value) (L : Pts) (id : Int) (h : RTree w base r v L) (hl : L.length ≤ 1000) :
    Calls Try.prog 75 #[.pointer (some ⟨r, 0, none⟩), .int .i64 id] w fun e w' => e = .returned (.int .i64 (idxI L id)) ∧ w' = w := by
  obtain ⟨hb, hrow, _⟩ := h
  obtain ⟨ao, cap, hv⟩ := hrow.reads.len
  subst hv
  have k0 := cellAt hb (o := 0) rfl
  have HR := Lib.hid hrow
  clear hrow
  go_enter Try.func75, Try.ntmps75
  go_wp2_with fail
  go_loop [5] (fun i => ∃ k : Nat, k ≤ L.length ∧ i = .int .i64 k ∧ k ≤ idxM L id) (fun i => L.length - (intOf i).toNat)
  case atStart => exact ⟨0, Nat.zero_le _, rfl, Nat.zero_le _⟩
  case round =>
    obtain ⟨k, hk, rfl, hki⟩ := hrel
    rcases Nat.lt_or_ge k L.length with hlt | hge
    · have hcur : L[k]? = some L[k] := List.getElem?_eq_getElem hlt
      obtain ⟨b, off, hao, hc⟩ := HR.out.reads.cell (k := 3) (fun _ => rfl) rfl hcur
      subst hao
      have c0 := hc 0 _ rfl
      rw [Nat.add_zero] at c0
      by_cases heq : L[k].1 = id
      · have hidx : idxM L id = k := by
          rcases Nat.lt_or_ge k (idxM L id) with h | h
          · have := List.not_of_lt_findIdx (p := fun e : Mark => e.1 == id) (xs := L) h
            simp [heq] at this
          · omega
        have hres : idxI L id = k := by unfold idxI; rw [hidx, if_pos hlt]
        generalize L[k].1 = z at *
        go_wp2_with fail
        go_ret
        exact ⟨rfl, rfl⟩
      · have hidx : k + 1 ≤ idxM L id := by
          rcases Nat.lt_or_ge (idxM L id) (k + 1) with h | h
          · exfalso
            have he : idxM L id = k := by omega
            have hlt' : L.findIdx (fun e => e.1 == id) < L.length := by show idxM L id < L.length; omega
            have := List.findIdx_getElem (w := hlt')
            simp only [beq_iff_eq] at this
            apply heq
            rw [← this]
            congr 2
            exact he.symm
          · exact h
        generalize L[k].1 = z at *
        go_wp2_with fail
        go_round
        case rel => exact ⟨k + 1, by omega, by go_num, hidx⟩
        case measure => simp [intOf]; omega
    · have hres : idxI L id = -1 := by unfold idxI; rw [if_neg (by omega)]
      go_wp2_with fail
      go_ret
      exact ⟨rfl, rfl⟩

theorem idxM_find (id : Int) : ∀ L : Pts, L[idxM L id]? = L.find? fun e => e.1 == id
  | [] => rfl
  | x :: L => by
    have ih := idxM_find id L
    unfold idxM at ih ⊢
    rw [List.findIdx_cons, List.find?_cons]
    cases h : (x.1 == id)
    · simpa [h] using ih
    · simp [h]
theorem idxM_lt {L : Pts} {id : Int} : idxM L id < L.length ↔ hasP L id = true := by
  unfold idxM hasP
  rw [List.findIdx_lt_length, List.any_eq_true]
theorem idxM_at {L : Pts} {id : Int} {e : Mark} (h : L[idxM L id]? = some e) : e.1 = id ∧ atP L id = e.2 := by
  rw [idxM_find] at h
  refine ⟨by simpa using List.find?_some h, ?_⟩
  unfold atP findP
  rw [h]; rfl
theorem atP_none {L : Pts} {id : Int} (h : hasP L id = false) : atP L id = (0, 0) := by
  unfold atP findP
  have : L.find? (fun e => e.1 == id) = none := List.find?_eq_none.2 fun e he hh => by
    have : hasP L id = true := List.any_eq_true.2 ⟨e, he, hh⟩
    rw [h] at this; cases this
  rw [this]; rfl

set_option maxHeartbeats 2000000 in
theorem ref8_At (w : World) (base r : Nat) (v : Value) (L : Pts) (id : Int) (h : RTree w base r v L) (hl : L.length ≤ 1000) :
    Calls Try.prog 27 #[.pointer (some ⟨r, 0, none⟩), .int .i64 id] w fun e w' => e = .returned (.tuple #[.agg #[.int .i64 (atP L id).1, .int .i64 (atP L id).2], .bool (hasP L id)]) ∧ Below w.heap.size w w' := by
  have hbr := h.1
  have h' : RTree (w.alloc (.cells #[.int .i64 0, .int .i64 0] 31)) base r v L := ⟨(Below.heap_alloc _ _ _ (lt_of_block h.1)).trans h.1, RowOf.alloc h.2.1 _, h.2.2⟩
  have hat := ref8_at _ base r v L id h' hl
  cases hh : hasP L id
  · have hidx : idxI L id = -1 := by unfold idxI; rw [if_neg]; rw [idxM_lt, hh]; simp
    rw [atP_none hh]
    rw [hidx] at hat
    have HA := Lib.hid hat
    clear hat h h'
    go_enter Try.func27, Try.ntmps27
    go_wp2_with fail
    refine Calls.mono HA.out ?_
    rintro e w1 ⟨rfl, rfl⟩
    go_wp2_with fail
    exact bodyPost_ret (v := .tuple #[.agg #[.int .i64 0, .int .i64 0], .bool false]) (by simp [results, Try.results27, go_sem]) rfl ⟨rfl, (by (repeat (first | exact Below.refl _ _ | assumption | refine Below.alloc ?_ (by first | omega | (simp; done) | (simp; omega)) _ | refine Below.setCell ?_ (by first | omega | (simp; done) | (simp; omega)) _ | refine Below.drew ?_ | refine Below.draws ?_ _ | refine Below.via (by assumption) (by first | omega | (simp; done) | (simp; omega)) ?_)))⟩
  · have hlt : idxM L id < L.length := idxM_lt.2 hh
    have hidx : idxI L id = idxM L id := by unfold idxI; rw [if_pos hlt]
    have hcur : L[idxM L id]? = some L[idxM L id] := List.getElem?_eq_getElem hlt
    rw [(idxM_at hcur).2]
    rw [hidx] at hat
    generalize L[idxM L id] = z at *
    generalize hk : idxM L id = k at *
    obtain ⟨ao, cap, hv⟩ := h.2.1.reads.len
    obtain ⟨b, off, hao, hc⟩ := h.2.1.reads.cell (k := 3) (fun _ => rfl) hv hcur
    subst hv
    subst hao
    have c1 := hc 1 _ rfl
    have c2 := hc 2 _ rfl
    have HA := Lib.hid hat
    have hk0 := cellAt h'.1 (o := 0) rfl
    have hl1 := World.block_lt_of_cell? w _ c1
    have d1 := (Below.heap_alloc w (.cells #[.int .i64 0, .int .i64 0] 31) b hl1)
    have e1 := (World.cell?_of_block (w := w) (a := ⟨b, off + k * 3 + 1, none⟩) d1).trans c1
    have e2 := (World.cell?_of_block (w := w) (a := ⟨b, off + k * 3 + 2, none⟩) d1).trans c2
    clear hat h h' hc
    go_enter Try.func27, Try.ntmps27
    go_wp2_with fail
    refine Calls.mono HA.out ?_
    rintro e w1 ⟨rfl, rfl⟩
    go_wp2_with fail
    exact bodyPost_ret (v := .tuple #[.agg #[.int .i64 z.2.1, .int .i64 z.2.2], .bool true]) (by simp [results, Try.results27, go_sem]) rfl ⟨rfl, (by (repeat (first | exact Below.refl _ _ | assumption | refine Below.alloc ?_ (by first | omega | (simp; done) | (simp; omega)) _ | refine Below.setCell ?_ (by first | omega | (simp; done) | (simp; omega)) _ | refine Below.drew ?_ | refine Below.draws ?_ _ | refine Below.via (by assumption) (by first | omega | (simp; done) | (simp; omega)) ?_)))⟩

theorem inL_take_succ {L : Pts} {k : Nat} {e : Mark} (h : L[k]? = some e) (r : R4) : inL (L.take (k + 1)) r = inL (L.take k) r ++ if inB r e.2.1 e.2.2 then [e.1] else [] := by
  rw [List.take_add_one, h]
  simp only [Option.toList_some, inL, List.filter_append, List.map_append]
  congr 1
  rw [List.filter_cons]
  split <;> rfl

set_option maxHeartbeats 4000000 in
theorem ref8_In (w : World) (base r : Nat) (v : Value) (L : Pts) (q : R4) (h : RTree w base r v L) (hl : L.length ≤ 1000) :
    Calls Try.prog 30 #[.pointer (some ⟨r, 0, none⟩), .agg #[.int .i64 q.x0, .int .i64 q.y0, .int .i64 q.x1, .int .i64 q.y1]] w fun e w' => ∃ v, e = .returned v ∧ RowOf encI 1 3 w' w.heap.size v (inL L q) ∧ Below w.heap.size w w' := by
  obtain ⟨hb, hrow, _⟩ := h
  obtain ⟨ao, cap, hv⟩ := hrow.reads.len
  subst hv
  obtain ⟨W, hWd⟩ : ∃ W, W = w.alloc (.cells #[.int .i64 q.x0, .int .i64 q.y0, .int .i64 q.x1, .int .i64 q.y1] 33) := ⟨_, rfl⟩
  have hW : Below w.heap.size w W := by rw [hWd]; exact (Below.refl _ w).alloc (Nat.le_refl _) _
  have hbox : W.heap[w.heap.size]? = some (.cells #[.int .i64 q.x0, .int .i64 q.y0, .int .i64 q.x1, .int .i64 q.y1] 33 (0, 0)) := by rw [hWd]; exact heap_alloc_new _ _
  have hbW := (hW.block _ (lt_of_block hb)).trans hb
  have HR := Lib.hid (hrow.below hW)
  clear hrow
  go_enter Try.func30, Try.ntmps30
  go_wp2_with fail
  rw [← hWd]
  clear hWd
  go_loopw [5, 6] (fun t i wl => ∃ k : Nat, k ≤ L.length ∧ i = .int .i64 k ∧ RowOf encI 1 3 wl W.heap.size t (inL (L.take k) q) ∧ Below W.heap.size W wl) (fun _ i _ => L.length - (intOf i).toNat)
  case atStart => exact ⟨0, Nat.zero_le _, rfl, RowOf.nil _ _ _, Below.refl _ _⟩
  case round =>
    obtain ⟨k, hk, rfl, hrow, hbl⟩ := hrel
    have hbr := (hbl.block _ (lt_of_block hbW)).trans hbW
    have k0 := cellAt hbr (o := 0) rfl
    rcases Nat.lt_or_ge k L.length with hlt | hge
    · have hcur : L[k]? = some L[k] := List.getElem?_eq_getElem hlt
      have hnext := inL_take_succ hcur q
      obtain ⟨b, off, hao, hc⟩ := HR.out.reads.cell (k := 3) (fun _ => rfl) rfl hcur
      subst hao
      generalize L[k] = z at *
      have c0 := hc 0 _ rfl
      have c1 := hc 1 _ rfl
      have c2 := hc 2 _ rfl
      rw [Nat.add_zero] at c0
      have d0 := (hbl.cell (p := ⟨b, off + k * 3, none⟩) (World.block_lt_of_cell? W _ c0)).trans c0
      have d1 := (hbl.cell (p := ⟨b, off + k * 3 + 1, none⟩) (World.block_lt_of_cell? W _ c1)).trans c1
      have d2 := (hbl.cell (p := ⟨b, off + k * 3 + 2, none⟩) (World.block_lt_of_cell? W _ c2)).trans c2
      have hboxr := (hbl.block _ (lt_of_block hbox)).trans hbox
      have q0 := cell_regrown (cellAt hboxr (o := 0) rfl)
      have q1 := cell_regrown (cellAt hboxr (o := 1) rfl)
      have q2 := cell_regrown (cellAt hboxr (o := 2) rfl)
      have q3 := cell_regrown (cellAt hboxr (o := 3) rfl)
      have q4 := cell_regrown d1
      have q5 := cell_regrown d2
      have q6 := cell_regrown k0
      have hI := regrown_call (w := wr) (ref3_In q z.2.1 z.2.2)
      have HN := Lib.hid hnext
      have hlen1 : (inL (L.take k) q).length + [z.1].length ≤ 1000000 := by
        have h1 : (inL (L.take k) q).length ≤ (L.take k).length := by unfold inL; rw [List.length_map]; exact List.length_filter_le _ _
        simp only [List.length_take, List.length_cons, List.length_nil] at h1 ⊢
        omega
      clear hc c0 c1 c2 hnext hcur
      cases hin : inB q z.2.1 z.2.2
      · rw [hin] at hI
        go_wp2_with fail
        (refine wp_region_quiet_below (by kernel_rfl) (by kernel_rfl) ?_; (repeat (go_big_quiet_step (exact hI _ _))); refine wpQuiet_nil ?_; intro wqA hwq; have hbqA := below_of_class hwq; clear hwq)
        go_wp2_with fail
        go_roundw
        case rel => exact ⟨k + 1, by omega, by go_num, by rw [HN.out, hin]; simpa using hrow.below hbqA, hbqA.via hbl.size hbl⟩
        case measure => simp [intOf]; omega
      · rw [hin] at hI
        go_wp2_with fail
        (refine wp_region_quiet_below (by kernel_rfl) (by kernel_rfl) ?_; (repeat (go_big_quiet_step (exact hI _ _))); refine wpQuiet_nil ?_; intro wqA hwq; have hbqA := below_of_class hwq; clear hwq)
        have hrowA := hrow.below hbqA
        have hbA := hbqA.via hbl.size hbl
        have k0 := (hbqA.cell (p := ⟨r, 0, none⟩) (lt_of_block hbr)).trans k0
        have d0 := (hbqA.cell (p := ⟨b, off + k * 3, none⟩) (World.block_lt_of_cell? wr _ d0)).trans d0
        clear q0 q1 q2 q3 q4 q5 q6 hI
        go_wp2_with (at_builtin; refine wpl_append_ints rfl _ _ rfl W.heap.size _ _ rfl (hrowA.alloc _) _ _ rfl (reads_one (enc := encI) _ z.1 _ _ rfl) hlen1 (Nat.le_trans hbA.size (by simp)) ?_; intro v3 w3 hr3 hg3 _ hat3)
        go_roundw
        case rel => exact ⟨k + 1, by omega, by go_num, by rw [HN.out, hin]; simpa using hr3, (hbA.alloc hbA.size _).grown hg3 (Nat.le_trans hbA.size (by simp)) (fun j hj => (hrowA.lt j hj).1)⟩
        case measure => simp [intOf]; omega
    · have hke : k = L.length := by omega
      subst hke
      rw [List.take_length] at hrow
      go_wp2_with fail
      go_ret
      exact ⟨_, rfl, hrow.base_le hW.size, hbl.via hW.size hW⟩

end Go.Proofs.Ytggeehmcjndlgaa
