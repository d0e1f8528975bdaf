/-
  table.Table: those of a rectangle, all, a copy; rows of things.
-/
import Derived.Test.YtggeehmcjndlgaaTblP
import Derived.Test.YtggeehmcjndlgaaKeysT
import Derived.Test.YtggeehmcjndlgaaLone
namespace Go.Proofs.Ytggeehmcjndlgaa
open Go Go.RowKit Go.Sort Go.Shelf
set_option linter.unusedVariables false
set_option linter.unusedSimpArgs false
set_option linter.unnecessarySimpa false

theorem Try.infoT : (Try.prog.info? 63).map (fun i => (i.zero, i.size, i.bytes)) = some (some zeroT.val, 11, 120) := by kernel_rfl
theorem oneT (x : Thg) : ∀ u ∈ encT x, u.oneCell' = true := by intro u hu; simp [encT] at hu; rcases hu with rfl | rfl | rfl | rfl | rfl | rfl | rfl | rfl | rfl | rfl | rfl <;> rfl

section
variable {w : World} {ops : Array Oper} {rest : List Oper} {o : Oper} {a : Act} {Q : Exit → Act → World → Prop}
theorem wpl_append_things (hgd : o.guard = none) (s x : Operand) (ho : o.op = .call { callee := .builtin .append, args := #[s, x], argTypes := #[58, 58] })
    (base : Nat) (v : Value) (l : Ths) (hs : a.eval s = v) (hown : RowOf encT 11 63 w base v l) (v2 : Value) (l2 : Ths) (hx : a.eval x = v2) (hr : Reads encT w v2 l2)
    (hlen : l.length + l2.length ≤ 1000000) (hbase : base ≤ w.heap.size)
    (h : ∀ v' w', RowOf encT 11 63 w' base v' (l ++ l2) → w.grownBy w' v.ownBlock → (v' = .slice none 0 0 ↔ v = .slice none 0 0 ∧ l2 = []) → (v'.ownBlock = v.ownBlock ∨ v'.ownBlock = some w.heap.size) → wpList Try.prog ops Q rest (a.put o.dst v') w') :
    wpList Try.prog ops Q (o :: rest) a w := by
  obtain ⟨i, hi, hz0, hz1, hz2⟩ := info_parts Try.infoT
  exact wpl_append hgd s x 58 ho 63 i _ 120 Try.underlying58 hi hz0 hz1 hz2 rfl (by decide) (fun _ => rfl) oneT base v l hs hown v2 l2 hx hr (by unfold maxLen; omega) (by omega) hbase h
end

set_option maxHeartbeats 4000000 in
set_option maxRecDepth 100000 in
/-- The things of a row of numbers. -/
theorem table_of (w : World) (t : Nat) (M : Ths) (F : List Nat) (v : Value) (ids : List Int) (h : Tbl w t M F) (hr : Reads encI w v ids) (hl : ids.length ≤ 100000) (hwf : ∀ i ∈ ids, (Lit.int .i64 i).wf = true) :
    Calls Try.prog 92 #[.pointer (some ⟨t, 0, none⟩), v] w fun e w' => ∃ v', e = .returned v' ∧ RowOf encT 11 63 w' w.heap.size v' (ids.map (getT M)) ∧ Below w.heap.size w w' := by
  obtain ⟨bm, q, hS0⟩ := h.ts
  have HS := Lib.hid hS0
  obtain ⟨ao, cap, hv⟩ := hr.len
  subst hv
  have HR := Lib.hid hr
  have HWF := Lib.hid hwf
  clear hS0 h hr hwf
  go_enter Try.func92, Try.ntmps92
  go_wp2_with fail
  go_loopw [5, 7, 10] (fun out _ i wl => ∃ k : Nat, k ≤ ids.length ∧ i = .int .i64 k ∧ RowOf encT 11 63 wl w.heap.size out ((ids.take k).map (getT M)) ∧ Below w.heap.size w wl) (fun _ _ i _ => ids.length - (intOf i).toNat)
  case atStart => exact ⟨0, Nat.zero_le _, rfl, RowOf.nil _ _ _, Below.refl _ _⟩
  case round =>
    obtain ⟨k, hk, rfl, hrow, hb⟩ := hrel
    rcases Nat.lt_or_ge k ids.length with hlt | hge
    · have hcur : ids[k]? = some ids[k] := List.getElem?_eq_getElem hlt
      have hid := HWF.out _ (List.getElem_mem hlt)
      have hnext : (ids.take (k + 1)).map (getT M) = (ids.take k).map (getT M) ++ [getT M ids[k]] := by rw [List.take_succ_eq_append_getElem hlt, List.map_append]; rfl
      obtain ⟨b, off, hao, hc⟩ := HR.out.cell (k := 1) (fun _ => rfl) rfl hcur
      subst hao
      generalize ids[k] = id at *
      have c0 := hc 0 _ rfl
      simp only [Nat.mul_one, Nat.add_zero] at c0
      have c0 := (hb.cell (p := ⟨b, off + k, none⟩) (World.block_lt_of_cell? w _ c0)).trans c0
      have hS := HS.out.below hb
      have k0 := hS.hd0
      have him := hS.im
      have hlt' : (k : Int) < ids.length := by omega
      have hln : ((ids.take k).map (getT M)).length + 1 ≤ 1000000 := by rw [List.length_map, List.length_take]; omega
      have HN := Lib.hid hnext
      clear hc hcur hnext hS
      generalize hy : getT M id = y0 at *
      go_wp2_with (first
        | (at_lookup; refine wpl_getT _ rfl _ _ rfl bm M id rfl rfl him hid ?_; rw [hy])
        | (at_builtin; refine wpl_append_things rfl _ _ rfl w.heap.size _ _ rfl (hrow.alloc _) _ _ rfl (reads_one (enc := encT) _ y0 _ _ rfl) hln (Nat.le_trans hb.size (by simp)) ?_; intro v3 w3 hr3 hg3 _ hat3))
      go_roundw
      case rel => exact ⟨k + 1, by omega, by go_num, by rw [HN.out]; exact hr3, (hb.alloc hb.size _).grown hg3 (Nat.le_trans hb.size (by simp)) (fun j hj => (hrow.lt j hj).1)⟩
      case measure => simp [intOf]; omega
    · have hke : k = ids.length := by omega
      subst hke
      rw [List.take_length] at hrow
      go_wp2_with fail
      go_ret
      exact ⟨_, rfl, hrow, hb⟩

theorem map_getT {M : Ths} (hs : SrtT M) {N : Ths} (hN : ∀ x ∈ N, x ∈ M) : (N.map (·.id)).map (getT M) = N := by
  rw [List.map_map]
  conv => rhs; rw [← List.map_id N]
  exact List.map_congr_left fun x hx => getT_mem hs (hN x hx)
theorem Tbl.wf {w : World} {t : Nat} {M : Ths} {F : List Nat} (h : Tbl w t M F) : ∀ x ∈ M, (Lit.int .i64 x.id).wf = true := by
  obtain ⟨bm, q, Fq, h1, h2, h3, h4⟩ := h
  intro x hx
  obtain ⟨bm', S, h', _⟩ := h3
  exact h'.wf (x.id, x.x, x.y) (List.mem_map.2 ⟨x, hx, rfl⟩)
theorem Tbl.on {w : World} {t : Nat} {M : Ths} {F : List Nat} (h : Tbl w t M F) : ∀ x ∈ M, onB x.x x.y = true := by
  obtain ⟨bm, q, Fq, h1, h2, h3, h4⟩ := h
  intro x hx
  exact h3.on (x.id, x.x, x.y) (List.mem_map.2 ⟨x, hx, rfl⟩)

set_option maxHeartbeats 2000000 in
theorem table_In (w : World) (t : Nat) (M : Ths) (F : List Nat) (r : R4) (h : Tbl w t M F) :
    Calls Try.prog 56 #[.pointer (some ⟨t, 0, none⟩), .agg #[.int .i64 r.x0, .int .i64 r.y0, .int .i64 r.x1, .int .i64 r.y1]] w fun e w' => ∃ v', e = .returned v' ∧ RowOf encT 11 63 w' w.heap.size v' (inT M r) ∧ Below w.heap.size w w' := by
  obtain ⟨bm, q, hS0⟩ := h.ts
  obtain ⟨W, hWd⟩ : ∃ W, W = w.alloc (.cells #[.int .i64 r.x0, .int .i64 r.y0, .int .i64 r.x1, .int .i64 r.y1] 33) := ⟨_, rfl⟩
  have hW : Below w.heap.size w W := by rw [hWd]; exact (Below.refl _ w).alloc (Nat.le_refl _) _
  have hbox : W.heap[w.heap.size]? = some (.cells #[.int .i64 r.x0, .int .i64 r.y0, .int .i64 r.x1, .int .i64 r.y1] 33 (0, 0)) := by rw [hWd]; exact heap_alloc_new _ _
  have hSW := hS0.below hW
  obtain ⟨n, hn⟩ : ∃ n, n = w.heap.size := ⟨_, rfl⟩
  rw [← hn] at hbox
  have hcl : ∀ W', Below W.heap.size W W' → W'.cell? ⟨t, 1, none⟩ = some (.pointer (some ⟨q, 0, none⟩)) ∧ W'.cell? ⟨n, 0, none⟩ = some (.int .i64 r.x0) ∧ W'.cell? ⟨n, 1, none⟩ = some (.int .i64 r.y0) ∧ W'.cell? ⟨n, 2, none⟩ = some (.int .i64 r.x1) ∧ W'.cell? ⟨n, 3, none⟩ = some (.int .i64 r.y1) := fun W' hb =>
    have h' := (hb.block _ (lt_of_block hbox)).trans hbox
    ⟨(hSW.below hb).hd1, cellAt h' rfl, cellAt h' rfl, cellAt h' rfl, cellAt h' rfl⟩
  have HCL := Lib.hid hcl
  have hsub : ∀ x ∈ inT M r, x ∈ M := fun x hx => (List.mem_filter.1 hx).1
  have hmap := map_getT h.srt hsub
  have hlen : ((inT M r).map (·.id)).length ≤ 100000 := by
    rw [List.length_map]
    have h1 : (inT M r).length ≤ M.length := List.length_filter_le _ _
    have := h.len
    omega
  have hwf : ∀ i ∈ (inT M r).map (·.id), (Lit.int .i64 i).wf = true := fun i hi => by
    obtain ⟨x, hx, rfl⟩ := List.mem_map.1 hi
    exact h.wf x (hsub x hx)
  have hpt := ptsT_in M r
  have HS := Lib.hid hSW
  have HT := Lib.hid (h.below hW)
  have HM := Lib.hid hmap
  have HWF := Lib.hid hwf
  have HP := Lib.hid hpt
  clear hS0 hSW h hmap hwf hsub hpt hbox hcl
  go_enter Try.func56, Try.ntmps56
  go_wp2_with fail
  rw [← hWd, ← hn]
  clear hWd hn
  go_region_held3 (fun W' => W'.cell? ⟨t, 1, none⟩ = some (.pointer (some ⟨q, 0, none⟩)) ∧ W'.cell? ⟨n, 0, none⟩ = some (.int .i64 r.x0) ∧ W'.cell? ⟨n, 1, none⟩ = some (.int .i64 r.y0) ∧ W'.cell? ⟨n, 2, none⟩ = some (.int .i64 r.x1) ∧ W'.cell? ⟨n, 3, none⟩ = some (.int .i64 r.y1)) (exact HCL.out _ (by (repeat (first | exact Below.refl _ _ | assumption | refine Below.alloc ?_ (by first | omega | (simp; done) | (simp; omega)) _ | refine Below.setCell ?_ (by first | omega | (simp; done) | (simp; omega)) _ | refine Below.drew ?_ | refine Below.draws ?_ _ | refine Below.via (by assumption) (by first | omega | (simp; done) | (simp; omega)) ?_))))
    (first
      | (go_at_call 29; refine Calls.mono (ts_In (HS.out.below (by (repeat (first | exact Below.refl _ _ | assumption | refine Below.alloc ?_ (by first | omega | (simp; done) | (simp; omega)) _ | refine Below.setCell ?_ (by first | omega | (simp; done) | (simp; omega)) _ | refine Below.drew ?_ | refine Below.draws ?_ _ | refine Below.via (by assumption) (by first | omega | (simp; done) | (simp; omega)) ?_)))) r) ?_; rintro e w2 ⟨v2, rfl, hr2, hb2⟩; rw [HP.out] at hr2; have HB2 : Below W.heap.size W w2 := hb2.via (by simp) (by (repeat (first | exact Below.refl _ _ | assumption | refine Below.alloc ?_ (by first | omega | (simp; done) | (simp; omega)) _ | refine Below.setCell ?_ (by first | omega | (simp; done) | (simp; omega)) _ | refine Below.drew ?_ | refine Below.draws ?_ _ | refine Below.via (by assumption) (by first | omega | (simp; done) | (simp; omega)) ?_))); have HR2 := Lib.hid hr2; clear hr2 hb2)
      | (go_at_call 92; refine Calls.mono (table_of w2 t M F v2 _ (HT.out.below HB2) HR2.out.reads hlen HWF.out) ?_; rw [HM.out]; rintro e w3 ⟨v3, rfl, hr3, hb3⟩; obtain ⟨ao3, c3, hv3⟩ := hr3.reads.len; subst hv3; have HB3 : Below W.heap.size W w3 := hb3.via HB2.size HB2; have HR3 := Lib.hid (hr3.base_le (Nat.le_trans hW.size HB2.size)); clear hr3 hb3))
  all_goals
    go_wp2_with fail
    go_ret
    exact ⟨_, rfl, HR3.out, HB3.via hW.size hW⟩

set_option maxHeartbeats 2000000 in
theorem table_All (w : World) (t : Nat) (M : Ths) (F : List Nat) (h : Tbl w t M F) :
    Calls Try.prog 51 #[.pointer (some ⟨t, 0, none⟩)] w fun e w' => ∃ v', e = .returned v' ∧ RowOf encT 11 63 w' w.heap.size v' M ∧ Below w.heap.size w w' := by
  obtain ⟨bm, q, hS0⟩ := h.ts
  have k0 := hS0.hd0
  have him := hS0.im
  have hmap := map_getT h.srt (N := M) (fun x hx => hx)
  have hlen : (M.map (·.id)).length ≤ 100000 := by rw [List.length_map]; have := h.len; omega
  have hwf : ∀ i ∈ M.map (·.id), (Lit.int .i64 i).wf = true := fun i hi => by
    obtain ⟨x, hx, rfl⟩ := List.mem_map.1 hi
    exact h.wf x hx
  have hso := sortedT w bm (entT M) him (by have := h.srt; unfold SrtT at this; simpa [entT, List.pairwise_map] using this) (by rw [entT_len]; have := h.len; omega)
  rw [entT_fst] at hso
  have HSO := Lib.hid hso
  have HT := Lib.hid h
  have HM := Lib.hid hmap
  have HWF := Lib.hid hwf
  clear hS0 h hmap hwf him hso
  go_enter Try.func51, Try.ntmps51
  go_wp2_with fail
  refine Calls.mono (keysT _ _) ?_
  rintro e w2 ⟨rfl, hw2⟩
  rw [← hw2] at HSO
  clear hw2
  go_wp2_with fail
  refine Calls.mono HSO.out ?_
  rintro e w3 ⟨v3, rfl, hr3, hb3⟩
  have HO := Lib.hid (table_of w3 t M F v3 _ (HT.out.below hb3) hr3.reads hlen HWF.out)
  rw [HM.out] at HO
  clear hr3 HSO
  go_wp2_with fail
  refine Calls.mono HO.out ?_
  rintro e w4 ⟨v4, rfl, hr4, hb4⟩
  clear HO
  go_wp2_with fail
  go_ret
  exact ⟨_, rfl, hr4.base_le hb3.size, hb4.via hb3.size hb3⟩
end Go.Proofs.Ytggeehmcjndlgaa
