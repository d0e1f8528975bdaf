/-
  The document's tree: Put.
-/
import Derived.Test.YtggeehmcjndlgaaMut8
namespace Go.Proofs.Ytggeehmcjndlgaa
open Go Go.RowKit Go.Sort Go.Shelf
set_option linter.unusedVariables false
set_option linter.unusedSimpArgs false
set_option linter.unnecessarySimpa false

theorem Try.infoM : (Try.prog.info? 116).map (fun i => (i.zero, i.size, i.bytes)) = some (some (.agg #[.int .i64 0, .int .i64 0, .int .i64 0]), 3, 24) := by kernel_rfl
theorem oneM (x : Mark) : ∀ u ∈ encM x, u.oneCell' = true := by intro u hu; simp [encM] at hu; rcases hu with rfl | rfl | rfl <;> rfl

section
variable {w : World} {ops : Array Oper} {rest : List Oper} {o : Oper} {a : Act} {Q : Exit → Act → World → Prop}
theorem wpl_append_marks (hgd : o.guard = none) (s x : Operand) (ho : o.op = .call { callee := .builtin .append, args := #[s, x], argTypes := #[27, 27] })
    (base : Nat) (v : Value) (l : Pts) (hs : a.eval s = v) (hown : RowOf encM 3 116 w base v l) (v2 : Value) (l2 : Pts) (hx : a.eval x = v2) (hr : Reads encM w v2 l2)
    (hlen : l.length + l2.length ≤ 1000000) (hbase : base ≤ w.heap.size)
    (h : ∀ v' w', RowOf encM 3 116 w' base v' (l ++ l2) → w.grownBy w' v.ownBlock → (v' = .slice none 0 0 ↔ v = .slice none 0 0 ∧ l2 = []) → (v'.ownBlock = v.ownBlock ∨ v'.ownBlock = some w.heap.size) → wpList Try.prog ops Q rest (a.put o.dst v') w') :
    wpList Try.prog ops Q (o :: rest) a w := by
  obtain ⟨i, hi, hz0, hz1, hz2⟩ := info_parts Try.infoM
  exact wpl_append hgd s x 27 ho 116 i _ 24 Try.underlying27 hi hz0 hz1 hz2 rfl (by decide) (fun _ => rfl) oneM base v l hs hown v2 l2 hx hr (by unfold maxLen; omega) (by omega) hbase h
end

/-- One mark stored into the row. -/
theorem RTree.set {w : World} {base r g n cap j : Nat} {M : Pts} (h : RTree w base r (.slice (some ⟨g, 0, none⟩) n cap) M) (hj : j < M.length) (z : Mark) :
    RTree (((w.setCell ⟨g, j * 3, none⟩ (.int .i64 z.1)).setCell ⟨g, j * 3 + 1, none⟩ (.int .i64 z.2.1)).setCell ⟨g, j * 3 + 1 + 1, none⟩ (.int .i64 z.2.2)) base r (.slice (some ⟨g, 0, none⟩) n cap) (M.set j z) ∧
      Chg (fun k => k = g) w (((w.setCell ⟨g, j * 3, none⟩ (.int .i64 z.1)).setCell ⟨g, j * 3 + 1, none⟩ (.int .i64 z.2.1)).setCell ⟨g, j * 3 + 1 + 1, none⟩ (.int .i64 z.2.2)) := by
  have hne : M ≠ [] := fun e => by rw [e] at hj; simp at hj
  obtain ⟨g', cap', cur, hv, hbg, hcur⟩ := h.2.1.block hne
  simp only [Value.slice.injEq, Option.some.injEq, Addr.mk.injEq, and_true] at hv
  obtain ⟨rfl, rfl, rfl⟩ := hv
  have s0 := set_cell_block (o := j * 3) hcur (.int .i64 z.1)
  have s1 := set_cell_block (o := j * 3 + 1) s0 (.int .i64 z.2.1)
  have s2 := set_cell_block (o := j * 3 + 1 + 1) s1 (.int .i64 z.2.2)
  have hcu : M[j]? = some M[j] := List.getElem?_eq_getElem hj
  obtain ⟨b, off, hao, hc⟩ := h.2.1.reads.cell (k := 3) (fun _ => rfl) rfl hcu
  simp only [Option.some.injEq, Addr.mk.injEq, and_true] at hao
  obtain ⟨rfl, rfl⟩ := hao
  have e2 := cells_of_cell hcur (hc 2 _ rfl)
  have hlt2 := (Array.getElem?_eq_some_iff.1 e2).1
  have hgr : g ≠ r := fun e => h.2.2 (by rw [e]; rfl)
  have hc2 : Chg (fun k => k = g) w _ := ((Chg.setCell (fun k => k = g) w ⟨g, j * 3, none⟩ (.int .i64 z.1) (fun _ => rfl)).trans (Chg.setCell (fun k => k = g) _ ⟨g, j * 3 + 1, none⟩ (.int .i64 z.2.1) (fun _ => rfl))).trans (Chg.setCell (fun k => k = g) _ ⟨g, j * 3 + 1 + 1, none⟩ (.int .i64 z.2.2) (fun _ => rfl))
  refine ⟨⟨hc2.heap h.1 (fun e => hgr e.symm), h.2.1.upd (fun _ => rfl) (by decide) hcur s2 (by simp) hj (fun i u hi => ?_) (fun o ho => ?_), h.2.2⟩, hc2⟩
  · have hi3 : i < 3 := (List.getElem?_eq_some_iff.1 hi).1
    match i, hi3 with
    | 0, _ => simp [encM] at hi; subst hi; rw [Array.getElem?_setIfInBounds_ne (by omega), Array.getElem?_setIfInBounds_ne (by omega)]; exact Array.getElem?_setIfInBounds_self_of_lt (by omega)
    | 1, _ => simp [encM] at hi; subst hi; rw [Array.getElem?_setIfInBounds_ne (by omega)]; exact Array.getElem?_setIfInBounds_self_of_lt (by simp; omega)
    | 2, _ => simp [encM] at hi; subst hi; exact Array.getElem?_setIfInBounds_self_of_lt (by simp; omega)
  · rw [Array.getElem?_setIfInBounds_ne (by omega), Array.getElem?_setIfInBounds_ne (by omega), Array.getElem?_setIfInBounds_ne (by omega)]

/-! ### where it goes -/
def posP (L : Pts) (id : Int) : Nat := L.findIdx fun e => !decide (e.1 < id)
theorem posP_le (L : Pts) (id : Int) : posP L id ≤ L.length := List.findIdx_le_length
theorem posP_lt {L : Pts} {id : Int} {k : Nat} (hk : k < posP L id) (hl : k < L.length) : L[k].1 < id := by
  have := List.not_of_lt_findIdx (p := fun e : Mark => !decide (e.1 < id)) (xs := L) hk
  simpa using this
theorem posP_ge {L : Pts} {id : Int} {x : Mark} (h : L[posP L id]? = some x) : id ≤ x.1 := by
  obtain ⟨hl, rfl⟩ := List.getElem?_eq_some_iff.1 h
  have h2 := List.findIdx_getElem (p := fun e : Mark => !decide (e.1 < id)) (xs := L) (w := hl)
  have h3 : (!decide ((L[posP L id]).1 < id)) = true := h2
  rw [Bool.not_eq_true', decide_eq_false_iff_not] at h3
  omega
theorem posP_cons (x : Mark) (L : Pts) (id : Int) : posP (x :: L) id = if x.1 < id then posP L id + 1 else 0 := by
  unfold posP
  rw [List.findIdx_cons]
  by_cases h : x.1 < id <;> simp [h]
theorem ins_pos (id : Int) (p : Int × Int) : ∀ L : Pts, hasP L id = false → insP (id, p) L = L.take (posP L id) ++ (id, p) :: L.drop (posP L id)
  | [], _ => rfl
  | x :: L, h => by
    have hx : x.1 ≠ id ∧ hasP L id = false := by
      simp only [hasP, List.any_cons, Bool.or_eq_false_iff, beq_eq_false_iff_ne] at h
      exact h
    rw [posP_cons, insP]
    by_cases hlt : x.1 < id
    · rw [if_neg (by simp only; omega), if_pos hlt, ins_pos id p L hx.2]; rfl
    · rw [if_pos (by simp only; have := hx.1; omega), if_neg hlt]; rfl
theorem put_pos {L : Pts} {id : Int} (p : Int × Int) (h : hasP L id = false) : putP id p L = L.take (posP L id) ++ (id, p) :: L.drop (posP L id) := by
  rw [putP, del_none h, ins_pos id p L h]

def shf (L : Pts) (j : Nat) : Pts := (L ++ [((0 : Int), ((0 : Int), (0 : Int)))]).take (j + 1) ++ L.drop j
theorem shf_len {L : Pts} {j : Nat} (h : j ≤ L.length) : (shf L j).length = L.length + 1 := by simp [shf]; omega
theorem shf_top (L : Pts) : shf L L.length = L ++ [(0, 0, 0)] := by
  unfold shf
  rw [List.drop_length, List.append_nil, List.take_of_length_le (by simp)]
theorem shf_get {L : Pts} {i : Nat} (h : i < L.length) : (shf L (i + 1))[i]? = L[i]? := by
  unfold shf
  rw [List.getElem?_append_left (by simp; omega), List.getElem?_take_of_lt (by omega), List.getElem?_append_left h]
theorem set_mid {α : Type} (A : List α) (x z : α) (B : List α) {k : Nat} (hk : A.length = k) : (A ++ x :: B).set k z = A ++ z :: B := by
  subst hk
  rw [List.set_append_right _ _ (Nat.le_refl _)]
  simp
theorem take_last {α : Type} {A : List α} {k : Nat} (h : k < A.length) : A.take (k + 1) = A.take k ++ [A[k]] := by
  rw [List.take_succ_eq_append_getElem h]
theorem shf_step {L : Pts} {i : Nat} (h : i < L.length) : (shf L (i + 1)).set (i + 1) L[i] = shf L i := by
  unfold shf
  rw [take_last (by simp; omega), List.append_assoc, List.singleton_append, set_mid _ _ _ _ (by simp; omega)]
  rw [List.drop_eq_getElem_cons h]
theorem shf_put {L : Pts} {k : Nat} (h : k ≤ L.length) (z : Mark) : (shf L k).set k z = L.take k ++ z :: L.drop k := by
  unfold shf
  rw [take_last (by simp; omega), List.append_assoc, List.singleton_append, set_mid _ _ _ _ (by simp; omega), List.take_append_of_le_length h]

theorem RTree.shf_store {w : World} {base r g n cap m : Nat} {L : Pts} (h : RTree w base r (.slice (some ⟨g, 0, none⟩) n cap) (shf L (m + 1))) (hm : m < L.length) {z : Mark} (hz : L[m]? = some z) :
    RTree (((w.setCell ⟨g, (m + 1) * 3, none⟩ (.int .i64 z.1)).setCell ⟨g, (m + 1) * 3 + 1, none⟩ (.int .i64 z.2.1)).setCell ⟨g, (m + 1) * 3 + 1 + 1, none⟩ (.int .i64 z.2.2)) base r (.slice (some ⟨g, 0, none⟩) n cap) (shf L m) ∧
      Chg (fun k => k = g) w (((w.setCell ⟨g, (m + 1) * 3, none⟩ (.int .i64 z.1)).setCell ⟨g, (m + 1) * 3 + 1, none⟩ (.int .i64 z.2.1)).setCell ⟨g, (m + 1) * 3 + 1 + 1, none⟩ (.int .i64 z.2.2)) := by
  obtain ⟨_, rfl⟩ := List.getElem?_eq_some_iff.1 hz
  have := h.set (j := m + 1) (by rw [shf_len (by omega)]; omega) L[m]
  rw [shf_step hm] at this
  exact this

theorem RTree.shf_put {w : World} {base r g n cap k : Nat} {L : Pts} (h : RTree w base r (.slice (some ⟨g, 0, none⟩) n cap) (shf L k)) (hk : k ≤ L.length) (z : Mark) :
    RTree (((w.setCell ⟨g, k * 3, none⟩ (.int .i64 z.1)).setCell ⟨g, k * 3 + 1, none⟩ (.int .i64 z.2.1)).setCell ⟨g, k * 3 + 1 + 1, none⟩ (.int .i64 z.2.2)) base r (.slice (some ⟨g, 0, none⟩) n cap) (L.take k ++ z :: L.drop k) ∧
      Chg (fun k => k = g) w (((w.setCell ⟨g, k * 3, none⟩ (.int .i64 z.1)).setCell ⟨g, k * 3 + 1, none⟩ (.int .i64 z.2.1)).setCell ⟨g, k * 3 + 1 + 1, none⟩ (.int .i64 z.2.2)) := by
  have := h.set (j := k) (by rw [shf_len hk]; omega) z
  rw [Go.Proofs.Ytggeehmcjndlgaa.shf_put hk] at this
  exact this

theorem put_mid {w w3 w4 w5 : World} {base r g cap3 : Nat} {v : Value} {L : Pts} {x y : Int} (hb3 : w3.heap[r]? = some (.cells #[v] 29 (0, 0))) (h3 : RowOf encM 3 116 w3 base v L) (hnr : v.ownBlock ≠ some r) (hW : Below w.heap.size w w3) (hbox : w3.heap[w.heap.size]? = some (.cells #[.int .i64 x, .int .i64 y] 31 (0, 0))) (hrl : r < w.heap.size) (hvw : v.ownBlock ≠ some w.heap.size)
    (hb4 : w4.heap[r]? = some (.cells #[v] 29 (0, 0))) (h4 : RowOf encM 3 116 w4 base (.slice (some ⟨g, 0, none⟩) (L ++ [((0 : Int), ((0 : Int), (0 : Int)))]).length cap3) (L ++ [((0 : Int), ((0 : Int), (0 : Int)))]))
    {O : Obj} (hg : (w3.alloc O).grownBy w4 v.ownBlock) (hat : (Value.slice (some ⟨g, 0, none⟩) (L ++ [((0 : Int), ((0 : Int), (0 : Int)))]).length cap3).ownBlock = v.ownBlock ∨ (Value.slice (some ⟨g, 0, none⟩) (L ++ [((0 : Int), ((0 : Int), (0 : Int)))]).length cap3).ownBlock = some (w3.alloc O).heap.size)
    (hw5 : w5 = w4.setCell ⟨r, 0, none⟩ (.slice (some ⟨g, 0, none⟩) (L.length + 1) cap3)) :
    RTree w5 base r (.slice (some ⟨g, 0, none⟩) (L.length + 1) cap3) (L ++ [(0, 0, 0)]) ∧ Chg (fun k => k = r ∨ v.ownBlock = some k) w w5 ∧ (v.ownBlock = some g ∨ w.heap.size < g) ∧ w5.heap[w.heap.size]? = some (.cells #[.int .i64 x, .int .i64 y] 31 (0, 0)) := by
  have hgo : v.ownBlock = some g ∨ g = w3.heap.size + 0 + 0 ∨ w3.heap.size < g := by
    rcases hat with e | e
    · exact .inl e.symm
    · simp [Value.ownBlock] at e; omega
  have hs3 := hW.size
  have hlt3 := lt_of_block hbox
  have hgo' : v.ownBlock = some g ∨ w.heap.size < g := hgo.imp id (fun h => by omega)
  have hgr : g ≠ r := fun e => by
    rcases hgo with h | h
    · exact hnr (by rw [h, e])
    · omega
  have hc5 : Chg (fun k => k = r) w4 w5 := by rw [hw5]; exact Chg.setCell _ w4 ⟨r, 0, none⟩ _ (fun _ => rfl)
  have hc4 : Chg (fun k => v.ownBlock = some k) w3 w4 := (Chg.alloc _ w3 O).trans (Chg.of_grown hg (fun k h => h))
  have hcw : Chg (fun k => k = r ∨ v.ownBlock = some k) w w5 := ((Chg.of_below hW _).andThen hc4 (fun _ _ h => .inr h)).andThen hc5 (fun _ _ h => .inl h)
  refine ⟨⟨?_, ?_, fun e => hgr (by simpa [Value.ownBlock] using e)⟩, hcw, hgo', ?_⟩
  · rw [hw5]; exact one_setCell hb4
  · have := h4.chg hc5 (fun b hb e => hgr (by rw [← e]; simpa [Value.ownBlock] using hb))
    simpa using this
  · have h1 := hc4.heap hbox (fun e => hvw e)
    exact hc5.heap h1 (fun e => by omega)

set_option maxHeartbeats 8000000 in
set_option maxRecDepth 100000 in
theorem ref8_Put (w : World) (base r : Nat) (v : Value) (L : Pts) (id : Int) (p : Int × Int) (h : RTree w base r v L) (hl : L.length ≤ 1000) (hbase : base ≤ w.heap.size) (hr : base ≤ r) :
    Calls Try.prog 21 #[.pointer (some ⟨r, 0, none⟩), .int .i64 id, .agg #[.int .i64 p.1, .int .i64 p.2]] w fun e w' => e = .returned (.int .i64 (putC L id p)) ∧ ∃ v', RTree w' base r v' (putL L id p) ∧ Chg (fun k => k = r ∨ v.ownBlock = some k) w w' ∧ (v'.ownBlock = v.ownBlock ∨ ∀ k, v'.ownBlock = some k → w.heap.size ≤ k) := by
  have hbr := h.1
  have hrl := lt_of_block hbr
  obtain ⟨W, hWd⟩ : ∃ W, W = w.alloc (.cells #[.int .i64 p.1, .int .i64 p.2] 31) := ⟨_, rfl⟩
  have hW : Below w.heap.size w W := by rw [hWd]; exact (Below.refl _ w).alloc (Nat.le_refl _) _
  have hWs : w.heap.size + 1 = W.heap.size := by rw [hWd]; simp
  have hbox : W.heap[w.heap.size]? = some (.cells #[.int .i64 p.1, .int .i64 p.2] 31 (0, 0)) := by rw [hWd]; exact heap_alloc_new _ _
  by_cases hneg : id < 0
  · have hc : putC L id p = 11 := by unfold putC; rw [if_pos hneg]
    have hp : putL L id p = L := by unfold putL; rw [hc]; rfl
    rw [hc, hp]
    go_enter Try.func21, Try.ntmps21
    go_wp2_with fail
    rw [← hWd]
    clear hWd
    go_ret
    exact ⟨rfl, v, h.below hW, Chg.of_below hW _, .inl rfl⟩
  · have hx0 := cellAt hbox (o := 0) rfl
    have hx1 := cellAt hbox (o := 1) rfl
    cases hon : onB p.1 p.2
    · have hc : putC L id p = 14 := by unfold putC; rw [if_neg hneg, if_pos hon]
      have hp : putL L id p = L := by unfold putL; rw [hc]; rfl
      rw [hc, hp]
      go_enter Try.func21, Try.ntmps21
      go_wp2_with fail
      rw [← hWd]
      clear hWd
      refine Calls.mono (ref3_On _ _ _) ?_
      rw [hon]
      rintro e w2 ⟨rfl, hb2⟩
      go_wp2_with fail
      go_ret
      exact ⟨rfl, v, (h.below hW).below hb2, Chg.of_below (hb2.via hW.size hW) _, .inl rfl⟩
    · have HAT := Lib.hid (fun W' (hB' : Below w.heap.size w W') => ref8_at W' base r v L id (h.below hB') hl)
      cases hh : hasP L id
      rotate_left
      · have hc : putC L id p = 11 := by unfold putC; rw [if_neg hneg, if_neg (by simp [hon]), if_pos hh]
        have hp : putL L id p = L := by unfold putL; rw [hc]; rfl
        have hlt : idxM L id < L.length := idxM_lt.2 hh
        have hidx : idxI L id = idxM L id := by unfold idxI; rw [if_pos hlt]
        rw [hidx] at HAT
        rw [hc, hp]
        go_enter Try.func21, Try.ntmps21
        go_wp2_with fail
        rw [← hWd]
        clear hWd
        refine Calls.mono (ref3_On _ _ _) ?_
        rw [hon]
        rintro e w2 ⟨rfl, hb2⟩
        have hW2 := hb2.via hW.size hW
        go_wp2_with fail
        refine Calls.mono (HAT.out _ hW2) ?_
        rintro e w3 ⟨rfl, rfl⟩
        go_wp2_with fail
        go_ret
        exact ⟨rfl, v, h.below hW2, Chg.of_below hW2 _, .inl rfl⟩
      · have hidx : idxI L id = -1 := by unfold idxI; rw [if_neg]; rw [idxM_lt, hh]; simp
        rw [hidx] at HAT
        obtain ⟨ao, cap, hv⟩ := h.2.1.reads.len
        subst hv
        have HVW0 := Lib.hid (fun e => Nat.lt_irrefl _ (h.2.1.lt w.heap.size e).2 : (Value.slice ao L.length cap).ownBlock ≠ some w.heap.size)
        by_cases hfull : 200 ≤ L.length
        · have hc : putC L id p = 16 := by unfold putC; rw [if_neg hneg, if_neg (by simp [hon]), if_neg (by simp [hh]), if_pos hfull]
          have hp : putL L id p = L := by unfold putL; rw [hc]; rfl
          have hfull' : 200 ≤ (L.length : Int) := by omega
          rw [hc, hp]
          go_enter Try.func21, Try.ntmps21
          go_wp2_with fail
          rw [← hWd]
          clear hWd
          refine Calls.mono (ref3_On _ _ _) ?_
          rw [hon]
          rintro e w2 ⟨rfl, hb2⟩
          have hW2 := hb2.via hW.size hW
          have k0 := cellAt (h.below hW2).1 (o := 0) rfl
          go_wp2_with fail
          refine Calls.mono (HAT.out _ hW2) ?_
          rintro e w3 ⟨rfl, rfl⟩
          go_wp2_with fail
          go_ret
          exact ⟨rfl, _, h.below hW2, Chg.of_below hW2 _, .inl rfl⟩
        · have hc : putC L id p = 0 := by unfold putC; rw [if_neg hneg, if_neg (by simp [hon]), if_neg (by simp [hh]), if_neg hfull]
          have hp : putL L id p = putP id p L := by unfold putL; rw [hc]; rfl
          have hfull' : (L.length : Int) < 200 := by omega
          rw [hc, hp, put_pos p hh]
          have hpl := posP_le L id
          have hplt : ∀ (k : Nat) (x : Mark), k < posP L id → L[k]? = some x → x.1 < id := fun k x hk hx => by
            obtain ⟨hl, rfl⟩ := List.getElem?_eq_some_iff.1 hx
            exact posP_lt hk hl
          have hpge : ∀ x : Mark, L[posP L id]? = some x → id ≤ x.1 := fun x hx => posP_ge hx
          generalize posP L id = pos at *
          have HLT := Lib.hid hplt
          have HGE := Lib.hid hpge
          clear hplt hpge
          go_enter Try.func21, Try.ntmps21
          go_wp2_with fail
          rw [← hWd]
          clear hWd
          refine Calls.mono (ref3_On _ _ _) ?_
          rw [hon]
          rintro e w2 ⟨rfl, hb2⟩
          have hW2 := hb2.via hW.size hW
          have h2 := h.below hW2
          have hbox2 := (hb2.block _ (lt_of_block hbox)).trans hbox
          have k0 := cellAt h2.1 (o := 0) rfl
          clear hx0 hx1
          go_wp2_with fail
          refine Calls.mono (HAT.out _ hW2) ?_
          rintro e w3 ⟨rfl, rfl⟩
          have HR := Lib.hid h2
          have HW2 := Lib.hid hW2
          have HS := Lib.hid hWs
          clear HAT h hbr h2 hW2 hWs hb2 hW hbox
          go_wp2_with fail
          go_loop [7] (fun k => ∃ j : Nat, j ≤ pos ∧ k = .int .i64 j) (fun k => pos - (intOf k).toNat)
          case atStart => exact ⟨0, Nat.zero_le _, rfl⟩
          case round =>
            obtain ⟨j, hj, rfl⟩ := hrel
            rcases Nat.lt_or_ge j pos with hlt | hge
            · have hltl : j < L.length := by omega
              have hcur : L[j]? = some L[j] := List.getElem?_eq_getElem hltl
              have hx := HLT.out j _ hlt hcur
              obtain ⟨b, off, hao, hc⟩ := HR.out.2.1.reads.cell (k := 3) (fun _ => rfl) rfl hcur
              subst hao
              have c0 := hc 0 _ rfl
              rw [Nat.add_zero] at c0
              generalize L[j].1 = z at *
              have hltl' : (j : Int) < L.length := by omega
              clear hc hcur
              go_wp2_with fail
              go_round
              case rel => exact ⟨j + 1, by omega, by go_num⟩
              case measure => simp [intOf]; omega
            · have hje : j = pos := by omega
              subst hje
              have hrow := HR.out.2.1
              have hnr := HR.out.2.2
              have hbr := HR.out.1
              have HROW := Lib.hid hrow
              have HNR := Lib.hid hnr
              have HBR := Lib.hid hbr
              have hbs : base ≤ w3.heap.size := Nat.le_trans hbase HW2.out.size
              have HBS := Lib.hid hbs
              clear hrow hnr hbr HR hbs hbase
              have hcase : (∃ z, id ≤ z ∧ (j : Int) < L.length ∧ ∃ b off, ao = some ⟨b, off, none⟩ ∧ w3.cell? ⟨b, off + j * 3, none⟩ = some (.int .i64 z)) ∨ ¬ ((j : Int) < L.length) := by
                rcases Nat.lt_or_ge j L.length with hltl | hgel
                · have hcur : L[j]? = some L[j] := List.getElem?_eq_getElem hltl
                  obtain ⟨b, off, hao, hc⟩ := HROW.out.reads.cell (k := 3) (fun _ => rfl) rfl hcur
                  exact .inl ⟨_, HGE.out _ hcur, by omega, b, off, hao, by simpa using hc 0 _ rfl⟩
                · exact .inr (by omega)
              have HPL := Lib.hid hpl
              have hvw : (Value.slice ao L.length cap).ownBlock ≠ some w.heap.size := HVW0.out
              have HVW := Lib.hid hvw
              clear hvw HVW0
              clear HLT HGE hj hge
              rcases hcase with ⟨z, hz, hltl, b, off, hao, hcz⟩ | hgel
              all_goals
                (try subst hao)
                go_wp2_with (at_builtin; refine wpl_append_marks rfl _ _ rfl base _ _ rfl (HROW.out.alloc _) _ _ rfl (reads_one (enc := encM) _ ((0 : Int), ((0 : Int), (0 : Int))) _ _ rfl) (by simp; omega) (Nat.le_trans HBS.out (by simp)) ?_; intro v3 w4 hr3 hg3 _ hat3; obtain ⟨g, cap3, cur3, hv3, hbg, hcur3⟩ := hr3.block (by simp); subst hv3; have hb4 := (hg3.block r (by simp; exact Nat.lt_succ_of_lt (lt_of_block HBR.out)) HNR.out.symm).trans ((Below.heap_alloc w3 _ r (lt_of_block HBR.out)).trans HBR.out); have k4 := cell_of_one hb4; have f4 := free_of_one hb4; have HB4 := Lib.hid hb4; have HR3 := Lib.hid hr3; have HG3 := Lib.hid hg3; have HAT3 := Lib.hid hat3; have HCUR3 := Lib.hid hcur3; have HBG := Lib.hid hbg; clear hr3 hg3 hat3 hb4 hcur3 hbg; simp only [List.length_append, List.length_cons, List.length_nil, Nat.zero_add])
                obtain ⟨w5, hw5⟩ : ∃ w5, w5 = w4.setCell ⟨r, 0, none⟩ (.slice (some ⟨g, 0, none⟩) (L.length + 1) cap3) := ⟨_, rfl⟩
                rw [← hw5]
                have hX := put_mid HBR.out HROW.out HNR.out HW2.out hbox2 hrl HVW.out HB4.out HR3.out HG3.out HAT3.out hw5
                obtain ⟨hT5, hC5, hg5, hbox5⟩ := hX
                rw [← shf_top] at hT5
                have HC5 := Lib.hid hC5
                have HG5 := Lib.hid hg5
                have hgn : g ≠ w.heap.size := fun e => by rcases hg5 with h | h; exact HVW.out (by rw [h, e]); omega
                have HGN := Lib.hid hgn
                have HB5 := Lib.hid hbox5
                clear hgn hbox5
                have HPN := Lib.hid HPL.out
                clear hw5 HB4 HR3 HG3 HAT3 HCUR3 HBR HROW HNR HW2 HBS hbox2 k4 f4 hC5 hg5
                (try clear hcz)
                (try clear hz)
                (try clear hltl)
                (try clear hgel)
                go_loopw [8] (fun jj wl => ∃ i : Nat, j ≤ i ∧ i ≤ L.length ∧ jj = .int .i64 i ∧ RTree wl base r (.slice (some ⟨g, 0, none⟩) (L.length + 1) cap3) (shf L i) ∧ Chg (fun k => k = g) w5 wl) (fun jj _ => (intOf jj).toNat)
                case atStart => exact ⟨L.length, HPN.out, Nat.le_refl _, by go_num, hT5, Chg.refl _ _⟩
                case round =>
                  obtain ⟨i, hji, hil, rfl, hT, hC⟩ := hrel
                  have hTr := hT.1
                  have k0 := cell_regrown (cellAt hTr (o := 0) rfl)
                  rcases Nat.lt_or_ge j i with hlt | hge
                  · obtain ⟨m, rfl⟩ : ∃ m, i = m + 1 := ⟨i - 1, by omega⟩
                    have hlt' : (j : Int) < (m : Int) + 1 := by omega
                    have hml : m < L.length := by omega
                    have hmi : (m : Int) < L.length := by omega
                    have hcurm : (shf L (m + 1))[m]? = some L[m] := by rw [shf_get hml]; exact List.getElem?_eq_getElem hml
                    have hz : L[m]? = some L[m] := List.getElem?_eq_getElem hml
                    obtain ⟨b', off', hao', hc'⟩ := hT.2.1.reads.cell (k := 3) (fun _ => rfl) rfl hcurm
                    simp only [Option.some.injEq, Addr.mk.injEq, and_true] at hao'
                    obtain ⟨rfl, rfl⟩ := hao'
                    have c0 := hc' 0 _ rfl
                    have c1 := hc' 1 _ rfl
                    have c2 := hc' 2 _ rfl
                    generalize L[m] = z at *
                    simp only [Nat.zero_add, Nat.add_zero] at c0 c1 c2
                    have c0 := cell_regrown c0
                    have c1 := cell_regrown c1
                    have c2 := cell_regrown c2
                    have HSET := Lib.hid (fun W' (h' : RTree W' base r (.slice (some ⟨g, 0, none⟩) (L.length + 1) cap3) (shf L (m + 1))) => RTree.shf_store h' hml hz)
                    have HT := Lib.hid hT
                    clear hc' hcurm hz hT hTr hil
                    go_wp2_with fail
                    (refine wp_region_below_tail 14 (by kernel_rfl) (by kernel_rfl) ?_; simp only [List.take_succ_cons, List.take_zero, List.drop_succ_cons, List.drop_zero]; (repeat (go_big_quiet_step (fail))); refine wpQuiet_nil ?_; intro wqA hwq; have hbqA := below_of_class hwq; clear hwq)
                    have hTA := HT.out.below hbqA
                    obtain ⟨_, _, curA, hvA, _, hcurA⟩ := hTA.2.1.block (by intro e; have := congrArg List.length e; rw [shf_len (by omega)] at this; simp at this)
                    simp only [Value.slice.injEq, Option.some.injEq, Addr.mk.injEq, and_true] at hvA
                    obtain ⟨rfl, _, rfl⟩ := hvA
                    have hx1 : (shf L (m + 1))[m + 1]? = some (shf L (m + 1))[m + 1] := List.getElem?_eq_getElem (by rw [shf_len (by omega)]; omega)
                    obtain ⟨b'', off'', hao'', hc''⟩ := hTA.2.1.reads.cell (k := 3) (fun _ => rfl) rfl hx1
                    simp only [Option.some.injEq, Addr.mk.injEq, and_true] at hao''
                    obtain ⟨rfl, rfl⟩ := hao''
                    have d0 := hc'' 0 _ rfl
                    have d1 := hc'' 1 _ rfl
                    have d2 := hc'' 2 _ rfl
                    generalize (shf L (m + 1))[m + 1] = y at d0 d1 d2
                    simp only [Nat.zero_add, Nat.add_zero] at d0 d1 d2
                    have f0 := freeAt (o := (m + 1) * 3) hcurA
                    have f1 := freeAt (o := (m + 1) * 3 + 1) hcurA
                    have f2 := freeAt (o := (m + 1) * 3 + 1 + 1) hcurA
                    clear hc'' hx1 hcurA hTA k0 c0 c1 c2
                    go_wp2_with fail
                    have hlast := HSET.out _ (HT.out.below hbqA)
                    have hCA := (hC.trans (Chg.of_below hbqA _)).trans hlast.2
                    go_roundw
                    case rel => exact ⟨m, by omega, by omega, rfl, hlast.1, hCA⟩
                    case measure => simp [intOf]
                  · have hie : i = j := by omega
                    subst hie
                    have hboxr := hC.heap HB5.out (fun e => HGN.out e.symm)
                    have b0 := cell_regrown (cellAt hboxr (o := 0) rfl)
                    have b1 := cell_regrown (cellAt hboxr (o := 1) rfl)
                    have hik : (i : Int) < (L.length : Int) + 1 := by omega
                    have HT := Lib.hid hT
                    clear hT hTr hboxr
                    go_wp2_with fail
                    (refine wp_region_below_tail 9 (by kernel_rfl) (by kernel_rfl) ?_; simp only [List.take_succ_cons, List.take_zero, List.drop_succ_cons, List.drop_zero]; (repeat (go_big_quiet_step (fail))); refine wpQuiet_nil ?_; intro wqA hwq; have hbqA := below_of_class hwq; clear hwq)
                    have hTA := HT.out.below hbqA
                    obtain ⟨_, _, curA, hvA, _, hcurA⟩ := hTA.2.1.block (by intro e; have := congrArg List.length e; rw [shf_len (by omega)] at this; simp at this)
                    simp only [Value.slice.injEq, Option.some.injEq, Addr.mk.injEq, and_true] at hvA
                    obtain ⟨rfl, _, rfl⟩ := hvA
                    have hx1 : (shf L i)[i]? = some (shf L i)[i] := List.getElem?_eq_getElem (by rw [shf_len (by omega)]; omega)
                    obtain ⟨b'', off'', hao'', hc''⟩ := hTA.2.1.reads.cell (k := 3) (fun _ => rfl) rfl hx1
                    simp only [Option.some.injEq, Addr.mk.injEq, and_true] at hao''
                    obtain ⟨rfl, rfl⟩ := hao''
                    have d0 := hc'' 0 _ rfl
                    have d1 := hc'' 1 _ rfl
                    have d2 := hc'' 2 _ rfl
                    generalize (shf L i)[i] = y at d0 d1 d2
                    simp only [Nat.zero_add, Nat.add_zero] at d0 d1 d2
                    have f0 := freeAt (o := i * 3) hcurA
                    have f1 := freeAt (o := i * 3 + 1) hcurA
                    have f2 := freeAt (o := i * 3 + 1 + 1) hcurA
                    have HTA := Lib.hid hTA
                    clear hc'' hx1 hcurA hTA k0 b0 b1
                    go_wp2_with fail
                    go_ret
                    have hlast := RTree.shf_put HTA.out hil (id, p)
                    have hCA := (hC.trans (Chg.of_below hbqA _)).trans hlast.2
                    refine ⟨rfl, _, hlast.1, HC5.out.andThen hCA (fun k hk e => ?_), ?_⟩
                    · rcases HG5.out with h | h
                      · exact .inr (by rw [h, e])
                      · omega
                    · rcases HG5.out with h | h
                      · exact .inl (by rw [h]; rfl)
                      · exact .inr (fun k hk => by simp [Value.ownBlock] at hk; omega)
end Go.Proofs.Ytggeehmcjndlgaa
