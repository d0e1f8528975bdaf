/-
  The document's tree: Drop. And 'append' as one step of a region that draws its order.
-/
import Derived.Test.YtggeehmcjndlgaaPut8
import Derived.Deep.RegionLaw
import Derived.Laws.OwnMore
namespace Go.Proofs.Ytggeehmcjndlgaa
open Go Go.RowKit Go.Sort Go.Shelf
set_option linter.unusedVariables false
set_option linter.unusedSimpArgs false
set_option linter.unnecessarySimpa false

section
variable {α : Type} {enc : α → List Value} {k : Nat} {P : Program} {w : World} {ops : Array Oper} {o : Oper} {a : Act} {K : Act → World → Prop} {Q : Exit → Act → World → Prop} {E : Prop}
theorem step_append (hgd : o.guard = none) (s x : Operand) (t : TypeId) (ho : o.op = .call { callee := .builtin .append, args := #[s, x], argTypes := #[t, t] })
    (e : TypeId) (i : TypeInfo) (z : Value) (bytes : Nat) (ht : P.underlying t = some (.slice e)) (hi : P.info? e = some i) (hz : i.zero = some z)
    (hsize : i.size = k) (hby : i.bytes = bytes) (hzs : z.cells.size = k) (hsz : 0 < k) (hk : ∀ x, (enc x).length = k) (h1 : ∀ x, ∀ u ∈ enc x, u.oneCell' = true)
    (base : Nat) (v : Value) (l : List α) (hs : a.eval s = v) (hown : RowOf enc k e w base v l) (v2 : Value) (l2 : List α) (hx : a.eval x = v2) (hr : Reads enc w v2 l2)
    (h63 : l.length + l2.length ≤ maxLen) (hbytes : (l.length + l2.length) * bytes ≤ 140737488355328) (hbase : base ≤ w.heap.size)
    (h : ∀ v' w', RowOf enc k e w' base v' (l ++ l2) → w.grownBy w' v.ownBlock → (v' = .slice none 0 0 ↔ v = .slice none 0 0 ∧ l2 = []) → (v'.ownBlock = v.ownBlock ∨ v'.ownBlock = some w.heap.size) → K (a.put o.dst v') w') :
    if Region.wanted o (yielded ops a.tmps) = true then Oper.wp P o a w K Q else E := by
  have hw : Region.wanted o (yielded ops a.tmps) = true := by simp [Region.wanted, hgd]
  rw [if_pos hw]
  obtain ⟨ao, cap, rfl, hc, hn, hrr⟩ := hr
  cases ao with
  | none =>
    obtain ⟨rfl, rfl⟩ := hn rfl
    have hrun := run_append_owned_none (P := P) (w := w) base t o.type e i k ht hi v _ _ hown
    unfold Oper.wp
    simp [execOp, ho, resolve, invoke, builtin, hs, hx, hrun, Result.andThen]
    exact h v w (by simpa using hown) ⟨rfl, rfl, rfl, Nat.le_refl _, fun _ _ _ => rfl⟩ (by simp) (.inl rfl)
  | some ad =>
    obtain ⟨b, off, sp⟩ := ad
    obtain ⟨rfl, hcell⟩ := hrr b off sp rfl
    obtain ⟨v', w', hr, h2, h3, h4, h5⟩ := run_append_own_at (P := P) w base t o.type e i z k bytes ht hi hz hsize hby hzs hsz v l.length (l.flatMap enc) hown ⟨b, off, none⟩ l2.length cap (l2.flatMap enc) (flat_len hk l2) (fun j u hj => by
      have := hcell j u hj
      unfold Addr.add
      split
      · rename_i h0; subst h0; exact this
      · exact this) (fun u hu => by
      obtain ⟨y, _, hy⟩ := List.mem_flatMap.1 hu
      exact h1 y u hy) h63 hbytes hbase
    unfold Oper.wp execOp
    simp only [ho, resolve, invoke, builtin, Sem.run_bind, Sem.run_pure, Result.andThen_ok, List.map_toArray, List.map_cons, List.map_nil, hs, hx, hr]
    refine h _ _ ?_ h3 (by rw [h4]; simp) h5
    unfold RowOf
    rw [List.length_append, List.flatMap_append]
    exact h2
end

/-- The first k of a slice's elements; those from k on. -/
theorem Reads.take {α : Type} {enc : α → List Value} {n : Nat} (hn : ∀ x, (enc x).length = n) {w : World} {ao : Option Addr} {len cap k : Nat} {l : List α} (h : Reads enc w (.slice ao len cap) l) (hk : k ≤ l.length) : Reads enc w (.slice ao k cap) (l.take k) := by
  obtain ⟨ao', cap', he, hc, hnil, hr⟩ := h
  simp only [Value.slice.injEq] at he
  obtain ⟨rfl, rfl, rfl⟩ := he
  refine ⟨ao, cap, by rw [List.length_take_of_le hk], by simp; omega, fun e => by rw [(hnil e).1]; simp [(hnil e).2], fun b off sp e => ⟨(hr b off sp e).1, fun j u hj => ?_⟩⟩
  refine (hr b off sp e).2 j u ?_
  rw [← List.take_append_drop k l, List.flatMap_append, List.getElem?_append_left (List.getElem?_eq_some_iff.1 hj).1]
  exact hj
theorem Reads.drop {α : Type} {enc : α → List Value} {n : Nat} (hn : ∀ x, (enc x).length = n) {w : World} {b off len cap k : Nat} {A : Addr} {l : List α} (h : Reads enc w (.slice (some ⟨b, off, none⟩) len cap) l) (hk : k ≤ l.length) (hA : A = if cap = k then ⟨b, off, none⟩ else ⟨b, off + k * n, none⟩) :
    Reads enc w (.slice (some A) (len - k) (cap - k)) (l.drop k) := by
  obtain ⟨ao', cap', he, hc, hnil, hr⟩ := h
  simp only [Value.slice.injEq] at he
  obtain ⟨rfl, rfl, rfl⟩ := he
  obtain ⟨_, hr⟩ := hr b off none rfl
  by_cases hck : cap = k
  · rw [if_pos hck] at hA
    subst hA
    have hl : l.drop k = [] := List.drop_eq_nil_of_le (by omega)
    rw [hl]
    exact ⟨some ⟨b, off, none⟩, cap - k, by congr 1; simp; omega, by simp, fun e => (by cases e), fun b' off' sp' e => (by cases e; exact ⟨rfl, fun j u hj => by simp at hj⟩)⟩
  · rw [if_neg hck] at hA
    subst hA
    refine ⟨some ⟨b, off + k * n, none⟩, cap - k, by rw [List.length_drop], by simp; omega, fun e => (by cases e), fun b' off' sp' e => ?_⟩
    cases e
    refine ⟨rfl, fun j u hj => ?_⟩
    rw [Nat.add_assoc]
    refine hr (k * n + j) u ?_
    have hl : ((l.take k).flatMap enc).length = k * n := by rw [flat_len hn, List.length_take_of_le hk]
    rw [← List.take_append_drop k l, List.flatMap_append, List.getElem?_append_right (by rw [hl]; omega), hl]
    simpa using hj

theorem Reads.below {α : Type} {enc : α → List Value} {w w' : World} {v : Value} {l : List α} (h : Reads enc w v l) (hb : Below w.heap.size w w') : Reads enc w' v l := by
  obtain ⟨ao, cap, rfl, hc, hnil, hr⟩ := h
  refine ⟨ao, cap, rfl, hc, hnil, fun b off sp e => ⟨(hr b off sp e).1, fun j u hj => ?_⟩⟩
  have h1 := (hr b off sp e).2 j u hj
  exact (hb.cell (p := ⟨b, off + j, none⟩) (World.block_lt_of_cell? w _ h1)).trans h1

def dropM (L : Pts) (id : Int) : Pts := if drpC L id = 0 then L.take (idxM L id) ++ L.drop (idxM L id + 1) else L
/-- Behind the first append: what stood below stands. -/
theorem drop_mid {w wA : World} {r : Nat} {O : Obj} (hb : w.heap[r]? = some O) {v1 : Value} (hg : w.drew.grownBy wA (Value.slice none 0 0).ownBlock) : Below w.heap.size w wA :=
  ⟨hg.os, hg.tape, hg.output, hg.size, fun k hk => hg.block k hk (fun e => by cases e)⟩
theorem drop_last {w wA wB : World} {base r : Nat} {v v1 vB : Value} {L1 L2 : Pts} (hbase : base ≤ w.heap.size) (hrl : r < w.heap.size) (hrA : RowOf encM 3 116 wA w.heap.size v1 ([] ++ L1)) (hbA : Below w.heap.size w wA)
    (hrB : RowOf encM 3 116 wB w.heap.size vB ([] ++ L1 ++ L2)) (hgB : wA.grownBy wB v1.ownBlock) {u : Value} (hb : wB.heap[r]? = some (.cells #[u] 29 (0, 0))) :
    RTree (wB.setCell ⟨r, 0, none⟩ vB) base r vB (L1 ++ L2) ∧ Chg (fun k => k = r ∨ v.ownBlock = some k) w (wB.setCell ⟨r, 0, none⟩ vB) ∧ (vB.ownBlock = v.ownBlock ∨ ∀ k, vB.ownBlock = some k → w.heap.size ≤ k) := by
  have hc5 : Chg (fun k => k = r) wB (wB.setCell ⟨r, 0, none⟩ vB) := Chg.setCell _ wB ⟨r, 0, none⟩ _ (fun _ => rfl)
  have hne : vB.ownBlock ≠ some r := fun e => Nat.lt_irrefl _ (Nat.lt_of_lt_of_le hrl (hrB.lt r e).1)
  refine ⟨⟨one_setCell hb, ?_, hne⟩, ?_, .inr fun k hk => (hrB.lt k hk).1⟩
  · have := hrB.chg hc5 (fun b hb e => hne (by rw [hb, e]))
    rw [List.nil_append] at this
    exact this.base_le hbase
  · refine ((Chg.of_below hbA _).andThen (Chg.of_grown (S := fun k => v1.ownBlock = some k) hgB (fun k h => h)) (fun k hk e => ?_)).andThen hc5 (fun k hk e => .inl e)
    have := (hrA.lt k e).1
    omega
theorem idxM_cons (x : Mark) (L : Pts) (id : Int) : idxM (x :: L) id = if x.1 = id then 0 else idxM L id + 1 := by
  unfold idxM
  rw [List.findIdx_cons]
  by_cases h : x.1 = id
  · simp [h]
  · have h' : (x.1 == id) = false := beq_eq_false_iff_ne.2 h
    rw [h', if_neg h]; rfl
theorem del_idx : ∀ {L : Pts} {id : Int}, Srt L → hasP L id = true → L.take (idxM L id) ++ L.drop (idxM L id + 1) = delP id L
  | [], _, _, h => by simp [hasP] at h
  | x :: L, id, hs, hh => by
    obtain ⟨h1, h2⟩ := List.pairwise_cons.1 hs
    rw [idxM_cons]
    by_cases hx : x.1 = id
    · rw [if_pos hx]
      have hn : hasP L id = false := by
        cases h' : hasP L id
        · rfl
        · obtain ⟨p, hp⟩ := hasP_iff.1 h'
          have := h1 _ hp
          simp only at this
          omega
      have hd : delP id (x :: L) = delP id L := by simp [delP, List.filter_cons, hx]
      rw [hd, del_none hn]
      simp
    · rw [if_neg hx]
      have hh' : hasP L id = true := by simpa [hasP, hx] using hh
      have hd : delP id (x :: L) = x :: delP id L := by simp [delP, List.filter_cons, hx]
      rw [hd, ← del_idx h2 hh']
      rfl
/-- Move's list. -/
theorem set_put : ∀ {L : Pts} {id : Int} (p : Int × Int), Srt L → hasP L id = true → L.set (idxM L id) (id, p) = putP id p L
  | [], _, _, _, h => by simp [hasP] at h
  | x :: L, id, p, hs, hh => by
    obtain ⟨h1, h2⟩ := List.pairwise_cons.1 hs
    rw [idxM_cons]
    by_cases hx : x.1 = id
    · rw [if_pos hx]
      have hn : hasP L id = false := by
        cases h' : hasP L id
        · rfl
        · obtain ⟨q, hq⟩ := hasP_iff.1 h'
          have := h1 _ hq
          simp only at this
          omega
      have hd : delP id (x :: L) = L := by
        have : delP id (x :: L) = delP id L := by simp [delP, List.filter_cons, hx]
        rw [this, del_none hn]
      rw [putP, hd, List.set_cons_zero]
      cases L with
      | nil => rfl
      | cons y r => rw [insP, if_pos (by have := h1 y (by simp); simp only; omega)]
    · rw [if_neg hx]
      have hh' : hasP L id = true := by simpa [hasP, hx] using hh
      have hd : delP id (x :: L) = x :: delP id L := by simp [delP, List.filter_cons, hx]
      obtain ⟨q, hq⟩ := hasP_iff.1 hh'
      have := h1 _ hq
      simp only at this
      rw [List.set_cons_succ, set_put p h2 hh', putP, putP, hd, insP, if_neg (by simp only; omega)]
theorem setM_eq {L : Pts} {id : Int} {p : Int × Int} (h : Srt L) : setM L id p = movL L id p := by
  unfold setM movL
  split
  · rename_i hc
    have hh : hasP L id = true := by
      cases h' : hasP L id
      · unfold movC at hc; rw [if_pos h'] at hc; cases hc
      · rfl
    exact set_put p h hh
  · rfl
theorem dropM_eq {L : Pts} {id : Int} (h : Srt L) : dropM L id = drpL L id := by
  unfold dropM drpL
  split
  · rename_i hc
    have hh : hasP L id = true := by
      cases h' : hasP L id
      · unfold drpC at hc; rw [if_pos h'] at hc; cases hc
      · rfl
    exact del_idx h hh
  · rfl

set_option maxHeartbeats 4000000 in
set_option maxRecDepth 100000 in
theorem ref8_Drop (w : World) (base r : Nat) (v : Value) (L : Pts) (id : Int) (h : RTree w base r v L) (hl : L.length ≤ 1000) (hbase : base ≤ w.heap.size) :
    Calls Try.prog 25 #[.pointer (some ⟨r, 0, none⟩), .int .i64 id] w fun e w' => e = .returned (.int .i64 (drpC L id)) ∧ ∃ v', RTree w' base r v' (dropM L id) ∧ Chg (fun k => k = r ∨ v.ownBlock = some k) w w' ∧ (v'.ownBlock = v.ownBlock ∨ ∀ k, v'.ownBlock = some k → w.heap.size ≤ k) := by
  have hat := ref8_at w base r v L id h hl
  cases hh : hasP L id
  · have hidx : idxI L id = -1 := by unfold idxI; rw [if_neg]; rw [idxM_lt, hh]; simp
    have hc : drpC L id = 15 := by unfold drpC; rw [if_pos hh]
    have hd : dropM L id = L := by unfold dropM; rw [hc]; rfl
    rw [hidx] at hat
    rw [hc, hd]
    have HA := Lib.hid hat
    clear hat
    go_enter Try.func25, Try.ntmps25
    go_wp2_with fail
    refine Calls.mono HA.out ?_
    rintro e w1 ⟨rfl, rfl⟩
    go_wp2_with fail
    go_ret
    exact ⟨rfl, v, h, Chg.refl _ _, .inl rfl⟩
  · have hlt : idxM L id < L.length := idxM_lt.2 hh
    have hidx : idxI L id = idxM L id := by unfold idxI; rw [if_pos hlt]
    have hc : drpC L id = 0 := by unfold drpC; rw [if_neg (by rw [hh]; simp)]
    have hd : dropM L id = L.take (idxM L id) ++ L.drop (idxM L id + 1) := by unfold dropM; rw [hc]; rfl
    rw [hidx] at hat
    rw [hc, hd]
    generalize idxM L id = k at *
    have hne : L ≠ [] := fun e => by rw [e] at hlt; simp at hlt
    obtain ⟨g, cap, cur, hv, hbg, hcur⟩ := h.2.1.block hne
    subst hv
    have hrd := h.2.1.reads
    have hlc : L.length ≤ cap := by obtain ⟨ao', cap', e, hc', _⟩ := hrd; simp only [Value.slice.injEq, true_and] at e; obtain ⟨_, rfl⟩ := e; exact hc'
    have hr1 := Reads.take (enc := encM) (n := 3) (fun _ => rfl) hrd (k := k) (Nat.le_of_lt hlt)
    obtain ⟨A, hA⟩ : ∃ A : Addr, (if cap = k + 1 then ⟨g, 0, none⟩ else ⟨g, (k + 1) * 3, none⟩) = A := ⟨_, rfl⟩
    have hr2 := Reads.drop (enc := encM) (n := 3) (fun _ => rfl) hrd (k := k + 1) (A := A) hlt (by rw [← hA, Nat.zero_add])
    have hA' : (if cap = k + 1 then some (⟨g, 0, none⟩ : Addr) else some ⟨g, (k + 1) * 3, none⟩) = some A := by rw [← hA]; split <;> rfl
    rw [← hA'] at hr2
    have k0 := cellAt h.1 (o := 0) rfl
    have f0 := free_of_one h.1
    have hlt' : (k : Int) < L.length := by omega
    have hlcap : (L.length : Int) ≤ cap := by omega
    have hwr : IntKind.i64.wrap ((k : Int) + 1) = (k : Int) + 1 := by rw [IntKind.wrap_i64]; omega
    have hkc : k ≤ cap := by omega
    have hk1 : k + 1 ≤ L.length := by omega
    have hp0 : (0 : Int) ≤ (k : Int) + 1 := by omega
    have hp1 : (k : Int) + 1 ≤ (L.length : Int) := by omega
    have hp2 : ((k : Int) + 1).toNat = k + 1 := by omega
    have HA := Lib.hid hat
    have H := Lib.hid h
    have HR1 := Lib.hid hr1
    have HR2 := Lib.hid hr2
    obtain ⟨i, hi, hz0, hz1, hz2⟩ := info_parts Try.infoM
    clear hat h hr1 hr2 hrd hA hA' hcur
    go_enter Try.func25, Try.ntmps25
    go_wp2_with fail
    refine Calls.mono HA.out ?_
    rintro e w1 ⟨rfl, rfl⟩
    go_wp2_with fail
    have hbr := H.out.1
    have hrl := lt_of_block hbr
    have HB := Lib.hid hbr
    clear hbr
    go_region_law (first
      | (refine step_append (enc := encM) (k := 3) (by rfl) (.const (.slice none 0 0)) (.tmp 17) 27 (by rfl) 116 i _ 24 Try.underlying27 hi hz0 hz1 hz2 rfl (by decide) (fun _ => rfl) oneM w1.heap.size (.slice none 0 0) [] (by simp [Act.eval, Act.put]) (RowOf.nil _ _ _) (.slice (some ⟨g, 0, none⟩) k cap) (L.take k) (by simp [Act.eval, Act.put]) (HR1.out.of_heap (fun _ _ => rfl)) (by simp; unfold maxLen; omega) (by simp; omega) (Nat.le_refl _) ?_; intro v1 wA hrA hgA _ hatA; have hbA := drop_mid (v1 := v1) HB.out hgA; have hbrA := (hbA.block r hrl).trans HB.out; have k0A := cell_of_one hbrA; have f0A := free_of_one hbrA; have HRA := Lib.hid hrA; have HBA := Lib.hid hbA; have HBRA := Lib.hid hbrA; have HATA := Lib.hid hatA; clear hrA hgA hatA hbA hbrA)
      | (refine step_append (enc := encM) (k := 3) (by rfl) (.tmp 18) (.tmp 25) 27 (by rfl) 116 i _ 24 Try.underlying27 hi hz0 hz1 hz2 rfl (by decide) (fun _ => rfl) oneM w1.heap.size v1 ([] ++ L.take k) (by simp [Act.eval, Act.put]) (HRA.out.of_heap (fun _ _ => rfl)) (.slice (if cap = k + 1 then some (⟨g, 0, none⟩ : Addr) else some ⟨g, (k + 1) * 3, none⟩) (L.length - (k + 1)) (cap - (k + 1))) (L.drop (k + 1)) (by simp [Act.eval, Act.put]) (HR2.out.below HBA.out) (by simp; unfold maxLen; omega) (by simp; omega) HBA.out.size ?_; intro vB wB hrB hgB _ hatB; obtain ⟨aoB, cB, hvB⟩ := hrB.reads.len; generalize List.length _ = nB at hvB; subst hvB; have hnr : v1.ownBlock ≠ some r := fun e => Nat.lt_irrefl _ (Nat.lt_of_lt_of_le hrl (HRA.out.lt r e).1); have hbrB := (hgB.block r (lt_of_block HBRA.out) hnr.symm).trans HBRA.out; have kB := cell_of_one hbrB; have fB := free_of_one hbrB; have HRB := Lib.hid hrB; have HGB := Lib.hid hgB; have HBRB := Lib.hid hbrB; clear hrB hgB hatB hbrB hnr))
    all_goals (go_wp2_with fail; all_goals (go_ret; exact ⟨rfl, _, drop_last hbase hrl HRA.out HBA.out HRB.out HGB.out HBRB.out⟩))
end Go.Proofs.Ytggeehmcjndlgaa
