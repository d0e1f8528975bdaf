/-
  quad.Tree: Copy.
-/
import Derived.Test.YtggeehmcjndlgaaKeys
import Derived.Test.YtggeehmcjndlgaaTree2
namespace Go.Proofs.Ytggeehmcjndlgaa
open Go Go.RowKit Go.Sort Go.Shelf

theorem entP_fst (L : Pts) : (entP L).map (·.1) = L.map (·.1) := by simp [entP, List.map_map]
theorem put_last {L : Pts} {e : Mark} (h : ∀ x ∈ L, x.1 < e.1) : putP e.1 e.2 L = L ++ [e] := by
  have hd : delP e.1 L = L := del_none (by
    cases hh : hasP L e.1
    · rfl
    · obtain ⟨p, hp⟩ := hasP_iff.1 hh
      have := h _ hp
      simp at this)
  unfold putP
  rw [hd]
  clear hd
  induction L with
  | nil => rfl
  | cons y r ih =>
    simp only [insP]
    rw [if_neg (by have := h y (by simp); omega), ih fun x hx => h x (by simp [hx])]
    rfl
theorem Srt.take {L : Pts} (h : Srt L) (k : Nat) : Srt (L.take k) := List.Pairwise.sublist (List.take_sublist _ _) h

set_option maxHeartbeats 4000000 in
set_option maxRecDepth 100000 in
theorem quad_Copy (w : World) (t : Nat) (L : Pts) (F : List Nat) (h : Tree w t L F) :
    Calls Try.prog 19 #[.pointer (some ⟨t, 0, none⟩)] w fun e w' => ∃ t' F', e = .returned (.pointer (some ⟨t', 0, none⟩)) ∧ Tree w' t' L F' ∧ Below w.heap.size w w' ∧ ∀ k ∈ F', w.heap.size ≤ k := by
  have hT := h
  obtain ⟨bm, S, h, hF⟩ := h
  have hs := h.srt
  have hlen := h.len
  have hon := hT.on
  have hwf := h.wf
  have HON := Lib.hid hon
  have HWF := Lib.hid hwf
  clear hon hwf
  go_enter Try.func19, Try.ntmps19
  go_wp2_with fail
  refine Calls.mono (quad_New _) ?_
  rintro e w1 ⟨c, FC, rfl, hC, hb1, hnew⟩
  have him1 := h.im.below hb1
  have htm1 : w1.cell? ⟨t, 0, none⟩ = some (.map (some bm)) := (h.ctx.below hb1).tm
  go_wp2_with fail
  refine Calls.mono (keysP _ _) ?_
  rintro e w2 ⟨rfl, hw2⟩
  have hso := sortedP w1 bm (entP L) him1 (by unfold Srt at hs; simpa [entP, List.pairwise_map] using hs) (by rw [entP_len]; omega)
  rw [← hw2] at hso
  clear hw2
  have HSO := Lib.hid hso
  clear hso
  go_wp2_with fail
  refine Calls.mono HSO.out ?_
  rintro e w3 ⟨v3, rfl, hrow, hb3⟩
  rw [entP_fst] at hrow
  obtain ⟨ao, cap, hv3⟩ := hrow.reads.len
  subst hv3
  have hlm : (L.map (·.1)).length = L.length := by simp
  have hh3 := (h.ctx.below hb1).below hb3
  have hC3 := hC.below hb3
  have HR := Lib.hid hrow
  have HNEW := Lib.hid hnew
  rw [hlm]
  clear hrow hnew
  have hFC := hC.lt
  have HFC := Lib.hid hFC
  clear hFC
  have hbml := h.im.lt
  have htl := lt_of_block h.hb
  clear htm1 him1 HSO
  go_wp2_with fail
  go_loopw [5, 14] (fun _ i wl => ∃ (j : Nat) (FC' : List Nat), j ≤ L.length ∧ i = .int .i64 j ∧ Tree wl c (L.take j) FC' ∧ (∀ k ∈ FC', k ∈ FC ∨ w3.heap.size ≤ k) ∧ Chg (· ∈ FC) w3 wl)
    (fun _ i _ => L.length - (intOf i).toNat)
  case atStart => exact ⟨0, FC, Nat.zero_le _, rfl, by simpa using hC3, fun k h => .inl h, Chg.refl _ _⟩
  case round =>
    obtain ⟨j, FC', hj, rfl, hTj, hF', hc⟩ := hrel
    rcases Nat.lt_or_ge j L.length with hlt | hge
    · have hcur : L[j]? = some L[j] := List.getElem?_eq_getElem hlt
      have hmem : L[j] ∈ L := List.getElem_mem hlt
      generalize L[j] = x at hcur hmem
      obtain ⟨b, off, hao, hcell⟩ := (HR.out.chg hc (fun b hb hm => by have := HFC.out b hm; have := (HR.out.lt b hb).1; omega)).reads.cell (k := 1) (fun _ => rfl) rfl (j := j) (x := x.1) (by rw [List.getElem?_map, hcur]; rfl)
      subst hao
      have hcell := hcell 0 _ rfl
      simp only [Nat.mul_one, Nat.add_zero] at hcell
      have hctx := hh3.chg hc (fun hm => by have := HNEW.out _ hm; omega) (fun hm => by have := HNEW.out _ hm; omega)
      have htm := hctx.tm
      have him := hctx.im
      have hwfx := HWF.out x hmem
      clear hctx
      have hsm : ∀ y ∈ L.take j, y.1 < x.1 := by
        have h1 : L.Pairwise fun a b => a.1 < b.1 := hs
        rw [← List.take_append_drop j L] at h1
        obtain ⟨_, _, h2⟩ := List.pairwise_append.1 h1
        intro y hy
        refine h2 y hy x ?_
        refine List.mem_of_getElem? (i := 0) ?_
        rw [List.getElem?_drop]
        exact hcur
      have hno : hasP (L.take j) x.1 = false := by
        cases hh : hasP (L.take j) x.1
        · rfl
        · obtain ⟨p, hp⟩ := hasP_iff.1 hh
          have := hsm _ hp
          simp at this
      have hat : atP L x.1 = x.2 := at_mem hs hmem
      have hcall := quad_Lay _ c (L.take j) FC' x.1 x.2 hTj hwfx hno (HON.out x hmem) (by simp; omega)
      rw [put_last hsm] at hcall
      simp only [encP] at hcall
      have hnext : L.take j ++ [x] = L.take (j + 1) := by rw [List.take_add_one, hcur]; rfl
      rw [hnext] at hcall
      have HC := Lib.hid hcall
      clear hcall hmem hcur hsm
      go_wp2_with (at_lookup; refine wpl_at _ rfl _ _ rfl bm L x.1 rfl rfl him hwfx ?_; rw [hat])
      refine Calls.mono HC.out ?_
      rintro e w5 ⟨rfl, FC2, hT5, hF5, hc5⟩
      clear HC
      go_wp2_with fail
      go_roundw
      case rel =>
        refine ⟨j + 1, FC2, by omega, by go_num, hT5, fun k hk => ?_, hc.andThen hc5 fun k hk h => ?_⟩
        · rcases hF5 k hk with e | e
          · exact hF' k e
          · exact .inr (Nat.le_trans hc.size e)
        · exact (hF' k h).elim (fun h => h) (fun h => by omega)
      case measure => simp [intOf]; omega
    · have hjl : j = L.length := by omega
      subst hjl
      rw [List.take_length] at hTj
      go_wp2_with fail
      go_ret
      refine ⟨c, FC', rfl, hTj, ((Chg.of_below hb1 (fun _ => False)).andThen (Chg.of_below hb3 (fun _ => False)) (fun _ _ h => h)).andThen hc (fun k hk h => by have := HNEW.out k h; omega) |>.below (Nat.le_refl _) (fun _ _ h => h), fun k hk => ?_⟩
      rcases hF' k hk with e | e
      · exact HNEW.out k e
      · have := hb1.size; have := hb3.size; omega
end Go.Proofs.Ytggeehmcjndlgaa
