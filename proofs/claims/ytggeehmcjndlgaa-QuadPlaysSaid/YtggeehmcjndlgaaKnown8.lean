/-
  The law's own 'known', and 'same'.
-/
import Derived.Test.YtggeehmcjndlgaaLone
namespace Go.Proofs.Ytggeehmcjndlgaa
open Go Go.RowKit Go.Sort Go.Shelf

set_option maxHeartbeats 4000000 in
set_option maxRecDepth 100000 in
theorem law8_known (w : World) : Calls Try.prog 17 #[] w fun e w' => e = .returned (.bool true) ∧ Below w.heap.size w w' := by
  go_enter Try.func17, Try.ntmps17
  go_wp2_with fail
  refine Calls.mono (lone_New (B := w.heap.size) (K := fun _ => False) (w0 := w) (Below.refl _ _) (Nat.le_refl _) (fun _ h => h.elim)) ?_
  rintro e w1 ⟨t, rfl, h1, _⟩
  go_wp2_with fail
  refine Calls.mono (lone_Put h1 (by decide)) ?_
  rintro e w2 ⟨rfl, h2, _⟩
  rw [show putC [] 3 (1, 1) = 0 from by decide]
  rw [show putL [] 3 (1, 1) = [(3, 1, 1)] from by decide] at h2
  go_wp2_with fail
  refine Calls.mono (lone_Put h2 (by decide)) ?_
  rintro e w3 ⟨rfl, h3, _⟩
  rw [show putC [(3, 1, 1)] 3 (0, 0) = 11 from by decide]
  rw [show putL [(3, 1, 1)] 3 (0, 0) = [(3, 1, 1)] from by decide] at h3
  go_wp2_with fail
  refine Calls.mono (lone_Put h3 (by decide)) ?_
  rintro e w4 ⟨rfl, h4, _⟩
  rw [show putC [(3, 1, 1)] (-1) (0, 0) = 11 from by decide]
  rw [show putL [(3, 1, 1)] (-1) (0, 0) = [(3, 1, 1)] from by decide] at h4
  go_wp2_with fail
  refine Calls.mono (lone_Put h4 (by decide)) ?_
  rintro e w5 ⟨rfl, h5, _⟩
  rw [show putC [(3, 1, 1)] 4 (64, 0) = 14 from by decide]
  rw [show putL [(3, 1, 1)] 4 (64, 0) = [(3, 1, 1)] from by decide] at h5
  go_wp2_with fail
  refine Calls.mono (lone_Move h5 (by decide)) ?_
  rintro e w6 ⟨rfl, h6, _⟩
  rw [show movC [(3, 1, 1)] 5 (0, 0) = 15 from by decide]
  rw [show movL [(3, 1, 1)] 5 (0, 0) = [(3, 1, 1)] from by decide] at h6
  go_wp2_with fail
  refine Calls.mono (lone_At h6 (by decide)) ?_
  rintro e w7 ⟨rfl, h7, hb7⟩
  rw [show atP [(3, 1, 1)] 3 = (1, 1) from by decide, show hasP [(3, 1, 1)] 3 = true from by decide]
  go_wp2_with fail
  have h7' := h7.more (w' := w7.alloc (.cells #[.int .i64 1, .int .i64 1] 31)) (K' := (· = w7.heap.size)) (by (repeat (first | exact Below.refl _ _ | assumption | refine Below.alloc ?_ (by first | omega | (simp; done) | (simp; omega)) _ | refine Below.setCell ?_ (by first | omega | (simp; done) | (simp; omega)) _ | refine Below.drew ?_ | refine Below.draws ?_ _ | refine Below.via (by assumption) (by first | omega | (simp; done) | (simp; omega)) ?_))) (fun k e => .inr ⟨by omega, by simp; omega⟩)
  refine Calls.mono (lone_In h7' ⟨0, 0, 2, 2⟩) ?_
  rintro e w8 ⟨v8, rfl, hr8, h8, hb8⟩
  rw [show inL [(3, 1, 1)] ⟨0, 0, 2, 2⟩ = [3] from by decide] at hr8
  go_wp2_with fail
  refine wp_loop_rounds 5 ?_
  rw [rounds_succ]
  go_wp2_with fail
  refine Calls.mono (lone_Put h8 (by decide)) ?_
  rintro e w9 ⟨rfl, h9, hk9⟩
  rw [show putL [(3, 1, 1)] 10 (1, 1) = [(3, 1, 1), (10, 1, 1)] from by decide] at h9
  go_wp2_with fail
  rw [rounds_succ]
  go_wp2_with fail
  refine Calls.mono (lone_Put h9 (by decide)) ?_
  rintro e w10 ⟨rfl, h10, hk10⟩
  rw [show putL [(3, 1, 1), (10, 1, 1)] 11 (1, 1) = [(3, 1, 1), (10, 1, 1), (11, 1, 1)] from by decide] at h10
  go_wp2_with fail
  rw [rounds_succ]
  go_wp2_with fail
  refine Calls.mono (lone_Put h10 (by decide)) ?_
  rintro e w11 ⟨rfl, h11, hk11⟩
  rw [show putL [(3, 1, 1), (10, 1, 1), (11, 1, 1)] 12 (1, 1) = [(3, 1, 1), (10, 1, 1), (11, 1, 1), (12, 1, 1)] from by decide] at h11
  go_wp2_with fail
  rw [rounds_succ]
  go_wp2_with fail
  refine Calls.mono (lone_Put h11 (by decide)) ?_
  rintro e w12 ⟨rfl, h12, hk12⟩
  rw [show putL [(3, 1, 1), (10, 1, 1), (11, 1, 1), (12, 1, 1)] 13 (1, 1) = [(3, 1, 1), (10, 1, 1), (11, 1, 1), (12, 1, 1), (13, 1, 1)] from by decide] at h12
  go_wp2_with fail
  rw [rounds_succ]
  have hk := ((hk9.trans hk10).trans hk11).trans hk12
  have hx8 : w8.heap[w7.heap.size]? = some (.cells #[.int .i64 1, .int .i64 1] 31 (0, 0)) := (hb8.block _ (by simp)).trans (heap_alloc_new w7 _)
  have hx12 := hk.heap hx8 (fun e => e.2 (.inl rfl))
  have x0 := cellAt hx12 (o := 0) rfl
  have x1 := cellAt hx12 (o := 1) rfl
  have hr12 := hr8.chg hk (fun b hb e => e.2 (.inr hb))
  obtain ⟨g, cap, hv8⟩ := hr12.slicel (by simp)
  obtain ⟨b, off, hbo, hc⟩ := hr12.reads.cell (k := 1) (fun _ => rfl) hv8 (j := 0) (x := 3) rfl
  cases hbo
  have hc0 := hc 0 _ rfl
  simp only [Nat.zero_mul, Nat.add_zero] at hc0
  subst hv8
  clear hc hx8 hx12 hr12 hk hk9 hk10 hk11 hk12
  go_wp2_with fail
  refine Calls.mono (lone_Len h12) ?_
  rintro e w13 ⟨rfl, rfl⟩
  go_wp2_with fail
  refine Calls.mono (lone_Depth h12) ?_
  rintro e w13 ⟨rfl, rfl⟩
  rw [show deepR [(3, 1, 1), (10, 1, 1), (11, 1, 1), (12, 1, 1), (13, 1, 1)] 4 whole = 4 from by decide +kernel]
  go_wp2_with fail
  refine Calls.mono (lone_Drop h12 (by decide)) ?_
  rintro e w13 ⟨rfl, h13, _⟩
  rw [show drpC [(3, 1, 1), (10, 1, 1), (11, 1, 1), (12, 1, 1), (13, 1, 1)] 3 = 0 from by decide]
  rw [show drpL [(3, 1, 1), (10, 1, 1), (11, 1, 1), (12, 1, 1), (13, 1, 1)] 3 = [(10, 1, 1), (11, 1, 1), (12, 1, 1), (13, 1, 1)] from by decide] at h13
  go_wp2_with fail
  refine Calls.mono (lone_Depth h13) ?_
  rintro e w14 ⟨rfl, rfl⟩
  rw [show deepR [(10, 1, 1), (11, 1, 1), (12, 1, 1), (13, 1, 1)] 4 whole = 0 from by decide +kernel]
  go_wp2_with fail
  refine Calls.mono (lone_Copy h13) ?_
  rintro e w14 ⟨t', rfl, h14, _, h15, _⟩
  go_wp2_with fail
  refine Calls.mono (lone_Len h15) ?_
  rintro e w15 ⟨rfl, rfl⟩
  go_wp2_with fail
  go_ret
  exact ⟨rfl, h14.to⟩

set_option maxHeartbeats 1000000 in
/-- Two rows that are one list. -/
theorem law8_same (w : World) (base1 base2 : Nat) (v1 v2 : Value) (l : List Int) (h1 : RowOf encI 1 3 w base1 v1 l) (h2 : RowOf encI 1 3 w base2 v2 l) (hl : l.length ≤ 1000000) :
    Calls Try.prog 28 #[v1, v2] w fun e w' => e = .returned (.bool true) ∧ Below w.heap.size w w' := by
  have r1 := h1.reads
  have r2 := h2.reads
  clear h1 h2
  obtain ⟨a1, c1, e1⟩ := r1.len
  obtain ⟨a2, c2, e2⟩ := r2.len
  subst e1 e2
  go_enter Try.func28, Try.ntmps28
  go_wp2_with fail
  go_loopw [5] (fun i wl => ∃ j : Nat, j ≤ l.length ∧ i = .int .i64 j ∧ Below w.heap.size w wl) (fun i _ => l.length - (intOf i).toNat)
  case atStart => exact ⟨0, Nat.zero_le _, rfl, Below.refl _ _⟩
  case round =>
    obtain ⟨j, hj, rfl, hb⟩ := hrel
    rcases Nat.lt_or_ge j l.length with hlt | hge
    · have hcur : l[j]? = some l[j] := List.getElem?_eq_getElem hlt
      generalize l[j] = x at hcur
      obtain ⟨b1, o1, hb1, hc1⟩ := r1.cell (k := 1) (fun _ => rfl) rfl hcur
      obtain ⟨b2, o2, hb2, hc2⟩ := r2.cell (k := 1) (fun _ => rfl) rfl hcur
      subst hb1 hb2
      have hc1 := hc1 0 _ rfl
      have hc2 := hc2 0 _ rfl
      simp only [Nat.mul_one, Nat.add_zero] at hc1 hc2
      have q1 := cell_regrown ((hb.cell (p := ⟨b1, o1 + j, none⟩) (World.block_lt_of_cell? w _ hc1)).trans hc1)
      have q2 := cell_regrown ((hb.cell (p := ⟨b2, o2 + j, none⟩) (World.block_lt_of_cell? w _ hc2)).trans hc2)
      clear hc1 hc2
      go_wp2_with fail
      (refine wp_region_quiet_below (by kernel_rfl) (by kernel_rfl) ?_; (repeat (go_big_quiet_step (fail))); refine wpQuiet_nil ?_; intro wqA hwq; have hbqA := below_of_class hwq; clear hwq)
      go_wp2_with fail
      go_roundw
      case rel => exact ⟨j + 1, by omega, by go_num, hbqA.via hb.size hb⟩
      case measure => simp [intOf]; omega
    · go_wp2_with fail
      go_ret
      exact ⟨rfl, hb⟩
end Go.Proofs.Ytggeehmcjndlgaa
