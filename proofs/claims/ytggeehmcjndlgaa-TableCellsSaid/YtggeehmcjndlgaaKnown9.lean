/-
  The table law's own 'known'.
-/
import Derived.Test.YtggeehmcjndlgaaFew
namespace Go.Proofs.Ytggeehmcjndlgaa
open Go Go.RowKit Go.Sort Go.Shelf
set_option linter.unusedVariables false
set_option linter.unusedSimpArgs false
set_option linter.unnecessarySimpa false

def Y9 : Thg := ⟨5, 3, 3, zeroF, zeroF, zeroF, zeroF⟩
def Z9 : Thg := ⟨6, 0, 0, zeroF, zeroF, zeroF, zeroF⟩
theorem okZeroF : okF zeroF := by unfold okF; decide
theorem okY9 : okT Y9 := ⟨okZeroF, okZeroF, okZeroF, okZeroF⟩
theorem okZ9 : okT Z9 := ⟨okZeroF, okZeroF, okZeroF, okZeroF⟩
theorem y9_cells {w : World} {n : Nat} (h : w.heap[n]? = some Y9.obj) : w.cell? ⟨n, 0, none⟩ = some (.int .i64 5) ∧ w.cell? ⟨n, 1, none⟩ = some (.int .i64 3) ∧ w.cell? ⟨n, 2, none⟩ = some (.int .i64 3) ∧ w.cell? ⟨n, 3, none⟩ = some (.int .i64 0) ∧ w.cell? ⟨n, 4, none⟩ = some (.string ⟨#[]⟩) ∧ w.cell? ⟨n, 5, none⟩ = some (.int .i64 0) ∧ w.cell? ⟨n, 6, none⟩ = some (.string ⟨#[]⟩) ∧ w.cell? ⟨n, 7, none⟩ = some (.int .i64 0) ∧ w.cell? ⟨n, 8, none⟩ = some (.string ⟨#[]⟩) ∧ w.cell? ⟨n, 9, none⟩ = some (.int .i64 0) ∧ w.cell? ⟨n, 10, none⟩ = some (.string ⟨#[]⟩) :=
  ⟨cellAt h rfl, cellAt h rfl, cellAt h rfl, cellAt h rfl, cellAt h rfl, cellAt h rfl, cellAt h rfl, cellAt h rfl, cellAt h rfl, cellAt h rfl, cellAt h rfl⟩

theorem two9_inrow (w : World) : InRow encT 11 (w.alloc (.cells #[.int .i64 5, .int .i64 3, .int .i64 3, .int .i64 0, .string ⟨#[]⟩, .int .i64 0, .string ⟨#[]⟩, .int .i64 0, .string ⟨#[]⟩, .int .i64 0, .string ⟨#[]⟩, .int .i64 5, .int .i64 3, .int .i64 3, .int .i64 0, .string ⟨#[]⟩, .int .i64 0, .string ⟨#[]⟩, .int .i64 0, .string ⟨#[]⟩, .int .i64 0, .string ⟨#[]⟩] 63)) (.slice (some ⟨w.heap.size, 0, none⟩) 2 2) [Y9, Y9] := by
  refine ⟨_, _, rfl, fun j z hj => ⟨w.heap.size, 0, rfl, fun i u hu => cellAt (heap_alloc_new w _) ?_⟩⟩
  have hi : i < 11 := by
    rcases Nat.lt_or_ge i 11 with h | h
    · exact h
    · have : (encT z).length ≤ i := h
      rw [List.getElem?_eq_none this] at hu; cases hu
  rw [← hu]
  have hz : z = Y9 ∧ j < 2 := by
    rcases j with _ | _ | j
    · simp at hj; exact ⟨hj.symm, by omega⟩
    · simp at hj; exact ⟨hj.symm, by omega⟩
    · simp at hj
  obtain ⟨rfl, hj2⟩ := hz
  clear hu hj
  rcases j with _ | _ | j
  · match i, hi with
    | 0, _ | 1, _ | 2, _ | 3, _ | 4, _ | 5, _ | 6, _ | 7, _ | 8, _ | 9, _ | 10, _ => rfl
  · match i, hi with
    | 0, _ | 1, _ | 2, _ | 3, _ | 4, _ | 5, _ | 6, _ | 7, _ | 8, _ | 9, _ | 10, _ => rfl
  · omega
set_option maxHeartbeats 4000000 in
set_option maxRecDepth 100000 in
theorem law9_known (w : World) : Calls Try.prog 37 #[] w fun e w' => e = .returned (.bool true) ∧ Below w.heap.size w w' := by
  go_enter Try.func37, Try.ntmps37
  go_wp2_with fail
  refine Calls.mono (tl_New (B := w.heap.size) (K := fun _ => False) (w0 := w) (Below.refl _ _) (Nat.le_refl _) (fun _ h => h.elim)) ?_
  rintro e w1 ⟨t, rfl, h1, _⟩
  go_wp2_with fail
  obtain ⟨W1, hW1⟩ : ∃ W1, W1 = w1.alloc (.cells #[.int .i64 5, .int .i64 3, .int .i64 3, .int .i64 0, .string ⟨#[]⟩, .int .i64 0, .string ⟨#[]⟩, .int .i64 0, .string ⟨#[]⟩, .int .i64 0, .string ⟨#[]⟩] 63) := ⟨_, rfl⟩
  obtain ⟨n, hn⟩ : ∃ n, n = w1.heap.size := ⟨_, rfl⟩
  rw [← hn, ← hW1]
  have hx1 : W1.heap[n]? = some Y9.obj := by rw [hW1, hn]; exact heap_alloc_new _ _
  have h2 : TL t [] w.heap.size (· = n) w W1 := h1.more (tblF t _) (by rw [hW1]; exact (by (repeat (first | exact Below.refl _ _ | assumption | refine Below.alloc ?_ (by first | omega | (simp; done) | (simp; omega)) _ | refine Below.setCell ?_ (by first | omega | (simp; done) | (simp; omega)) _ | refine Below.drew ?_ | refine Below.draws ?_ _ | refine Below.via (by assumption) (by first | omega | (simp; done) | (simp; omega)) ?_)))) (fun k e => .inr ⟨by rw [e, hn]; exact Nat.le_refl _, by rw [e, hn, hW1]; simp⟩)
  clear h1 hn hW1
  refine Calls.mono (tl_Put h2 Y9 (by decide) okY9) ?_
  rintro e w2 ⟨rfl, h3, hk3⟩
  rw [show tputC [] Y9 = 0 from by decide]
  rw [show tputT [] Y9 = [Y9] from by rfl] at h3
  have hx3 := hk3.heap hx1 (fun e => e.2 rfl)
  obtain ⟨e0, e1, e2, e3, e4, e5, e6, e7, e8, e9, e10⟩ := y9_cells hx3
  clear h2 hx1 hk3
  go_wp2_with fail
  refine Calls.mono (tl_Put h3 Y9 (by decide) okY9) ?_
  rintro e w4 ⟨rfl, h4, hk4⟩
  rw [show tputC [Y9] Y9 = 11 from by decide]
  rw [show tputT [Y9] Y9 = [Y9] from by rfl] at h4
  have hx4 := hk4.heap hx3 (fun e => e.2 rfl)
  clear h3 hx3 hk4 e0 e1 e2 e3 e4 e5 e6 e7 e8 e9 e10
  obtain ⟨e0, e1, e2, e3, e4, e5, e6, e7, e8, e9, e10⟩ := y9_cells hx4
  go_wp2_with fail
  refine Calls.mono (tl_Set h4 Z9 (by decide) okZ9 (by simp)) ?_
  rintro e w5 ⟨rfl, h5, hk5⟩
  rw [show tsetC [Y9] Z9 = 15 from by decide]
  rw [show tsetT [Y9] Z9 = [Y9] from by rfl] at h5
  have hx5 := hk5.heap hx4 (fun e => e.2 rfl)
  clear h4 hx4 hk5 e0 e1 e2 e3 e4 e5 e6 e7 e8 e9 e10
  go_wp2_with fail
  refine Calls.mono (tl_Drop h5 (id := 7) (by decide)) ?_
  rintro e w6 ⟨rfl, h6, hk6⟩
  rw [show tdropC [Y9] 7 = 15 from by decide]
  rw [show delT 7 [Y9] = [Y9] from by rfl] at h6
  have hx6 := hk6.heap hx5 (fun e => e.2 rfl)
  clear h5 hx5 hk6
  go_wp2_with fail
  refine Calls.mono (tl_Get h6 (id := 5) (by decide)) ?_
  rintro e w7 ⟨rfl, hb7⟩
  rw [show (getT [Y9] 5).val = .agg #[.int .i64 5, .int .i64 3, .int .i64 3, .int .i64 0, .string ⟨#[]⟩, .int .i64 0, .string ⟨#[]⟩, .int .i64 0, .string ⟨#[]⟩, .int .i64 0, .string ⟨#[]⟩] from by rfl, show hasT [Y9] 5 = true from by rfl]
  obtain ⟨W7, hW7⟩ : ∃ W7, W7 = w7.alloc (.cells #[.int .i64 5, .int .i64 3, .int .i64 3, .int .i64 0, .string ⟨#[]⟩, .int .i64 0, .string ⟨#[]⟩, .int .i64 0, .string ⟨#[]⟩, .int .i64 0, .string ⟨#[]⟩] 63) := ⟨_, rfl⟩
  obtain ⟨n7, hn7⟩ : ∃ n, n = w7.heap.size := ⟨_, rfl⟩
  have hb67 : Below w6.heap.size w6 W7 := by rw [hW7]; exact hb7.alloc hb7.size _
  have h7 := h6.below (tblF t _) hb67
  have hx7 := (hb67.block _ (lt_of_block hx6)).trans hx6
  have hy7 : W7.heap[n7]? = some Y9.obj := by rw [hW7, hn7]; exact heap_alloc_new _ _
  rw [hW7] at hx7 hy7
  obtain ⟨e0, e1, e2, e3, e4, e5, e6, e7, e8, e9, e10⟩ := y9_cells hx7
  rw [hn7] at hy7
  obtain ⟨f0, f1, f2, f3, f4, f5, f6, f7, f8, f9, f10⟩ := y9_cells hy7
  have HEF := Lib.hid (eq_fields_same Y9)
  clear hb7 h6 hx6 hb67
  have hEF := HEF.out
  simp only [Y9, zeroF] at hEF
  go_wp2_with fail
  rw [← hW7, ← hn7]
  rw [← hW7] at hx7
  clear hn7 hW7 hEF hy7 e0 e1 e2 e3 e4 e5 e6 e7 e8 e9 e10 f0 f1 f2 f3 f4 f5 f6 f7 f8 f9 f10
  refine Calls.mono (tl_Len h7) ?_
  rintro e w8 ⟨rfl, rfl⟩
  go_wp2_with fail
  obtain ⟨Ft, hTt⟩ := h7.the
  refine Calls.mono (table_Cell w8 t _ Ft 0 hTt) ?_
  rintro e w9 ⟨v9, rfl, hr9, hb9⟩
  rw [show cellT [Y9] 0 = [Y9] from by rfl] at hr9
  obtain ⟨a9, c9, e9⟩ := hr9.reads.len
  subst e9
  have h9 := h7.below (tblF t _) hb9
  have hx9 := (hb9.block _ (lt_of_block hx7)).trans hx7
  clear h7 hx7 hr9 hb9 hTt
  go_wp2_with fail
  obtain ⟨Ft, hTt⟩ := h9.the
  refine Calls.mono (table_Cell w9 t _ Ft 1 hTt) ?_
  rintro e w10 ⟨v10, rfl, hr10, hb10⟩
  rw [show cellT [Y9] 1 = [] from by rfl] at hr10
  obtain ⟨a10, c10, e10⟩ := hr10.reads.len
  subst e10
  have h10 := h9.below (tblF t _) hb10
  have hx10 := (hb10.block _ (lt_of_block hx9)).trans hx9
  clear h9 hx9 hr10 hb10 hTt
  go_wp2_with fail
  refine Calls.mono (tl_In h10 ⟨0, 0, 4, 4⟩) ?_
  rintro e w11 ⟨v11, rfl, hr11, hb11⟩
  rw [show inT [Y9] ⟨0, 0, 4, 4⟩ = [Y9] from by rfl] at hr11
  obtain ⟨a11, c11, e11⟩ := hr11.reads.len
  subst e11
  have h11 := h10.below (tblF t _) hb11
  have hx11 := (hb11.block _ (lt_of_block hx10)).trans hx10
  clear h10 hx10 hr11 hb11
  go_wp2_with fail
  refine Calls.mono (tl_All h11) ?_
  rintro e w12 ⟨v12, rfl, hr12, hb12⟩
  obtain ⟨a12, c12, e12⟩ := hr12.reads.len
  subst e12
  have h12 := h11.below (tblF t _) hb12
  have hx12 := (hb12.block _ (lt_of_block hx11)).trans hx11
  clear h11 hx11 hr12 hb12
  obtain ⟨e0, e1, e2, e3, e4, e5, e6, e7, e8, e9, e10⟩ := y9_cells hx12
  go_wp2_with fail
  obtain ⟨W12, hW12⟩ : ∃ W, W = w12.alloc (.cells #[.int .i64 5, .int .i64 3, .int .i64 3, .int .i64 0, .string ⟨#[]⟩, .int .i64 0, .string ⟨#[]⟩, .int .i64 0, .string ⟨#[]⟩, .int .i64 0, .string ⟨#[]⟩, .int .i64 5, .int .i64 3, .int .i64 3, .int .i64 0, .string ⟨#[]⟩, .int .i64 0, .string ⟨#[]⟩, .int .i64 0, .string ⟨#[]⟩, .int .i64 0, .string ⟨#[]⟩] 63) := ⟨_, rfl⟩
  obtain ⟨n12, hn12⟩ : ∃ n, n = w12.heap.size := ⟨_, rfl⟩
  have hr13 := two9_inrow w12
  have hb13 : Below w12.heap.size w12 W12 := by rw [hW12]; exact (by (repeat (first | exact Below.refl _ _ | assumption | refine Below.alloc ?_ (by first | omega | (simp; done) | (simp; omega)) _ | refine Below.setCell ?_ (by first | omega | (simp; done) | (simp; omega)) _ | refine Below.drew ?_ | refine Below.draws ?_ _ | refine Below.via (by assumption) (by first | omega | (simp; done) | (simp; omega)) ?_)))
  rw [← hn12, ← hW12] at hr13 ⊢
  have h13 := h12.below (tblF t _) hb13
  clear hW12 hn12 h12 hx12 hb13 e0 e1 e2 e3 e4 e5 e6 e7 e8 e9 e10
  refine Calls.mono (table_Of W12 _ _ hr13 (by decide) (fun x hx => by simp at hx; subst hx; exact ⟨by decide, okY9⟩) (B := W12.heap.size) (K := fun _ => False) (w0 := W12) (Below.refl _ _) (Nat.le_refl _) (fun _ h => h.elim)) ?_
  rintro e w14 ⟨t2, rfl, h2, hb14⟩
  rw [show ofT [Y9, Y9] = [Y9] from by rfl] at h2
  have h14 := h13.below (tblF t _) hb14
  clear h13 hr13 hb14
  go_wp2_with fail
  refine Calls.mono (tl_Len h2) ?_
  rintro e w15 ⟨rfl, rfl⟩
  clear h2
  go_wp2_with fail
  refine Calls.mono (tl_Copy h14) ?_
  rintro e w16 ⟨c, rfl, h16, hb16⟩
  obtain ⟨F2, hc1, hc2, hc3⟩ := h16
  go_wp2_with fail
  refine Calls.mono (table_Len w16 c _ F2 hc1) ?_
  rintro e w17 ⟨rfl, rfl⟩
  go_wp2_with fail
  go_ret
  exact ⟨rfl, hc3.to⟩
end Go.Proofs.Ytggeehmcjndlgaa
