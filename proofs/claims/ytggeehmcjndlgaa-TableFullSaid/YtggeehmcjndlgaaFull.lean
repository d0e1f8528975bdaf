/-
  TableFull: the walk.
-/
import Derived.Test.YtggeehmcjndlgaaFullPlain
import Derived.Test.YtggeehmcjndlgaaKnown9
namespace Go.Proofs.Ytggeehmcjndlgaa
open Go Go.RowKit Go.Sort Go.Shelf
set_option linter.unusedVariables false
set_option linter.unusedSimpArgs false
set_option linter.unnecessarySimpa false

set_option maxHeartbeats 4000000 in
set_option maxRecDepth 100000 in
theorem tableFull_walk (w : World) (k : Int) (hk : (Lit.int .u8 k).wf = true) :
    Calls Try.prog 9 #[.int .u8 k] w fun e w' => e = .returned (.bool true) ∧ Below w.heap.size w w' := by
  have hk0 : 0 ≤ k ∧ k ≤ 255 := by
    have e1 : IntKind.u8.min = 0 := rfl
    have e2 : IntKind.u8.max = 255 := rfl
    simp [Lit.wf, e1, e2] at hk
    omega
  obtain ⟨hk1, hk2⟩ := hk0
  obtain ⟨kn, rfl⟩ : ∃ kn : Nat, k = kn := ⟨k.toNat, by omega⟩
  go_enter Try.func9, Try.ntmps9
  go_wp2_with fail
  refine Calls.mono (law9_known _) ?_
  rintro e w1 ⟨rfl, hb1⟩
  go_wp2_with fail
  refine Calls.mono (tl_New (B := w.heap.size) (K := fun _ => False) (w0 := w) hb1 hb1.size (fun _ h => h.elim)) ?_
  rintro e w2 ⟨t, rfl, h2, _⟩
  clear hb1
  go_wp2_with fail
  have h2' : TL t (Mf 0) w.heap.size (fun _ => False) w w2 := h2
  have H2 := Lib.hid h2'
  clear h2 h2'
  go_loopw [4] (fun i wl => ∃ j : Nat, j ≤ 200 ∧ i = .int .i64 j ∧ TL t (Mf j) w.heap.size (fun _ => False) w wl) (fun i _ => 200 - (intOf i).toNat)
  case atStart => exact ⟨0, Nat.zero_le _, rfl, H2.out⟩
  case round =>
    obtain ⟨j, hj, rfl, hT⟩ := hrel
    rcases Nat.lt_or_ge j 200 with hlt | hge
    · have hlt' : (j : Int) < 200 := by omega
      go_wp2_with fail
      have hC := Mf_putC hlt
      have hM := Mf_put hlt
      refine Calls.mono (tl_Put hT (tj j) (wfI (by simp only [tj]; omega) (by simp only [tj]; omega)) okZ) ?_
      rintro e w3 ⟨rfl, h3, hk3⟩
      rw [hC]
      rw [hM] at h3
      go_wp2_with fail
      go_roundw
      case rel => exact ⟨j + 1, by omega, by go_num, h3⟩
      case measure => simp [intOf]; omega
    · have hj' : j = 200 := by omega
      subst hj'
      have hs := hT.srt
      have HS := Lib.hid hs
      clear hs H2
      go_wp2_with fail
      refine Calls.mono (tl_Put hT one (by decide) okZ) ?_
      rintro e w3 ⟨rfl, h3, _⟩
      rw [full_C]
      rw [full_T] at h3
      clear hT
      obtain ⟨q, hq, hq2, hq3⟩ : ∃ q : Nat, (kn : Int) % 200 = q ∧ q < 200 ∧ (q : Int) < 200 := ⟨kn % 200, by omega, by omega, by omega⟩
      go_wp2_with fail
      refine Calls.mono (tl_Set h3 (far q) (wfI (by simp only [far]; omega) (by simp only [far]; omega)) okZ (by rw [Mf_len]; decide)) ?_
      rintro e w4 ⟨rfl, h4, _⟩
      rw [far_C hq2]
      have h4' : TL t (Mg q) w.heap.size (fun _ => False) w w4 := h4
      clear h3 h4
      go_wp2_with fail
      refine Calls.mono (tl_Drop h4' (id := 3 * (q : Int)) (wfI (by omega) (by omega))) ?_
      rintro e w5 ⟨rfl, h5, _⟩
      rw [Mg_C hq2]
      have h5' : TL t (Mh q) w.heap.size (fun _ => False) w w5 := h5
      clear h4' h5
      go_wp2_with fail
      refine Calls.mono (tl_Put h5' one (by decide) okZ) ?_
      rintro e w6 ⟨rfl, h6, _⟩
      rw [Mh_C hq2 HS.out]
      clear h5'
      go_wp2_with fail
      refine Calls.mono (tl_Len h6) ?_
      rintro e w7 ⟨rfl, rfl⟩
      rw [Mh_T hq2 HS.out]
      go_wp2_with fail
      go_ret
      exact ⟨rfl, h6.to⟩
end Go.Proofs.Ytggeehmcjndlgaa
