/-
  TableCells: the walk.
-/
import Derived.Test.YtggeehmcjndlgaaSumsPlain
import Derived.Test.YtggeehmcjndlgaaKnown9
import Derived.Test.YtggeehmcjndlgaaThingIn
import Derived.Test.YtggeehmcjndlgaaIn
import Derived.Deep.RegionHeld3
namespace Go.Proofs.Ytggeehmcjndlgaa
open Go Go.RowKit Go.Sort Go.Shelf
set_option linter.unusedVariables false
set_option linter.unusedSimpArgs false
set_option linter.unnecessarySimpa false

set_option maxHeartbeats 16000000 in
set_option maxRecDepth 100000 in
theorem tableCells_walk (w : World) (v : Value) (l : Ths) (hr : InRow encT 11 w v l) (hlc : (l.length : Int) ≤ 9223372036854775807) (hwf : ∀ x ∈ l, (Lit.int .i64 x.id).wf = true ∧ okT x) :
    Calls Try.prog 7 #[v] w fun e w' => e = .returned (.bool true) ∧ Below w.heap.size w w' := by
  obtain ⟨ao, cap, hv⟩ := hr.len
  subst hv
  have HR := Lib.hid hr
  have HWF := Lib.hid hwf
  clear hr hwf
  go_enter Try.func7, Try.ntmps7
  go_wp2_with fail
  refine Calls.mono (law9_known _) ?_
  rintro e w1 ⟨rfl, hb1⟩
  have hr1 := InRow.below HR.out hb1
  go_wp2_with fail
  refine Calls.mono (law9_fewThings w1 _ l hr1 (fun x hx => (HWF.out x hx).2) hlc) ?_
  rintro e w2 ⟨rfl, hb2⟩
  have hb12 := hb2.via hb1.size hb1
  have hr2 := InRow.below hr1 hb2
  clear hb1 hb2 hr1
  cases hfew : (l.all fewT && decide (l.length ≤ 30))
  · go_wp2_with fail
    go_ret
    exact ⟨rfl, hb12⟩
  clear hfew
  have HR2 := Lib.hid hr2
  clear hr2
  go_wp2_with fail
  refine Calls.mono (table_Of w2 _ _ HR2.out hlc HWF.out (B := w.heap.size) (K := fun _ => False) (w0 := w) hb12 hb12.size (fun _ h => h.elim)) ?_
  rintro e w3 ⟨t, rfl, h3, hb3⟩
  generalize hM : ofT l = M at *
  clear hb12 hb3 HR2 HR HWF hM
  have hlM := h3.len
  have hsM := h3.srt
  have honM := h3.on
  have hwfM : ∀ x ∈ M, (Lit.int .i64 x.id).wf = true := by
    obtain ⟨F, g⟩ := h3.the
    exact Tbl.wf g
  have HSRT := Lib.hid hsM
  have HON := Lib.hid honM
  have HWFM := Lib.hid hwfM
  have H3 := Lib.hid h3
  clear h3 hsM honM hwfM
  go_wp2_with fail
  go_loopw [4, 5, 6, 7, 8, 9] (fun s c _ _ _ _ wl => ∃ i : Nat, i ≤ 18 ∧ s = .int .i64 (tot M i) ∧ c = .int .i64 ((i : Int) - 1) ∧ TL t M w.heap.size (fun _ => False) w wl) (fun _ c _ _ _ _ _ => 18 - (intOf c + 1).toNat)
  case atStart => exact ⟨0, Nat.zero_le _, rfl, rfl, H3.out⟩
  case round =>
    clear H3
    obtain ⟨i, hi, rfl, rfl, hT⟩ := hrel
    have htot : (tot M i : Int) ≤ 18 * 400 := by
      have := tot_le M i
      have h2 : i * M.length ≤ 18 * 400 := Nat.mul_le_mul hi hlM
      omega
    rcases Nat.lt_or_ge i 18 with hlt | hge
    · have hlt' : (i : Int) < 18 := by omega
      have hts := tot_succ M i
      have hcl := cellT_len M ((i : Int) - 1)
      obtain ⟨F, hF⟩ := hT.the
      have HF := Lib.hid hF
      have HT := Lib.hid hT
      clear hF hT
      go_wp2_with fail
      refine Calls.mono (table_Cell wr t M F ((i : Int) - 1) HF.out) ?_
      rintro e w6 ⟨v6, rfl, hr6, hb6⟩
      have hsC := HSRT.out.cell ((i : Int) - 1)
      have hmC : ∀ x ∈ cellT M ((i : Int) - 1), x ∈ M := fun x hx => cellT_mem hx
      generalize cellT M ((i : Int) - 1) = CL at *
      have hr6 := hr6.reads
      obtain ⟨a6, c6, e6⟩ := hr6.len
      subst e6
      have HR6 := Lib.hid hr6
      have HSC := Lib.hid hsC
      have HMC := Lib.hid hmC
      have HF6 := Lib.hid (HF.out.below hb6)
      have HT6 := Lib.hid (HT.out.below (tblF t _) hb6)
      clear hr6 hsC hmC hb6 HF HT
      go_wp2_with fail
      go_loopw [7, 8, 9] (fun k _ _ wl => ∃ m : Nat, m ≤ CL.length ∧ k = .int .i64 m ∧ Below w6.heap.size w6 wl) (fun k _ _ _ => CL.length - (intOf k).toNat)
      case atStart => exact ⟨0, Nat.zero_le _, rfl, Below.refl _ _⟩
      case round =>
        obtain ⟨k, hk, rfl, hbk⟩ := hrel
        rcases Nat.lt_or_ge k CL.length with hlk | hgk
        · have hcur : CL[k]? = some CL[k] := List.getElem?_eq_getElem hlk
          have hmem := HMC.out _ (List.getElem_mem hlk)
          have hlk' : (k : Int) < CL.length := by omega
          have hk0 : (0 : Int) ≤ k := by omega
          generalize CL[k] = y at *
          obtain ⟨be, oe, hao, hc⟩ := (Reads.later HR6.out hbk).cell (k := 11) (fun _ => rfl) rfl hcur
          subst hao
          have HC := Lib.hid hc
          have c0 := hc 0 _ rfl
          simp only [Nat.add_zero] at c0
          have hg := getT_mem HSRT.out hmem
          have hh : hasT M y.id = true := hasT_iff.2 ⟨y, hmem, rfl⟩
          have HG := Lib.hid (table_Get wr t M F y.id (HF6.out.below hbk) (HWFM.out y hmem))
          rw [hg, hh] at HG
          unfold Thg.val at HG
          have HCUR := Lib.hid hcur
          clear hc hcur hmem hg hh
          go_wp2_with fail
          refine Calls.mono HG.out ?_
          rintro e w8 ⟨rfl, hb8⟩
          obtain ⟨W9, hW9⟩ : ∃ W, W = w8.alloc (.cells #[.int .i64 y.id, .int .i64 y.x, .int .i64 y.y, .int .i64 y.a.n, .string y.a.t, .int .i64 y.b.n, .string y.b.t, .int .i64 y.c.n, .string y.c.t, .int .i64 y.d.n, .string y.d.t] 63) := ⟨_, rfl⟩
          obtain ⟨nx, hnx⟩ : ∃ m, m = w8.heap.size := ⟨_, rfl⟩
          have hb9 : Below wr.heap.size wr W9 := by rw [hW9]; exact hb8.alloc hb8.size _
          have hx9 : W9.heap[nx]? = some y.obj := by rw [hW9, hnx]; exact heap_alloc_new _ _
          have hc : ∀ i u, (encT y)[i]? = some u → W9.cell? ⟨be, oe + k * 11 + i, none⟩ = some u := fun i u hu =>
            (hb9.cell (p := ⟨be, oe + k * 11 + i, none⟩) (World.block_lt_of_cell? wr _ (HC.out i u hu))).trans (HC.out i u hu)
          have hbW := hb9.via hbk.size hbk
          have HBW := Lib.hid hbW
          have hEF := eq_fields_same y
          rcases Nat.eq_zero_or_pos k with hkz | hkp
          · have hkz' : ¬ (0 : Int) < k := by omega
            have hkn : ¬ 0 < k := by omega
            have hkd : decide ((0 : Int) < k) = false := decide_eq_false hkz'
            clear hkz
            have hs0 := hc 0 _ rfl
            rw [Nat.add_zero] at hs0
            have r0 := cell_regrown (cellAt hx9 (o := 0) rfl)
            have r1 := cell_regrown (cellAt hx9 (o := 1) rfl)
            have r2 := cell_regrown (cellAt hx9 (o := 2) rfl)
            have r3 := cell_regrown (cellAt hx9 (o := 3) rfl)
            have r4 := cell_regrown (cellAt hx9 (o := 4) rfl)
            have r5 := cell_regrown (cellAt hx9 (o := 5) rfl)
            have r6 := cell_regrown (cellAt hx9 (o := 6) rfl)
            have r7 := cell_regrown (cellAt hx9 (o := 7) rfl)
            have r8 := cell_regrown (cellAt hx9 (o := 8) rfl)
            have r9 := cell_regrown (cellAt hx9 (o := 9) rfl)
            have r10 := cell_regrown (cellAt hx9 (o := 10) rfl)
            have s0 := cell_regrown hs0
            have s1 := cell_regrown (hc 1 _ rfl)
            have s2 := cell_regrown (hc 2 _ rfl)
            have s3 := cell_regrown (hc 3 _ rfl)
            have s4 := cell_regrown (hc 4 _ rfl)
            have s5 := cell_regrown (hc 5 _ rfl)
            have s6 := cell_regrown (hc 6 _ rfl)
            have s7 := cell_regrown (hc 7 _ rfl)
            have s8 := cell_regrown (hc 8 _ rfl)
            have s9 := cell_regrown (hc 9 _ rfl)
            have s10 := cell_regrown (hc 10 _ rfl)
            clear hs0 hc hx9 hb9 hb8 HG HC HCUR c0 hbk hbW
            go_wp2_with fail
            rw [← hnx, ← hW9]
            clear hnx hW9
            (refine wp_region_quiet_below (by kernel_rfl) (by kernel_rfl) ?_; (repeat (go_big_quiet_step (fail))); refine wpQuiet_nil ?_; intro wqA hwq; have hbqA := below_of_class hwq; clear hwq)
            go_wp2_with fail
            go_roundw
            case rel => exact ⟨k + 1, by omega, by go_num, hbqA.via HBW.out.size HBW.out⟩
            case measure => simp [intOf]; omega
          · have hcurp : CL[k - 1]? = some CL[k - 1] := List.getElem?_eq_getElem (by omega)
            have hylt := HSC.out.lt hcurp (by rw [Nat.sub_add_cancel hkp]; exact HCUR.out)
            obtain ⟨be', oe', hao', hcp0⟩ := (Reads.later HR6.out HBW.out).cell (k := 11) (fun _ => rfl) rfl hcurp
            have hcp : ∀ i u, (encT CL[k - 1])[i]? = some u → W9.cell? ⟨be, oe + (k - 1) * 11 + i, none⟩ = some u := by
              injection hao' with hao'
              injection hao' with e1 e2
              rw [e1, e2]
              exact hcp0
            generalize CL[k - 1] = yp at *
            have hkz' : (0 : Int) < k := by omega
            have hkn : 0 < k := hkp
            have hkd : decide ((0 : Int) < k) = true := decide_eq_true hkz'
            have hidx : ((k : Int) - 1) = ((k - 1 : Nat) : Int) := by omega
            have hlp : ((k - 1 : Nat) : Int) < CL.length := by omega
            have hlq : (0 : Int) ≤ ((k - 1 : Nat) : Int) := by omega
            have hge : ¬ (y.id ≤ yp.id) := by omega
            have hgd : decide (y.id ≤ yp.id) = false := decide_eq_false hge
            have hs0 := hc 0 _ rfl
            have hp0 := hcp 0 _ rfl
            rw [Nat.add_zero] at hs0 hp0
            have p0 := cell_regrown hp0
            have r0 := cell_regrown (cellAt hx9 (o := 0) rfl)
            have r1 := cell_regrown (cellAt hx9 (o := 1) rfl)
            have r2 := cell_regrown (cellAt hx9 (o := 2) rfl)
            have r3 := cell_regrown (cellAt hx9 (o := 3) rfl)
            have r4 := cell_regrown (cellAt hx9 (o := 4) rfl)
            have r5 := cell_regrown (cellAt hx9 (o := 5) rfl)
            have r6 := cell_regrown (cellAt hx9 (o := 6) rfl)
            have r7 := cell_regrown (cellAt hx9 (o := 7) rfl)
            have r8 := cell_regrown (cellAt hx9 (o := 8) rfl)
            have r9 := cell_regrown (cellAt hx9 (o := 9) rfl)
            have r10 := cell_regrown (cellAt hx9 (o := 10) rfl)
            have s0 := cell_regrown hs0
            have s1 := cell_regrown (hc 1 _ rfl)
            have s2 := cell_regrown (hc 2 _ rfl)
            have s3 := cell_regrown (hc 3 _ rfl)
            have s4 := cell_regrown (hc 4 _ rfl)
            have s5 := cell_regrown (hc 5 _ rfl)
            have s6 := cell_regrown (hc 6 _ rfl)
            have s7 := cell_regrown (hc 7 _ rfl)
            have s8 := cell_regrown (hc 8 _ rfl)
            have s9 := cell_regrown (hc 9 _ rfl)
            have s10 := cell_regrown (hc 10 _ rfl)
            clear hs0 hp0 hc hcp hcp0 hao' hcurp hx9 hb9 hb8 HG HC HCUR c0 hbk hbW hge hylt hkp
            go_wp2_with fail
            rw [← hnx, ← hW9]
            clear hnx hW9
            (refine wp_region_quiet_below (by kernel_rfl) (by kernel_rfl) ?_; (repeat (go_big_quiet_step (fail))); refine wpQuiet_nil ?_; intro wqA hwq; have hbqA := below_of_class hwq; clear hwq)
            go_wp2_with fail
            go_roundw
            case rel => exact ⟨k + 1, by omega, by go_num, hbqA.via HBW.out.size HBW.out⟩
            case measure => simp [intOf]; omega
        · have hke : k = CL.length := by omega
          subst hke
          go_wp2_with fail
          go_roundw
          case rel => exact ⟨i + 1, by omega, by rw [hts]; go_num, by go_num, HT6.out.below (tblF t _) hbk⟩
          case measure => simp [intOf]; omega
    · have hie : i = 18 := by omega
      subst hie
      have hta := tot_all HON.out
      rw [hta] at htot ⊢
      have HT := Lib.hid hT
      clear hT
      go_wp2_with fail
      refine Calls.mono (tl_Len HT.out) ?_
      rintro e w8 ⟨rfl, rfl⟩
      go_wp2_with fail
      refine Calls.mono (tl_All HT.out) ?_
      rintro e w9 ⟨v9, rfl, hr9, hb9⟩
      obtain ⟨a9, c9, e9⟩ := hr9.reads.len
      subst e9
      go_wp2_with fail
      go_ret
      exact ⟨rfl, hb9.via HT.out.size HT.out.to⟩
end Go.Proofs.Ytggeehmcjndlgaa
