/-
  QuadMerges: the walk.
-/
import Derived.Test.YtggeehmcjndlgaaKnown8
import Derived.Test.YtggeehmcjndlgaaMergesPlain
import Derived.Test.YtggeehmcjndlgaaIn
namespace Go.Proofs.Ytggeehmcjndlgaa
open Go Go.RowKit Go.Sort Go.Shelf

def nthP (l : List (Int × Int)) (j : Nat) : Int × Int := l[j]!
theorem nthP_get {l : List (Int × Int)} {j : Nat} (h : j < l.length) : l[j]? = some (nthP l j) := by
  unfold nthP
  rw [getElem!_pos l j h]
  exact List.getElem?_eq_getElem h
theorem wfI {n : Int} (h1 : -9223372036854775808 ≤ n) (h2 : n ≤ 9223372036854775807) : (Lit.int .i64 n).wf = true := by
  have e1 : IntKind.i64.min = -9223372036854775808 := rfl
  have e2 : IntKind.i64.max = 9223372036854775807 := rfl
  simp [Lit.wf, e1, e2]
  omega

set_option maxHeartbeats 8000000 in
set_option maxRecDepth 100000 in
theorem quadMerges_walk (w : World) (v : Value) (l : List (Int × Int)) (hr : InRow encPt 2 w v l) (px py kk : Int) (hkk : (Lit.int .u8 kk).wf = true) :
    Calls Try.prog 5 #[v, .agg #[.int .i64 px, .int .i64 py], .int .u8 kk] w fun e w' => e = .returned (.bool true) ∧ Below w.heap.size w w' := by
  obtain ⟨ao, cap, hv⟩ := hr.len
  subst hv
  have HR := Lib.hid hr
  clear hr
  go_enter Try.func5, Try.ntmps5
  go_wp2_with fail
  refine Calls.mono (law8_known _) ?_
  rintro e w1 ⟨rfl, hb1⟩
  have hW1 : Below w.heap.size w w1 := (by (repeat (first | exact Below.refl _ _ | assumption | refine Below.alloc ?_ (by first | omega | (simp; done) | (simp; omega)) _ | refine Below.setCell ?_ (by first | omega | (simp; done) | (simp; omega)) _ | refine Below.drew ?_ | refine Below.draws ?_ _ | refine Below.via (by assumption) (by first | omega | (simp; done) | (simp; omega)) ?_)))
  have hx1 : w1.heap[w.heap.size]? = some (.cells #[.int .i64 px, .int .i64 py] 31 (0, 0)) := (hb1.block _ (by simp)).trans (heap_alloc_new w _)
  clear hb1
  have hlt1 := lt_of_block hx1
  by_cases hlen : l.length ≤ 30
  · have hlen' : (l.length : Int) ≤ 30 := by omega
    go_wp2_with fail
    refine Calls.mono (lone_New (B := w.heap.size) (K := (· = w.heap.size)) (w0 := w) hW1 hW1.size (fun k e => by rw [e]; exact hlt1)) ?_
    rintro e w2 ⟨t, rfl, h2, hb2⟩
    have hx2 := (hb2.block _ hlt1).trans hx1
    clear hb2 hx1 hW1 hlt1
    go_wp2_with fail
    go_loopw [8] (fun i wl => ∃ j : Nat, j ≤ l.length ∧ i = .int .i64 j ∧ Lone w.heap.size (· = w.heap.size) w wl t (after (fun j => ((j : Int), nthP l j)) [] j) ∧ wl.heap[w.heap.size]? = some (.cells #[.int .i64 px, .int .i64 py] 31 (0, 0)))
      (fun i _ => l.length - (intOf i).toNat)
    case atStart => exact ⟨0, Nat.zero_le _, rfl, h2, hx2⟩
    case round =>
      obtain ⟨j, hj, rfl, hL, hx⟩ := hrel
      rcases Nat.lt_or_ge j l.length with hlt | hge
      · obtain ⟨b, off, hbo, hc⟩ := HR.out.cell rfl (nthP_get hlt)
        subst hbo
        have c0 := hc 0 _ rfl
        have c1 := hc 1 _ rfl
        have d0 := (hL.to.cell (p := ⟨b, off + j * 2, none⟩) (World.block_lt_of_cell? w _ c0)).trans c0
        have d1 := (hL.to.cell (p := ⟨b, off + j * 2 + 1, none⟩) (World.block_lt_of_cell? w _ c1)).trans c1
        have hwfj : (Lit.int .i64 (j : Int)).wf = true := wfI (by omega) (by omega)
        have hput := lone_Put hL (id := (j : Int)) (px := (nthP l j).1) (py := (nthP l j).2) hwfj
        have HPUT := Lib.hid hput
        clear hput hc c0 c1
        go_wp2_with fail
        refine Calls.mono HPUT.out ?_
        rintro e w3 ⟨rfl, h3, hk3⟩
        clear HPUT
        go_wp2_with fail
        go_roundw
        case rel => exact ⟨j + 1, by omega, by go_num, h3, hk3.heap hx (fun e => e.2 rfl)⟩
        case measure => simp [intOf]; omega
      · have hje : j = l.length := by omega
        subst hje
        obtain ⟨A, hA⟩ : ∃ A, A = after (fun j => ((j : Int), nthP l j)) [] l.length := ⟨_, rfl⟩
        rw [← hA] at hL
        have hAlt : ∀ x ∈ A, x.1 < ((100 : Nat) : Int) := by rw [hA]; exact after_lt _ (fun x hx => by cases hx) (fun i hi => by simp only; omega)
        have hAlen : A.length ≤ 30 := by rw [hA]; have := after_len (g := fun j => ((j : Int), nthP l j)) (L := []) l.length; simp at this; omega
        clear hA
        have hd := lone_Depth hL
        have HD := Lib.hid hd
        clear hd
        go_wp2_with fail
        refine Calls.mono HD.out ?_
        rintro e w3 ⟨rfl, rfl⟩
        clear HD
        obtain ⟨n, hn, hn20⟩ : ∃ n : Nat, wrap64 (kk.tmod 20) = n ∧ n < 20 := by
          have e1 : IntKind.u8.min = 0 := rfl
          have e2 : IntKind.u8.max = 255 := rfl
          simp [Lit.wf, e1, e2] at hkk
          have h1 : kk.tmod 20 = kk % 20 := Int.tmod_eq_emod_of_nonneg hkk.1
          have h2 : 0 ≤ kk % 20 := Int.emod_nonneg _ (by decide)
          have h3 : kk % 20 < 20 := Int.emod_lt_of_pos _ (by decide)
          refine ⟨(kk % 20).toNat, ?_, by omega⟩
          rw [h1, Int.toNat_of_nonneg h2]
          exact IntWalk.wrap64_in _ ⟨by omega, by omega⟩
        go_wp2_with fail
        rw [hn]
        clear hn
        go_loopw [11] (fun i wl => ∃ m : Nat, m ≤ n ∧ i = .int .i64 m ∧ Lone w.heap.size (· = w.heap.size) w wl t (after (fun i => (((100 + i : Nat) : Int), (px, py))) A m) ∧ wl.heap[w.heap.size]? = some (.cells #[.int .i64 px, .int .i64 py] 31 (0, 0)))
          (fun i _ => n - (intOf i).toNat)
        case atStart => exact ⟨0, Nat.zero_le _, rfl, hL, hx⟩
        case round =>
          obtain ⟨m, hm, rfl, hL, hx⟩ := hrel
          rcases Nat.lt_or_ge m n with hlt | hge
          · have x0 := cellAt hx (o := 0) rfl
            have x1 := cellAt hx (o := 1) rfl
            have hput := lone_Put hL (id := ((100 + m : Nat) : Int)) (px := px) (py := py) (wfI (by omega) (by omega))
            rw [show ((100 + m : Nat) : Int) = 100 + (m : Int) by omega] at hput
            have HPUT := Lib.hid hput
            clear hput
            go_wp2_with fail
            refine Calls.mono HPUT.out ?_
            rintro e w4 ⟨rfl, h4, hk4⟩
            clear HPUT
            go_wp2_with fail
            go_roundw
            case rel => exact ⟨m + 1, by omega, by go_num, by simp only [after]; rw [show ((100 + m : Nat) : Int) = 100 + (m : Int) by omega]; exact h4, hk4.heap hx (fun e => e.2 rfl)⟩
            case measure => simp [intOf]; omega
          · have hme : m = n := by omega
            subst hme
            obtain ⟨P, hP⟩ : ∃ P, P = after (fun i => (((100 + i : Nat) : Int), (px, py))) A m := ⟨_, rfl⟩
            have hfin : drops (fun i => ((100 + i : Nat) : Int)) P m = A := by rw [hP]; exact merges_list 100 m hAlt (by omega)
            have hdeep := merges_deep (p := (px, py)) 100 m hAlt (by omega)
            rw [← hP] at hL hdeep
            clear hP
            have hd := lone_Depth hL
            have HD := Lib.hid hd
            have HF := Lib.hid hfin
            clear hd hfin
            go_wp2_with fail
            refine Calls.mono HD.out ?_
            rintro e w4 ⟨rfl, rfl⟩
            clear HD
            go_wp2_with fail
            go_loopw [13] (fun i wl => ∃ q : Nat, q ≤ m ∧ i = .int .i64 q ∧ Lone w.heap.size (· = w.heap.size) w wl t (drops (fun i => ((100 + i : Nat) : Int)) P q) ∧ wl.heap[w.heap.size]? = some (.cells #[.int .i64 px, .int .i64 py] 31 (0, 0)))
              (fun i _ => m - (intOf i).toNat)
            case atStart => exact ⟨0, Nat.zero_le _, rfl, hL, hx⟩
            case round =>
              obtain ⟨q, hq, rfl, hL, hx⟩ := hrel
              rcases Nat.lt_or_ge q m with hlt | hge
              · have hput := lone_Drop hL (id := ((100 + q : Nat) : Int)) (wfI (by omega) (by omega))
                rw [show ((100 + q : Nat) : Int) = 100 + (q : Int) by omega] at hput
                have HPUT := Lib.hid hput
                clear hput
                go_wp2_with fail
                refine Calls.mono HPUT.out ?_
                rintro e w5 ⟨rfl, h5, hk5⟩
                clear HPUT
                go_wp2_with fail
                go_roundw
                case rel => exact ⟨q + 1, by omega, by go_num, by simp only [drops]; rw [show ((100 + q : Nat) : Int) = 100 + (q : Int) by omega]; exact h5, hk5.heap hx (fun e => e.2 rfl)⟩
                case measure => simp [intOf]; omega
              · have hqe : q = m := by omega
                subst hqe
                rw [HF.out] at hL
                have x0 := cellAt hx (o := 0) rfl
                have x1 := cellAt hx (o := 1) rfl
                have hd := lone_Depth hL
                have HD := Lib.hid hd
                have HDP := Lib.hid hdeep
                clear hd hdeep
                have hi : (deepR A 4 whole : Int) ≤ deepR P 4 whole := by have := HDP.out.1; omega
                clear hAlt
                by_cases h1 : 0 ≤ px
                rotate_left
                · go_wp2_with fail
                  refine Calls.mono HD.out ?_
                  rintro e w5 ⟨rfl, rfl⟩
                  go_wp2_with fail
                  go_ret
                  exact ⟨rfl, hL.to⟩
                by_cases h2 : px < 64
                rotate_left
                · go_wp2_with fail
                  refine Calls.mono HD.out ?_
                  rintro e w5 ⟨rfl, rfl⟩
                  go_wp2_with fail
                  go_ret
                  exact ⟨rfl, hL.to⟩
                by_cases h3 : 0 ≤ py
                rotate_left
                · go_wp2_with fail
                  refine Calls.mono HD.out ?_
                  rintro e w5 ⟨rfl, rfl⟩
                  go_wp2_with fail
                  go_ret
                  exact ⟨rfl, hL.to⟩
                by_cases h4 : py < 64
                rotate_left
                · go_wp2_with fail
                  refine Calls.mono HD.out ?_
                  rintro e w5 ⟨rfl, rfl⟩
                  go_wp2_with fail
                  go_ret
                  exact ⟨rfl, hL.to⟩
                by_cases h5 : (q : Int) ≤ 4
                · go_wp2_with fail
                  refine Calls.mono HD.out ?_
                  rintro e w5 ⟨rfl, rfl⟩
                  go_wp2_with fail
                  go_ret
                  exact ⟨rfl, hL.to⟩
                · have h6 : (deepR P 4 whole : Int) = 4 := by have := HDP.out.2 (by simp [onB]; omega) (by omega); omega
                  go_wp2_with fail
                  refine Calls.mono HD.out ?_
                  rintro e w5 ⟨rfl, rfl⟩
                  go_wp2_with fail
                  go_ret
                  exact ⟨rfl, hL.to⟩
  · have hlen' : 30 < (l.length : Int) := by omega
    go_wp2_with fail
    go_ret
    exact ⟨rfl, hW1⟩
end Go.Proofs.Ytggeehmcjndlgaa
