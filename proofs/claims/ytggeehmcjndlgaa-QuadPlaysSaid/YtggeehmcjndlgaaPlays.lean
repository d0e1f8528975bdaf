/-
  QuadPlays: the walk.
-/
import Derived.Test.YtggeehmcjndlgaaKnown8
import Derived.Test.YtggeehmcjndlgaaTrio
import Derived.Test.YtggeehmcjndlgaaMerges
import Derived.Deep.RegionHeld3
namespace Go.Proofs.Ytggeehmcjndlgaa
open Go Go.RowKit Go.Sort Go.Shelf
set_option linter.unusedVariables false
set_option linter.unusedSimpArgs false
set_option linter.unnecessarySimpa false

/-- A step of the row. -/
structure S8 where
  what : Int
  id : Int
  x : Int
  y : Int
  r : R4
def encS8 (s : S8) : List Value := [.int .i64 s.what, .int .i64 s.id, .int .i64 s.x, .int .i64 s.y, .int .i64 s.r.x0, .int .i64 s.r.y0, .int .i64 s.r.x1, .int .i64 s.r.y1]
def stepC (L : Pts) (s : S8) : Int := if s.what ≤ 1 then putC L s.id (s.x, s.y) else if s.what ≤ 3 then movC L s.id (s.x, s.y) else if s.what = 4 then drpC L s.id else 0
def stepL (L : Pts) (s : S8) : Pts := if s.what ≤ 1 then putL L s.id (s.x, s.y) else if s.what ≤ 3 then movL L s.id (s.x, s.y) else if s.what = 4 then drpL L s.id else L
theorem putL_len (L : Pts) (id : Int) (p : Int × Int) : (putL L id p).length ≤ L.length + 1 := by
  unfold putL
  split
  · exact put_len id p L
  · omega
theorem ins_len (x : Mark) (L : Pts) : (insP x L).length = L.length + 1 := by rw [(ins_perm x L).length_eq]; rfl
theorem movL_len (L : Pts) (id : Int) (p : Int × Int) : (movL L id p).length ≤ L.length + 1 := by
  unfold movL
  split
  · exact put_len id p L
  · omega
theorem drpL_len (L : Pts) (id : Int) : (drpL L id).length ≤ L.length + 1 := by
  unfold drpL
  split
  · have : (delP id L).length ≤ L.length := List.length_filter_le _ _
    omega
  · omega
theorem stepL_len (L : Pts) (s : S8) : (stepL L s).length ≤ L.length + 1 := by
  unfold stepL
  split
  · exact putL_len _ _ _
  · split
    · exact movL_len _ _ _
    · split
      · exact drpL_len _ _
      · omega

set_option maxHeartbeats 16000000 in
set_option maxRecDepth 100000 in
theorem quadPlays_walk (w : World) (v : Value) (l : List S8) (hr : InRow encS8 8 w v l) (hwf : ∀ s ∈ l, (Lit.int .i64 s.id).wf = true) :
    Calls Try.prog 3 #[v] w fun e w' => e = .returned (.bool true) ∧ Below w.heap.size w w' := by
  obtain ⟨ao, cap, hv⟩ := hr.len
  subst hv
  have HR := Lib.hid hr
  have HWF := Lib.hid hwf
  clear hr hwf
  go_enter Try.func3, Try.ntmps3
  go_wp2_with fail
  refine Calls.mono (law8_known _) ?_
  rintro e w1 ⟨rfl, hb1⟩
  have hW1 : Below w.heap.size w w1 := (by (repeat (first | exact Below.refl _ _ | assumption | refine Below.alloc ?_ (by first | omega | (simp; done) | (simp; omega)) _ | refine Below.setCell ?_ (by first | omega | (simp; done) | (simp; omega)) _ | refine Below.drew ?_ | refine Below.draws ?_ _ | refine Below.via (by assumption) (by first | omega | (simp; done) | (simp; omega)) ?_)))
  clear hb1
  by_cases hlen : l.length ≤ 60
  rotate_left
  · have hlen' : 60 < (l.length : Int) := by omega
    go_wp2_with fail
    go_ret
    exact ⟨rfl, hW1⟩
  · have hlen' : (l.length : Int) ≤ 60 := by omega
    go_wp2_with fail
    refine Calls.mono (lone_New (B := w.heap.size) (K := fun _ => False) (w0 := w) hW1 hW1.size (fun k e => e.elim)) ?_
    rintro e w2 ⟨t, rfl, h2, hb2⟩
    clear hb2 hW1
    have hW2 := h2.to
    have HDUO : Hid (Duo w.heap.size (fun _ => False) w (w2.alloc (.cells #[.slice none 0 0] 29)) t w2.heap.size (.slice none 0 0) [] []) := Lib.hid (by
      refine ⟨h2.more ((Below.refl _ w2).alloc (Nat.le_refl _) _) (fun k hk => ?_), ⟨heap_alloc_new w2 _, RowOf.nil _ _ _, fun e => by cases e⟩, hW2.size, fun h => h, fun k e => by cases e⟩
      rcases hk with hk | hk | hk
      · exact hk.elim
      · subst hk; exact .inr ⟨Nat.le_refl _, by simp⟩
      · cases hk)
    clear h2 hW2
    go_wp2_with fail
    obtain ⟨w3, hw3⟩ : ∃ w3, w3 = w2.alloc (.cells #[.slice none 0 0] 29) := ⟨_, rfl⟩
    obtain ⟨r, hr⟩ : ∃ r, r = w2.heap.size := ⟨_, rfl⟩
    rw [← hw3, ← hr] at HDUO
    rw [← hw3, ← hr]
    clear hw3 hr
    go_loopw [3, 5, 6, 7, 8, 9, 10, 11, 12, 13] (fun tv i _ _ _ _ _ _ _ _ wl => ∃ (j t : Nat) (v : Value) (L : Pts), j ≤ l.length ∧ i = .int .i64 j ∧ tv = .pointer (some ⟨t, 0, none⟩) ∧ L.length ≤ j ∧ Duo w.heap.size (fun _ => False) w wl t r v L L) (fun _ i _ _ _ _ _ _ _ _ _ => l.length - (intOf i).toNat)
    case atStart => exact ⟨0, t, _, [], Nat.zero_le _, rfl, rfl, Nat.le_refl _, HDUO.out⟩
    case round =>
      clear HDUO
      obtain ⟨j, t, v, L, hj, rfl, rfl, hLj, hD⟩ := hrel
      have HD := Lib.hid hD
      rcases Nat.lt_or_ge j l.length with hlt | hge
      · have hcur : l[j]? = some l[j] := List.getElem?_eq_getElem hlt
        have hid := HWF.out _ (List.getElem_mem hlt)
        obtain ⟨b, off, hao, hc⟩ := HR.out.cell rfl hcur
        subst hao
        generalize l[j] = s at *
        have d0 := (hD.to.cell (p := ⟨b, off + j * 8, none⟩) (World.block_lt_of_cell? w _ (hc 0 _ rfl))).trans (hc 0 _ rfl)
        have d1 := (hD.to.cell (p := ⟨b, off + j * 8 + 1, none⟩) (World.block_lt_of_cell? w _ (hc 1 _ rfl))).trans (hc 1 _ rfl)
        have d2 := (hD.to.cell (p := ⟨b, off + j * 8 + 2, none⟩) (World.block_lt_of_cell? w _ (hc 2 _ rfl))).trans (hc 2 _ rfl)
        have d3 := (hD.to.cell (p := ⟨b, off + j * 8 + 3, none⟩) (World.block_lt_of_cell? w _ (hc 3 _ rfl))).trans (hc 3 _ rfl)
        have d4 := (hD.to.cell (p := ⟨b, off + j * 8 + 4, none⟩) (World.block_lt_of_cell? w _ (hc 4 _ rfl))).trans (hc 4 _ rfl)
        have d5 := (hD.to.cell (p := ⟨b, off + j * 8 + 5, none⟩) (World.block_lt_of_cell? w _ (hc 5 _ rfl))).trans (hc 5 _ rfl)
        have d6 := (hD.to.cell (p := ⟨b, off + j * 8 + 6, none⟩) (World.block_lt_of_cell? w _ (hc 6 _ rfl))).trans (hc 6 _ rfl)
        have d7 := (hD.to.cell (p := ⟨b, off + j * 8 + 7, none⟩) (World.block_lt_of_cell? w _ (hc 7 _ rfl))).trans (hc 7 _ rfl)
        clear hc hcur
        go_wp2_with fail
        obtain ⟨n, hn⟩ : ∃ n, n = wr.heap.size := ⟨_, rfl⟩
        have hD' : Duo w.heap.size (fun k => k = n) w (wr.alloc (.cells #[.int .i64 s.what, .int .i64 s.id, .int .i64 s.x, .int .i64 s.y, .int .i64 s.r.x0, .int .i64 s.r.y0, .int .i64 s.r.x1, .int .i64 s.r.y1] 35)) t r v L L :=
          hD.more ((Below.refl _ wr).alloc (Nat.le_refl _) _) (fun k hk => .inr ⟨by rw [hk, hn]; exact Nat.le_refl _, by rw [hk, hn]; simp⟩)
        have hbox : (wr.alloc (.cells #[.int .i64 s.what, .int .i64 s.id, .int .i64 s.x, .int .i64 s.y, .int .i64 s.r.x0, .int .i64 s.r.y0, .int .i64 s.r.x1, .int .i64 s.r.y1] 35)).heap[n]? = some (.cells #[.int .i64 s.what, .int .i64 s.id, .int .i64 s.x, .int .i64 s.y, .int .i64 s.r.x0, .int .i64 s.r.y0, .int .i64 s.r.x1, .int .i64 s.r.y1] 35 (0, 0)) := by rw [hn]; exact heap_alloc_new _ _
        have HCP := Lib.hid (duo_Copy hD')
        rw [← hn]
        clear hD hD' hn d0 d1 d2 d3 d4 d5 d6 d7
        refine Calls.mono HCP.out ?_
        rintro e w4 ⟨c, rfl, hT, hb4⟩
        have hbox4 := (hb4.block _ (lt_of_block hbox)).trans hbox
        have HB4 := Lib.hid hbox4
        have e0 := cellAt hbox4 (o := 0) rfl
        clear HCP hbox hb4 hbox4 HD
        have hls := stepL_len L s
        have hlL : L.length ≤ 1000 := by omega
        have hsr : Srt L := by obtain ⟨F, _, _, hh⟩ := hT; exact hh.lone.srt
        by_cases hw1 : s.what ≤ 1
        · have hsc : stepC L s = putC L s.id (s.x, s.y) := by unfold stepC; rw [if_pos hw1]
          have hsl : stepL L s = putL L s.id (s.x, s.y) := by unfold stepL; rw [if_pos hw1]
          have HT := Lib.hid hT
          have HSR := Lib.hid hsr
          clear hT hsr
          go_wp2_with fail
          have e1 := cellAt (w := w4) HB4.out (o := 1) rfl
          have e2 := cellAt (w := w4) HB4.out (o := 2) rfl
          have e3 := cellAt (w := w4) HB4.out (o := 3) rfl
          clear e0
          go_region_held3 (fun w' => w'.cell? ⟨n, 1, none⟩ = some (.int .i64 s.id) ∧ w'.cell? ⟨n, 2, none⟩ = some (.int .i64 s.x) ∧ w'.cell? ⟨n, 3, none⟩ = some (.int .i64 s.y)) ((first | (refine ⟨?_, ?_, ?_⟩ <;> assumption) | go_keep))
            (first
              | (go_at_call 20; refine Calls.mono (trio_tPut (HT.out.below (by (repeat (first | exact Below.refl _ _ | assumption | refine Below.alloc ?_ (by first | omega | (simp; done) | (simp; omega)) _ | refine Below.setCell ?_ (by first | omega | (simp; done) | (simp; omega)) _ | refine Below.drew ?_ | refine Below.draws ?_ _ | refine Below.via (by assumption) (by first | omega | (simp; done) | (simp; omega)) ?_)))) hid) ?_; rintro e w5 ⟨rfl, h5, hk5⟩; have hb5 := hk5.heap HB4.out (fun e => e.2 rfl); have e1 := cellAt hb5 (o := 1) rfl; have e2 := cellAt hb5 (o := 2) rfl; have e3 := cellAt hb5 (o := 3) rfl; have HB5 := Lib.hid hb5; have H5 := Lib.hid h5; clear hb5 h5 hk5)
              | (go_at_call 21; refine Calls.mono (trio_rPut H5.out hlL) ?_; rintro e w6 ⟨rfl, v6, h6, hk6⟩; have hb6 := hk6.heap HB5.out (fun e => e.2 rfl); have e1 := cellAt hb6 (o := 1) rfl; have e2 := cellAt hb6 (o := 2) rfl; have e3 := cellAt hb6 (o := 3) rfl; have HB6 := Lib.hid hb6; have H6 := Lib.hid h6; clear hb6 h6 hk6))
          rw [← hsc]
          rw [← hsl] at H6
          obtain ⟨t3, ht3⟩ : ∃ t3, t3 = t := ⟨_, rfl⟩
          rw [← ht3] at H6
          rw [← ht3]
          clear HB5 H5 HT HSR HB4 ht3 hsc hsl
          (try clear hw1)
          (try clear hw3)
          (try clear hw4)
          generalize hco : stepC L s = co at *
          generalize hA : stepL L s = A at *
          clear hco hA
          have h6 := H6.out
          (try clear e0)
          (try clear e1)
          (try clear e2)
          (try clear e3)
          clear H6
          go_wp2_with fail
          refine Calls.mono (trio_cPut h6 (by decide)) ?_
          rintro e w7 ⟨rfl, h7, hk7⟩
          have hb7 := hk7.heap HB6.out (fun e => e.2 rfl)
          have e1 := cellAt hb7 (o := 1) rfl
          have HA := Lib.hid (lone_At h7.lone hid)
          have H7 := Lib.hid h7
          have HB7 := Lib.hid hb7
          clear h6 h7 hk7 hb7 HB6
          go_wp2_with fail
          refine Calls.mono HA.out ?_
          rintro e w8 ⟨rfl, _, hb8⟩
          obtain ⟨W8, hW8⟩ : ∃ W8, W8 = w8.alloc (.cells #[.int .i64 (atP A s.id).1, .int .i64 (atP A s.id).2] 31) := ⟨_, rfl⟩
          obtain ⟨np, hnp⟩ : ∃ np, np = w8.heap.size := ⟨_, rfl⟩
          have hbW : Below w7.heap.size w7 W8 := by rw [hW8]; exact hb8.alloc hb8.size _
          have hp8 : W8.heap[np]? = some (.cells #[.int .i64 (atP A s.id).1, .int .i64 (atP A s.id).2] 31 (0, 0)) := by rw [hW8, hnp]; exact heap_alloc_new _ _
          have h8 := H7.out.below hbW
          have hb8' := (hbW.block _ (lt_of_block HB7.out)).trans HB7.out
          have HA2 := Lib.hid (ref8_At W8 _ r _ A s.id h8.2.1 (by omega))
          have e1 : (w8.alloc (.cells #[.int .i64 (atP A s.id).1, .int .i64 (atP A s.id).2] 31)).cell? ⟨n, 1, none⟩ = some (.int .i64 s.id) := by rw [← hW8]; exact cellAt hb8' rfl
          have H8 := Lib.hid h8
          have HB8 := Lib.hid hb8'
          have HP8 := Lib.hid hp8
          clear hb8 h8 hb8' hbW HA H7 HB7 hp8
          go_wp2_with fail
          rw [← hnp, ← hW8]
          clear hnp hW8
          refine Calls.mono HA2.out ?_
          rintro e w9 ⟨rfl, hb9⟩
          obtain ⟨W9, hW9⟩ : ∃ W9, W9 = w9.alloc (.cells #[.int .i64 (atP A s.id).1, .int .i64 (atP A s.id).2] 31) := ⟨_, rfl⟩
          obtain ⟨nq, hnq⟩ : ∃ nq, nq = w9.heap.size := ⟨_, rfl⟩
          have hbW : Below W8.heap.size W8 W9 := by rw [hW9]; exact hb9.alloc hb9.size _
          have hq9 : W9.heap[nq]? = some (.cells #[.int .i64 (atP A s.id).1, .int .i64 (atP A s.id).2] 31 (0, 0)) := by rw [hW9, hnq]; exact heap_alloc_new _ _
          have h9 := H8.out.below hbW
          have hb9' := (hbW.block _ (lt_of_block HB8.out)).trans HB8.out
          have hp9 := (hbW.block _ (lt_of_block HP8.out)).trans HP8.out
          have hcells : ∀ W', Below W9.heap.size W9 W' → W'.cell? ⟨n, 4, none⟩ = some (.int .i64 s.r.x0) ∧ W'.cell? ⟨n, 5, none⟩ = some (.int .i64 s.r.y0) ∧ W'.cell? ⟨n, 6, none⟩ = some (.int .i64 s.r.x1) ∧ W'.cell? ⟨n, 7, none⟩ = some (.int .i64 s.r.y1) ∧ W'.cell? ⟨r, 0, none⟩ = some v6 ∧ W'.cell? ⟨np, 0, none⟩ = some (.int .i64 (atP A s.id).1) ∧ W'.cell? ⟨np, 1, none⟩ = some (.int .i64 (atP A s.id).2) ∧ W'.cell? ⟨nq, 0, none⟩ = some (.int .i64 (atP A s.id).1) ∧ W'.cell? ⟨nq, 1, none⟩ = some (.int .i64 (atP A s.id).2) := fun W' hb => by
            have k1 := (hb.block _ (lt_of_block hb9')).trans hb9'
            have k2 := (hb.block _ (lt_of_block h9.2.1.1)).trans h9.2.1.1
            have k3 := (hb.block _ (lt_of_block hp9)).trans hp9
            have k4 := (hb.block _ (lt_of_block hq9)).trans hq9
            exact ⟨cellAt k1 rfl, cellAt k1 rfl, cellAt k1 rfl, cellAt k1 rfl, cellAt k2 rfl, cellAt k3 rfl, cellAt k3 rfl, cellAt k4 rfl, cellAt k4 rfl⟩
          obtain ⟨ao6, c6, hv6⟩ := h9.2.1.2.1.reads.len
          subst hv6
          have HD9 : Hid (∀ W', Below W9.heap.size W9 W' → Duo w.heap.size (fun k => k = n) w W' t3 r (.slice ao6 A.length c6) A A) := Lib.hid (fun W' hb => h9.below hb)
          have HCELLS := Lib.hid hcells
          have hAl : A.length ≤ 1000 := by omega
          have hIn : (inL A s.r).length ≤ 1000000 := by
            have h1 : (inL A s.r).length ≤ A.length := by unfold inL; rw [List.length_map]; exact List.length_filter_le _ _
            omega
          clear h9 hcells hq9 hp9 hb9' hbW H8 HB8 HP8 HA2 e1
          go_wp2_with fail
          rw [← hnq, ← hW9]
          clear hnq hW9
          generalize (atP A s.id).1 = z1 at *
          generalize (atP A s.id).2 = z2 at *
          generalize hasP A s.id = z3 at *
          go_region_held3 (fun W' => W'.cell? ⟨n, 4, none⟩ = some (.int .i64 s.r.x0) ∧ W'.cell? ⟨n, 5, none⟩ = some (.int .i64 s.r.y0) ∧ W'.cell? ⟨n, 6, none⟩ = some (.int .i64 s.r.x1) ∧ W'.cell? ⟨n, 7, none⟩ = some (.int .i64 s.r.y1) ∧ W'.cell? ⟨r, 0, none⟩ = some (.slice ao6 A.length c6) ∧ W'.cell? ⟨np, 0, none⟩ = some (.int .i64 z1) ∧ W'.cell? ⟨np, 1, none⟩ = some (.int .i64 z2) ∧ W'.cell? ⟨nq, 0, none⟩ = some (.int .i64 z1) ∧ W'.cell? ⟨nq, 1, none⟩ = some (.int .i64 z2)) (exact HCELLS.out _ (by (repeat (first | exact Below.refl _ _ | assumption | refine Below.alloc ?_ (by first | omega | (simp; done) | (simp; omega)) _ | refine Below.setCell ?_ (by first | omega | (simp; done) | (simp; omega)) _ | refine Below.drew ?_ | refine Below.draws ?_ _ | refine Below.via (by assumption) (by first | omega | (simp; done) | (simp; omega)) ?_))))
            (first
              | (go_at_call 29; refine Calls.mono (lone_In (HD9.out _ (by (repeat (first | exact Below.refl _ _ | assumption | refine Below.alloc ?_ (by first | omega | (simp; done) | (simp; omega)) _ | refine Below.setCell ?_ (by first | omega | (simp; done) | (simp; omega)) _ | refine Below.drew ?_ | refine Below.draws ?_ _ | refine Below.via (by assumption) (by first | omega | (simp; done) | (simp; omega)) ?_)))).lone s.r) ?_; rintro e wa ⟨va, rfl, hra, _, hba⟩; have HBA : Below W9.heap.size W9 wa := hba.via (by simp) (by (repeat (first | exact Below.refl _ _ | assumption | refine Below.alloc ?_ (by first | omega | (simp; done) | (simp; omega)) _ | refine Below.setCell ?_ (by first | omega | (simp; done) | (simp; omega)) _ | refine Below.drew ?_ | refine Below.draws ?_ _ | refine Below.via (by assumption) (by first | omega | (simp; done) | (simp; omega)) ?_))); have HRA := Lib.hid hra; clear hra hba)
              | (go_at_call 30; refine Calls.mono (ref8_In _ _ r _ A s.r (HD9.out _ (by (repeat (first | exact Below.refl _ _ | assumption | refine Below.alloc ?_ (by first | omega | (simp; done) | (simp; omega)) _ | refine Below.setCell ?_ (by first | omega | (simp; done) | (simp; omega)) _ | refine Below.drew ?_ | refine Below.draws ?_ _ | refine Below.via (by assumption) (by first | omega | (simp; done) | (simp; omega)) ?_)))).2.1 hAl) ?_; rintro e wb ⟨vb, rfl, hrb, hbb⟩; have HBB : Below W9.heap.size W9 wb := hbb.via HBA.size HBA; have HRB := Lib.hid hrb; have HRA := Lib.hid (HRA.out.below hbb); clear hrb hbb)
              | (go_at_call 28; refine Calls.mono (law8_same _ _ _ _ _ _ HRA.out HRB.out hIn) ?_; rintro e wc ⟨rfl, hbc⟩; have HBC : Below W9.heap.size W9 wc := hbc.via HBB.size HBB; clear hbc)
              | (go_at_call 31; refine Calls.mono (lone_Len (HD9.out _ (by (repeat (first | exact Below.refl _ _ | assumption | refine Below.alloc ?_ (by first | omega | (simp; done) | (simp; omega)) _ | refine Below.setCell ?_ (by first | omega | (simp; done) | (simp; omega)) _ | refine Below.drew ?_ | refine Below.draws ?_ _ | refine Below.via (by assumption) (by first | omega | (simp; done) | (simp; omega)) ?_)))).lone) ?_; rintro e wd ⟨rfl, rfl⟩)
              | (go_at_call 32; refine Calls.mono (lone_Depth (HD9.out _ (by (repeat (first | exact Below.refl _ _ | assumption | refine Below.alloc ?_ (by first | omega | (simp; done) | (simp; omega)) _ | refine Below.setCell ?_ (by first | omega | (simp; done) | (simp; omega)) _ | refine Below.drew ?_ | refine Below.draws ?_ _ | refine Below.via (by assumption) (by first | omega | (simp; done) | (simp; omega)) ?_)))).lone) ?_; rintro e wd ⟨rfl, rfl⟩)
              | (go_at_call 33; refine Calls.mono (ref8_Depth _ _ r _ A (HD9.out _ (by (repeat (first | exact Below.refl _ _ | assumption | refine Below.alloc ?_ (by first | omega | (simp; done) | (simp; omega)) _ | refine Below.setCell ?_ (by first | omega | (simp; done) | (simp; omega)) _ | refine Below.drew ?_ | refine Below.draws ?_ _ | refine Below.via (by assumption) (by first | omega | (simp; done) | (simp; omega)) ?_)))).2.1 hAl) ?_; rintro e we ⟨rfl, hbe⟩; have HBE : Below W9.heap.size W9 we := hbe.via HBC.size HBC; clear hbe))
          go_wp2_with fail
          go_roundw
          case rel => exact ⟨j + 1, t3, _, A, by omega, by go_num, rfl, by omega, (HD9.out _ HBE).less (fun _ h => h.elim)⟩
          case measure => simp [intOf]; omega
        by_cases hw3 : s.what ≤ 3
        · have hsc : stepC L s = movC L s.id (s.x, s.y) := by unfold stepC; rw [if_neg hw1, if_pos hw3]
          have hsl : stepL L s = movL L s.id (s.x, s.y) := by unfold stepL; rw [if_neg hw1, if_pos hw3]
          have HT := Lib.hid hT
          have HSR := Lib.hid hsr
          clear hT hsr
          go_wp2_with fail
          have e1 := cellAt (w := w4) HB4.out (o := 1) rfl
          have e2 := cellAt (w := w4) HB4.out (o := 2) rfl
          have e3 := cellAt (w := w4) HB4.out (o := 3) rfl
          clear e0
          go_region_held3 (fun w' => w'.cell? ⟨n, 1, none⟩ = some (.int .i64 s.id) ∧ w'.cell? ⟨n, 2, none⟩ = some (.int .i64 s.x) ∧ w'.cell? ⟨n, 3, none⟩ = some (.int .i64 s.y)) ((first | (refine ⟨?_, ?_, ?_⟩ <;> assumption) | go_keep))
            (first
              | (go_at_call 22; refine Calls.mono (trio_tMove (HT.out.below (by (repeat (first | exact Below.refl _ _ | assumption | refine Below.alloc ?_ (by first | omega | (simp; done) | (simp; omega)) _ | refine Below.setCell ?_ (by first | omega | (simp; done) | (simp; omega)) _ | refine Below.drew ?_ | refine Below.draws ?_ _ | refine Below.via (by assumption) (by first | omega | (simp; done) | (simp; omega)) ?_)))) hid) ?_; rintro e w5 ⟨rfl, h5, hk5⟩; have hb5 := hk5.heap HB4.out (fun e => e.2 rfl); have e1 := cellAt hb5 (o := 1) rfl; have e2 := cellAt hb5 (o := 2) rfl; have e3 := cellAt hb5 (o := 3) rfl; have HB5 := Lib.hid hb5; have H5 := Lib.hid h5; clear hb5 h5 hk5)
              | (go_at_call 23; refine Calls.mono (trio_rMove H5.out hlL HSR.out) ?_; rintro e w6 ⟨rfl, v6, h6, hk6⟩; have hb6 := hk6.heap HB5.out (fun e => e.2 rfl); have e1 := cellAt hb6 (o := 1) rfl; have e2 := cellAt hb6 (o := 2) rfl; have e3 := cellAt hb6 (o := 3) rfl; have HB6 := Lib.hid hb6; have H6 := Lib.hid h6; clear hb6 h6 hk6))
          rw [← hsc]
          rw [← hsl] at H6
          obtain ⟨t3, ht3⟩ : ∃ t3, t3 = t := ⟨_, rfl⟩
          rw [← ht3] at H6
          rw [← ht3]
          clear HB5 H5 HT HSR HB4 ht3 hsc hsl
          (try clear hw1)
          (try clear hw3)
          (try clear hw4)
          generalize hco : stepC L s = co at *
          generalize hA : stepL L s = A at *
          clear hco hA
          have h6 := H6.out
          (try clear e0)
          (try clear e1)
          (try clear e2)
          (try clear e3)
          clear H6
          go_wp2_with fail
          refine Calls.mono (trio_cPut h6 (by decide)) ?_
          rintro e w7 ⟨rfl, h7, hk7⟩
          have hb7 := hk7.heap HB6.out (fun e => e.2 rfl)
          have e1 := cellAt hb7 (o := 1) rfl
          have HA := Lib.hid (lone_At h7.lone hid)
          have H7 := Lib.hid h7
          have HB7 := Lib.hid hb7
          clear h6 h7 hk7 hb7 HB6
          go_wp2_with fail
          refine Calls.mono HA.out ?_
          rintro e w8 ⟨rfl, _, hb8⟩
          obtain ⟨W8, hW8⟩ : ∃ W8, W8 = w8.alloc (.cells #[.int .i64 (atP A s.id).1, .int .i64 (atP A s.id).2] 31) := ⟨_, rfl⟩
          obtain ⟨np, hnp⟩ : ∃ np, np = w8.heap.size := ⟨_, rfl⟩
          have hbW : Below w7.heap.size w7 W8 := by rw [hW8]; exact hb8.alloc hb8.size _
          have hp8 : W8.heap[np]? = some (.cells #[.int .i64 (atP A s.id).1, .int .i64 (atP A s.id).2] 31 (0, 0)) := by rw [hW8, hnp]; exact heap_alloc_new _ _
          have h8 := H7.out.below hbW
          have hb8' := (hbW.block _ (lt_of_block HB7.out)).trans HB7.out
          have HA2 := Lib.hid (ref8_At W8 _ r _ A s.id h8.2.1 (by omega))
          have e1 : (w8.alloc (.cells #[.int .i64 (atP A s.id).1, .int .i64 (atP A s.id).2] 31)).cell? ⟨n, 1, none⟩ = some (.int .i64 s.id) := by rw [← hW8]; exact cellAt hb8' rfl
          have H8 := Lib.hid h8
          have HB8 := Lib.hid hb8'
          have HP8 := Lib.hid hp8
          clear hb8 h8 hb8' hbW HA H7 HB7 hp8
          go_wp2_with fail
          rw [← hnp, ← hW8]
          clear hnp hW8
          refine Calls.mono HA2.out ?_
          rintro e w9 ⟨rfl, hb9⟩
          obtain ⟨W9, hW9⟩ : ∃ W9, W9 = w9.alloc (.cells #[.int .i64 (atP A s.id).1, .int .i64 (atP A s.id).2] 31) := ⟨_, rfl⟩
          obtain ⟨nq, hnq⟩ : ∃ nq, nq = w9.heap.size := ⟨_, rfl⟩
          have hbW : Below W8.heap.size W8 W9 := by rw [hW9]; exact hb9.alloc hb9.size _
          have hq9 : W9.heap[nq]? = some (.cells #[.int .i64 (atP A s.id).1, .int .i64 (atP A s.id).2] 31 (0, 0)) := by rw [hW9, hnq]; exact heap_alloc_new _ _
          have h9 := H8.out.below hbW
          have hb9' := (hbW.block _ (lt_of_block HB8.out)).trans HB8.out
          have hp9 := (hbW.block _ (lt_of_block HP8.out)).trans HP8.out
          have hcells : ∀ W', Below W9.heap.size W9 W' → W'.cell? ⟨n, 4, none⟩ = some (.int .i64 s.r.x0) ∧ W'.cell? ⟨n, 5, none⟩ = some (.int .i64 s.r.y0) ∧ W'.cell? ⟨n, 6, none⟩ = some (.int .i64 s.r.x1) ∧ W'.cell? ⟨n, 7, none⟩ = some (.int .i64 s.r.y1) ∧ W'.cell? ⟨r, 0, none⟩ = some v6 ∧ W'.cell? ⟨np, 0, none⟩ = some (.int .i64 (atP A s.id).1) ∧ W'.cell? ⟨np, 1, none⟩ = some (.int .i64 (atP A s.id).2) ∧ W'.cell? ⟨nq, 0, none⟩ = some (.int .i64 (atP A s.id).1) ∧ W'.cell? ⟨nq, 1, none⟩ = some (.int .i64 (atP A s.id).2) := fun W' hb => by
            have k1 := (hb.block _ (lt_of_block hb9')).trans hb9'
            have k2 := (hb.block _ (lt_of_block h9.2.1.1)).trans h9.2.1.1
            have k3 := (hb.block _ (lt_of_block hp9)).trans hp9
            have k4 := (hb.block _ (lt_of_block hq9)).trans hq9
            exact ⟨cellAt k1 rfl, cellAt k1 rfl, cellAt k1 rfl, cellAt k1 rfl, cellAt k2 rfl, cellAt k3 rfl, cellAt k3 rfl, cellAt k4 rfl, cellAt k4 rfl⟩
          obtain ⟨ao6, c6, hv6⟩ := h9.2.1.2.1.reads.len
          subst hv6
          have HD9 : Hid (∀ W', Below W9.heap.size W9 W' → Duo w.heap.size (fun k => k = n) w W' t3 r (.slice ao6 A.length c6) A A) := Lib.hid (fun W' hb => h9.below hb)
          have HCELLS := Lib.hid hcells
          have hAl : A.length ≤ 1000 := by omega
          have hIn : (inL A s.r).length ≤ 1000000 := by
            have h1 : (inL A s.r).length ≤ A.length := by unfold inL; rw [List.length_map]; exact List.length_filter_le _ _
            omega
          clear h9 hcells hq9 hp9 hb9' hbW H8 HB8 HP8 HA2 e1
          go_wp2_with fail
          rw [← hnq, ← hW9]
          clear hnq hW9
          generalize (atP A s.id).1 = z1 at *
          generalize (atP A s.id).2 = z2 at *
          generalize hasP A s.id = z3 at *
          go_region_held3 (fun W' => W'.cell? ⟨n, 4, none⟩ = some (.int .i64 s.r.x0) ∧ W'.cell? ⟨n, 5, none⟩ = some (.int .i64 s.r.y0) ∧ W'.cell? ⟨n, 6, none⟩ = some (.int .i64 s.r.x1) ∧ W'.cell? ⟨n, 7, none⟩ = some (.int .i64 s.r.y1) ∧ W'.cell? ⟨r, 0, none⟩ = some (.slice ao6 A.length c6) ∧ W'.cell? ⟨np, 0, none⟩ = some (.int .i64 z1) ∧ W'.cell? ⟨np, 1, none⟩ = some (.int .i64 z2) ∧ W'.cell? ⟨nq, 0, none⟩ = some (.int .i64 z1) ∧ W'.cell? ⟨nq, 1, none⟩ = some (.int .i64 z2)) (exact HCELLS.out _ (by (repeat (first | exact Below.refl _ _ | assumption | refine Below.alloc ?_ (by first | omega | (simp; done) | (simp; omega)) _ | refine Below.setCell ?_ (by first | omega | (simp; done) | (simp; omega)) _ | refine Below.drew ?_ | refine Below.draws ?_ _ | refine Below.via (by assumption) (by first | omega | (simp; done) | (simp; omega)) ?_))))
            (first
              | (go_at_call 29; refine Calls.mono (lone_In (HD9.out _ (by (repeat (first | exact Below.refl _ _ | assumption | refine Below.alloc ?_ (by first | omega | (simp; done) | (simp; omega)) _ | refine Below.setCell ?_ (by first | omega | (simp; done) | (simp; omega)) _ | refine Below.drew ?_ | refine Below.draws ?_ _ | refine Below.via (by assumption) (by first | omega | (simp; done) | (simp; omega)) ?_)))).lone s.r) ?_; rintro e wa ⟨va, rfl, hra, _, hba⟩; have HBA : Below W9.heap.size W9 wa := hba.via (by simp) (by (repeat (first | exact Below.refl _ _ | assumption | refine Below.alloc ?_ (by first | omega | (simp; done) | (simp; omega)) _ | refine Below.setCell ?_ (by first | omega | (simp; done) | (simp; omega)) _ | refine Below.drew ?_ | refine Below.draws ?_ _ | refine Below.via (by assumption) (by first | omega | (simp; done) | (simp; omega)) ?_))); have HRA := Lib.hid hra; clear hra hba)
              | (go_at_call 30; refine Calls.mono (ref8_In _ _ r _ A s.r (HD9.out _ (by (repeat (first | exact Below.refl _ _ | assumption | refine Below.alloc ?_ (by first | omega | (simp; done) | (simp; omega)) _ | refine Below.setCell ?_ (by first | omega | (simp; done) | (simp; omega)) _ | refine Below.drew ?_ | refine Below.draws ?_ _ | refine Below.via (by assumption) (by first | omega | (simp; done) | (simp; omega)) ?_)))).2.1 hAl) ?_; rintro e wb ⟨vb, rfl, hrb, hbb⟩; have HBB : Below W9.heap.size W9 wb := hbb.via HBA.size HBA; have HRB := Lib.hid hrb; have HRA := Lib.hid (HRA.out.below hbb); clear hrb hbb)
              | (go_at_call 28; refine Calls.mono (law8_same _ _ _ _ _ _ HRA.out HRB.out hIn) ?_; rintro e wc ⟨rfl, hbc⟩; have HBC : Below W9.heap.size W9 wc := hbc.via HBB.size HBB; clear hbc)
              | (go_at_call 31; refine Calls.mono (lone_Len (HD9.out _ (by (repeat (first | exact Below.refl _ _ | assumption | refine Below.alloc ?_ (by first | omega | (simp; done) | (simp; omega)) _ | refine Below.setCell ?_ (by first | omega | (simp; done) | (simp; omega)) _ | refine Below.drew ?_ | refine Below.draws ?_ _ | refine Below.via (by assumption) (by first | omega | (simp; done) | (simp; omega)) ?_)))).lone) ?_; rintro e wd ⟨rfl, rfl⟩)
              | (go_at_call 32; refine Calls.mono (lone_Depth (HD9.out _ (by (repeat (first | exact Below.refl _ _ | assumption | refine Below.alloc ?_ (by first | omega | (simp; done) | (simp; omega)) _ | refine Below.setCell ?_ (by first | omega | (simp; done) | (simp; omega)) _ | refine Below.drew ?_ | refine Below.draws ?_ _ | refine Below.via (by assumption) (by first | omega | (simp; done) | (simp; omega)) ?_)))).lone) ?_; rintro e wd ⟨rfl, rfl⟩)
              | (go_at_call 33; refine Calls.mono (ref8_Depth _ _ r _ A (HD9.out _ (by (repeat (first | exact Below.refl _ _ | assumption | refine Below.alloc ?_ (by first | omega | (simp; done) | (simp; omega)) _ | refine Below.setCell ?_ (by first | omega | (simp; done) | (simp; omega)) _ | refine Below.drew ?_ | refine Below.draws ?_ _ | refine Below.via (by assumption) (by first | omega | (simp; done) | (simp; omega)) ?_)))).2.1 hAl) ?_; rintro e we ⟨rfl, hbe⟩; have HBE : Below W9.heap.size W9 we := hbe.via HBC.size HBC; clear hbe))
          go_wp2_with fail
          go_roundw
          case rel => exact ⟨j + 1, t3, _, A, by omega, by go_num, rfl, by omega, (HD9.out _ HBE).less (fun _ h => h.elim)⟩
          case measure => simp [intOf]; omega
        by_cases hw4 : s.what = 4
        · have hsc : stepC L s = drpC L s.id := by unfold stepC; rw [if_neg hw1, if_neg hw3, if_pos hw4]
          have hsl : stepL L s = drpL L s.id := by unfold stepL; rw [if_neg hw1, if_neg hw3, if_pos hw4]
          have HT := Lib.hid hT
          have HSR := Lib.hid hsr
          clear hT hsr
          go_wp2_with fail
          have e1 := cellAt (w := w4) HB4.out (o := 1) rfl
          clear e0
          go_region_held3 (fun w' => w'.cell? ⟨n, 1, none⟩ = some (.int .i64 s.id)) ((first | assumption | go_keep))
            (first
              | (go_at_call 24; refine Calls.mono (trio_tDrop (HT.out.below (by (repeat (first | exact Below.refl _ _ | assumption | refine Below.alloc ?_ (by first | omega | (simp; done) | (simp; omega)) _ | refine Below.setCell ?_ (by first | omega | (simp; done) | (simp; omega)) _ | refine Below.drew ?_ | refine Below.draws ?_ _ | refine Below.via (by assumption) (by first | omega | (simp; done) | (simp; omega)) ?_)))) hid) ?_; rintro e w5 ⟨rfl, h5, hk5⟩; have hb5 := hk5.heap HB4.out (fun e => e.2 rfl); have e1 := cellAt hb5 (o := 1) rfl; have HB5 := Lib.hid hb5; have H5 := Lib.hid h5; clear hb5 h5 hk5)
              | (go_at_call 25; refine Calls.mono (trio_rDrop H5.out hlL HSR.out) ?_; rintro e w6 ⟨rfl, v6, h6, hk6⟩; have hb6 := hk6.heap HB5.out (fun e => e.2 rfl); have e1 := cellAt hb6 (o := 1) rfl; have HB6 := Lib.hid hb6; have H6 := Lib.hid h6; clear hb6 h6 hk6))
          rw [← hsc]
          rw [← hsl] at H6
          obtain ⟨t3, ht3⟩ : ∃ t3, t3 = t := ⟨_, rfl⟩
          rw [← ht3] at H6
          rw [← ht3]
          clear HB5 H5 HT HSR HB4 ht3 hsc hsl
          (try clear hw1)
          (try clear hw3)
          (try clear hw4)
          generalize hco : stepC L s = co at *
          generalize hA : stepL L s = A at *
          clear hco hA
          have h6 := H6.out
          (try clear e0)
          (try clear e1)
          (try clear e2)
          (try clear e3)
          clear H6
          go_wp2_with fail
          refine Calls.mono (trio_cPut h6 (by decide)) ?_
          rintro e w7 ⟨rfl, h7, hk7⟩
          have hb7 := hk7.heap HB6.out (fun e => e.2 rfl)
          have e1 := cellAt hb7 (o := 1) rfl
          have HA := Lib.hid (lone_At h7.lone hid)
          have H7 := Lib.hid h7
          have HB7 := Lib.hid hb7
          clear h6 h7 hk7 hb7 HB6
          go_wp2_with fail
          refine Calls.mono HA.out ?_
          rintro e w8 ⟨rfl, _, hb8⟩
          obtain ⟨W8, hW8⟩ : ∃ W8, W8 = w8.alloc (.cells #[.int .i64 (atP A s.id).1, .int .i64 (atP A s.id).2] 31) := ⟨_, rfl⟩
          obtain ⟨np, hnp⟩ : ∃ np, np = w8.heap.size := ⟨_, rfl⟩
          have hbW : Below w7.heap.size w7 W8 := by rw [hW8]; exact hb8.alloc hb8.size _
          have hp8 : W8.heap[np]? = some (.cells #[.int .i64 (atP A s.id).1, .int .i64 (atP A s.id).2] 31 (0, 0)) := by rw [hW8, hnp]; exact heap_alloc_new _ _
          have h8 := H7.out.below hbW
          have hb8' := (hbW.block _ (lt_of_block HB7.out)).trans HB7.out
          have HA2 := Lib.hid (ref8_At W8 _ r _ A s.id h8.2.1 (by omega))
          have e1 : (w8.alloc (.cells #[.int .i64 (atP A s.id).1, .int .i64 (atP A s.id).2] 31)).cell? ⟨n, 1, none⟩ = some (.int .i64 s.id) := by rw [← hW8]; exact cellAt hb8' rfl
          have H8 := Lib.hid h8
          have HB8 := Lib.hid hb8'
          have HP8 := Lib.hid hp8
          clear hb8 h8 hb8' hbW HA H7 HB7 hp8
          go_wp2_with fail
          rw [← hnp, ← hW8]
          clear hnp hW8
          refine Calls.mono HA2.out ?_
          rintro e w9 ⟨rfl, hb9⟩
          obtain ⟨W9, hW9⟩ : ∃ W9, W9 = w9.alloc (.cells #[.int .i64 (atP A s.id).1, .int .i64 (atP A s.id).2] 31) := ⟨_, rfl⟩
          obtain ⟨nq, hnq⟩ : ∃ nq, nq = w9.heap.size := ⟨_, rfl⟩
          have hbW : Below W8.heap.size W8 W9 := by rw [hW9]; exact hb9.alloc hb9.size _
          have hq9 : W9.heap[nq]? = some (.cells #[.int .i64 (atP A s.id).1, .int .i64 (atP A s.id).2] 31 (0, 0)) := by rw [hW9, hnq]; exact heap_alloc_new _ _
          have h9 := H8.out.below hbW
          have hb9' := (hbW.block _ (lt_of_block HB8.out)).trans HB8.out
          have hp9 := (hbW.block _ (lt_of_block HP8.out)).trans HP8.out
          have hcells : ∀ W', Below W9.heap.size W9 W' → W'.cell? ⟨n, 4, none⟩ = some (.int .i64 s.r.x0) ∧ W'.cell? ⟨n, 5, none⟩ = some (.int .i64 s.r.y0) ∧ W'.cell? ⟨n, 6, none⟩ = some (.int .i64 s.r.x1) ∧ W'.cell? ⟨n, 7, none⟩ = some (.int .i64 s.r.y1) ∧ W'.cell? ⟨r, 0, none⟩ = some v6 ∧ W'.cell? ⟨np, 0, none⟩ = some (.int .i64 (atP A s.id).1) ∧ W'.cell? ⟨np, 1, none⟩ = some (.int .i64 (atP A s.id).2) ∧ W'.cell? ⟨nq, 0, none⟩ = some (.int .i64 (atP A s.id).1) ∧ W'.cell? ⟨nq, 1, none⟩ = some (.int .i64 (atP A s.id).2) := fun W' hb => by
            have k1 := (hb.block _ (lt_of_block hb9')).trans hb9'
            have k2 := (hb.block _ (lt_of_block h9.2.1.1)).trans h9.2.1.1
            have k3 := (hb.block _ (lt_of_block hp9)).trans hp9
            have k4 := (hb.block _ (lt_of_block hq9)).trans hq9
            exact ⟨cellAt k1 rfl, cellAt k1 rfl, cellAt k1 rfl, cellAt k1 rfl, cellAt k2 rfl, cellAt k3 rfl, cellAt k3 rfl, cellAt k4 rfl, cellAt k4 rfl⟩
          obtain ⟨ao6, c6, hv6⟩ := h9.2.1.2.1.reads.len
          subst hv6
          have HD9 : Hid (∀ W', Below W9.heap.size W9 W' → Duo w.heap.size (fun k => k = n) w W' t3 r (.slice ao6 A.length c6) A A) := Lib.hid (fun W' hb => h9.below hb)
          have HCELLS := Lib.hid hcells
          have hAl : A.length ≤ 1000 := by omega
          have hIn : (inL A s.r).length ≤ 1000000 := by
            have h1 : (inL A s.r).length ≤ A.length := by unfold inL; rw [List.length_map]; exact List.length_filter_le _ _
            omega
          clear h9 hcells hq9 hp9 hb9' hbW H8 HB8 HP8 HA2 e1
          go_wp2_with fail
          rw [← hnq, ← hW9]
          clear hnq hW9
          generalize (atP A s.id).1 = z1 at *
          generalize (atP A s.id).2 = z2 at *
          generalize hasP A s.id = z3 at *
          go_region_held3 (fun W' => W'.cell? ⟨n, 4, none⟩ = some (.int .i64 s.r.x0) ∧ W'.cell? ⟨n, 5, none⟩ = some (.int .i64 s.r.y0) ∧ W'.cell? ⟨n, 6, none⟩ = some (.int .i64 s.r.x1) ∧ W'.cell? ⟨n, 7, none⟩ = some (.int .i64 s.r.y1) ∧ W'.cell? ⟨r, 0, none⟩ = some (.slice ao6 A.length c6) ∧ W'.cell? ⟨np, 0, none⟩ = some (.int .i64 z1) ∧ W'.cell? ⟨np, 1, none⟩ = some (.int .i64 z2) ∧ W'.cell? ⟨nq, 0, none⟩ = some (.int .i64 z1) ∧ W'.cell? ⟨nq, 1, none⟩ = some (.int .i64 z2)) (exact HCELLS.out _ (by (repeat (first | exact Below.refl _ _ | assumption | refine Below.alloc ?_ (by first | omega | (simp; done) | (simp; omega)) _ | refine Below.setCell ?_ (by first | omega | (simp; done) | (simp; omega)) _ | refine Below.drew ?_ | refine Below.draws ?_ _ | refine Below.via (by assumption) (by first | omega | (simp; done) | (simp; omega)) ?_))))
            (first
              | (go_at_call 29; refine Calls.mono (lone_In (HD9.out _ (by (repeat (first | exact Below.refl _ _ | assumption | refine Below.alloc ?_ (by first | omega | (simp; done) | (simp; omega)) _ | refine Below.setCell ?_ (by first | omega | (simp; done) | (simp; omega)) _ | refine Below.drew ?_ | refine Below.draws ?_ _ | refine Below.via (by assumption) (by first | omega | (simp; done) | (simp; omega)) ?_)))).lone s.r) ?_; rintro e wa ⟨va, rfl, hra, _, hba⟩; have HBA : Below W9.heap.size W9 wa := hba.via (by simp) (by (repeat (first | exact Below.refl _ _ | assumption | refine Below.alloc ?_ (by first | omega | (simp; done) | (simp; omega)) _ | refine Below.setCell ?_ (by first | omega | (simp; done) | (simp; omega)) _ | refine Below.drew ?_ | refine Below.draws ?_ _ | refine Below.via (by assumption) (by first | omega | (simp; done) | (simp; omega)) ?_))); have HRA := Lib.hid hra; clear hra hba)
              | (go_at_call 30; refine Calls.mono (ref8_In _ _ r _ A s.r (HD9.out _ (by (repeat (first | exact Below.refl _ _ | assumption | refine Below.alloc ?_ (by first | omega | (simp; done) | (simp; omega)) _ | refine Below.setCell ?_ (by first | omega | (simp; done) | (simp; omega)) _ | refine Below.drew ?_ | refine Below.draws ?_ _ | refine Below.via (by assumption) (by first | omega | (simp; done) | (simp; omega)) ?_)))).2.1 hAl) ?_; rintro e wb ⟨vb, rfl, hrb, hbb⟩; have HBB : Below W9.heap.size W9 wb := hbb.via HBA.size HBA; have HRB := Lib.hid hrb; have HRA := Lib.hid (HRA.out.below hbb); clear hrb hbb)
              | (go_at_call 28; refine Calls.mono (law8_same _ _ _ _ _ _ HRA.out HRB.out hIn) ?_; rintro e wc ⟨rfl, hbc⟩; have HBC : Below W9.heap.size W9 wc := hbc.via HBB.size HBB; clear hbc)
              | (go_at_call 31; refine Calls.mono (lone_Len (HD9.out _ (by (repeat (first | exact Below.refl _ _ | assumption | refine Below.alloc ?_ (by first | omega | (simp; done) | (simp; omega)) _ | refine Below.setCell ?_ (by first | omega | (simp; done) | (simp; omega)) _ | refine Below.drew ?_ | refine Below.draws ?_ _ | refine Below.via (by assumption) (by first | omega | (simp; done) | (simp; omega)) ?_)))).lone) ?_; rintro e wd ⟨rfl, rfl⟩)
              | (go_at_call 32; refine Calls.mono (lone_Depth (HD9.out _ (by (repeat (first | exact Below.refl _ _ | assumption | refine Below.alloc ?_ (by first | omega | (simp; done) | (simp; omega)) _ | refine Below.setCell ?_ (by first | omega | (simp; done) | (simp; omega)) _ | refine Below.drew ?_ | refine Below.draws ?_ _ | refine Below.via (by assumption) (by first | omega | (simp; done) | (simp; omega)) ?_)))).lone) ?_; rintro e wd ⟨rfl, rfl⟩)
              | (go_at_call 33; refine Calls.mono (ref8_Depth _ _ r _ A (HD9.out _ (by (repeat (first | exact Below.refl _ _ | assumption | refine Below.alloc ?_ (by first | omega | (simp; done) | (simp; omega)) _ | refine Below.setCell ?_ (by first | omega | (simp; done) | (simp; omega)) _ | refine Below.drew ?_ | refine Below.draws ?_ _ | refine Below.via (by assumption) (by first | omega | (simp; done) | (simp; omega)) ?_)))).2.1 hAl) ?_; rintro e we ⟨rfl, hbe⟩; have HBE : Below W9.heap.size W9 we := hbe.via HBC.size HBC; clear hbe))
          go_wp2_with fail
          go_roundw
          case rel => exact ⟨j + 1, t3, _, A, by omega, by go_num, rfl, by omega, (HD9.out _ HBE).less (fun _ h => h.elim)⟩
          case measure => simp [intOf]; omega
        · have hsc : stepC L s = 0 := by unfold stepC; rw [if_neg hw1, if_neg hw3, if_neg hw4]
          have hsl : stepL L s = L := by unfold stepL; rw [if_neg hw1, if_neg hw3, if_neg hw4]
          have HCT := Lib.hid (trio_Copy hT)
          have hw4' : (s.what == 4) = false := beq_eq_false_iff_ne.2 hw4
          clear hT hsr
          go_wp2_with fail
          refine Calls.mono HCT.out ?_
          rintro e w6 ⟨t3, rfl, h6, hb6⟩
          have HB6 := Lib.hid ((hb6.block _ (lt_of_block HB4.out)).trans HB4.out)
          obtain ⟨v6, hv6⟩ : ∃ v6, v6 = v := ⟨_, rfl⟩
          rw [← hv6] at h6
          have H6 : Hid (Trio w.heap.size (fun k => k = n) w w6 t3 c r v6 (stepL L s) L (stepL L s)) := Lib.hid (by rw [hsl]; exact h6)
          clear h6 hb6 hv6 HCT
          obtain ⟨co, hco⟩ : ∃ co : Int, co = 0 := ⟨_, rfl⟩
          rw [← hco]
          clear HB4 hsc hsl hw1 hw3 hw4 hw4' hco
          generalize hA : stepL L s = A at *
          clear hA
          have h6 := H6.out
          (try clear e0)
          (try clear e1)
          (try clear e2)
          (try clear e3)
          clear H6
          go_wp2_with fail
          refine Calls.mono (trio_cPut h6 (by decide)) ?_
          rintro e w7 ⟨rfl, h7, hk7⟩
          have hb7 := hk7.heap HB6.out (fun e => e.2 rfl)
          have e1 := cellAt hb7 (o := 1) rfl
          have HA := Lib.hid (lone_At h7.lone hid)
          have H7 := Lib.hid h7
          have HB7 := Lib.hid hb7
          clear h6 h7 hk7 hb7 HB6
          go_wp2_with fail
          refine Calls.mono HA.out ?_
          rintro e w8 ⟨rfl, _, hb8⟩
          obtain ⟨W8, hW8⟩ : ∃ W8, W8 = w8.alloc (.cells #[.int .i64 (atP A s.id).1, .int .i64 (atP A s.id).2] 31) := ⟨_, rfl⟩
          obtain ⟨np, hnp⟩ : ∃ np, np = w8.heap.size := ⟨_, rfl⟩
          have hbW : Below w7.heap.size w7 W8 := by rw [hW8]; exact hb8.alloc hb8.size _
          have hp8 : W8.heap[np]? = some (.cells #[.int .i64 (atP A s.id).1, .int .i64 (atP A s.id).2] 31 (0, 0)) := by rw [hW8, hnp]; exact heap_alloc_new _ _
          have h8 := H7.out.below hbW
          have hb8' := (hbW.block _ (lt_of_block HB7.out)).trans HB7.out
          have HA2 := Lib.hid (ref8_At W8 _ r _ A s.id h8.2.1 (by omega))
          have e1 : (w8.alloc (.cells #[.int .i64 (atP A s.id).1, .int .i64 (atP A s.id).2] 31)).cell? ⟨n, 1, none⟩ = some (.int .i64 s.id) := by rw [← hW8]; exact cellAt hb8' rfl
          have H8 := Lib.hid h8
          have HB8 := Lib.hid hb8'
          have HP8 := Lib.hid hp8
          clear hb8 h8 hb8' hbW HA H7 HB7 hp8
          go_wp2_with fail
          rw [← hnp, ← hW8]
          clear hnp hW8
          refine Calls.mono HA2.out ?_
          rintro e w9 ⟨rfl, hb9⟩
          obtain ⟨W9, hW9⟩ : ∃ W9, W9 = w9.alloc (.cells #[.int .i64 (atP A s.id).1, .int .i64 (atP A s.id).2] 31) := ⟨_, rfl⟩
          obtain ⟨nq, hnq⟩ : ∃ nq, nq = w9.heap.size := ⟨_, rfl⟩
          have hbW : Below W8.heap.size W8 W9 := by rw [hW9]; exact hb9.alloc hb9.size _
          have hq9 : W9.heap[nq]? = some (.cells #[.int .i64 (atP A s.id).1, .int .i64 (atP A s.id).2] 31 (0, 0)) := by rw [hW9, hnq]; exact heap_alloc_new _ _
          have h9 := H8.out.below hbW
          have hb9' := (hbW.block _ (lt_of_block HB8.out)).trans HB8.out
          have hp9 := (hbW.block _ (lt_of_block HP8.out)).trans HP8.out
          have hcells : ∀ W', Below W9.heap.size W9 W' → W'.cell? ⟨n, 4, none⟩ = some (.int .i64 s.r.x0) ∧ W'.cell? ⟨n, 5, none⟩ = some (.int .i64 s.r.y0) ∧ W'.cell? ⟨n, 6, none⟩ = some (.int .i64 s.r.x1) ∧ W'.cell? ⟨n, 7, none⟩ = some (.int .i64 s.r.y1) ∧ W'.cell? ⟨r, 0, none⟩ = some v6 ∧ W'.cell? ⟨np, 0, none⟩ = some (.int .i64 (atP A s.id).1) ∧ W'.cell? ⟨np, 1, none⟩ = some (.int .i64 (atP A s.id).2) ∧ W'.cell? ⟨nq, 0, none⟩ = some (.int .i64 (atP A s.id).1) ∧ W'.cell? ⟨nq, 1, none⟩ = some (.int .i64 (atP A s.id).2) := fun W' hb => by
            have k1 := (hb.block _ (lt_of_block hb9')).trans hb9'
            have k2 := (hb.block _ (lt_of_block h9.2.1.1)).trans h9.2.1.1
            have k3 := (hb.block _ (lt_of_block hp9)).trans hp9
            have k4 := (hb.block _ (lt_of_block hq9)).trans hq9
            exact ⟨cellAt k1 rfl, cellAt k1 rfl, cellAt k1 rfl, cellAt k1 rfl, cellAt k2 rfl, cellAt k3 rfl, cellAt k3 rfl, cellAt k4 rfl, cellAt k4 rfl⟩
          obtain ⟨ao6, c6, hv6⟩ := h9.2.1.2.1.reads.len
          subst hv6
          have HD9 : Hid (∀ W', Below W9.heap.size W9 W' → Duo w.heap.size (fun k => k = n) w W' t3 r (.slice ao6 A.length c6) A A) := Lib.hid (fun W' hb => h9.below hb)
          have HCELLS := Lib.hid hcells
          have hAl : A.length ≤ 1000 := by omega
          have hIn : (inL A s.r).length ≤ 1000000 := by
            have h1 : (inL A s.r).length ≤ A.length := by unfold inL; rw [List.length_map]; exact List.length_filter_le _ _
            omega
          clear h9 hcells hq9 hp9 hb9' hbW H8 HB8 HP8 HA2 e1
          go_wp2_with fail
          rw [← hnq, ← hW9]
          clear hnq hW9
          generalize (atP A s.id).1 = z1 at *
          generalize (atP A s.id).2 = z2 at *
          generalize hasP A s.id = z3 at *
          go_region_held3 (fun W' => W'.cell? ⟨n, 4, none⟩ = some (.int .i64 s.r.x0) ∧ W'.cell? ⟨n, 5, none⟩ = some (.int .i64 s.r.y0) ∧ W'.cell? ⟨n, 6, none⟩ = some (.int .i64 s.r.x1) ∧ W'.cell? ⟨n, 7, none⟩ = some (.int .i64 s.r.y1) ∧ W'.cell? ⟨r, 0, none⟩ = some (.slice ao6 A.length c6) ∧ W'.cell? ⟨np, 0, none⟩ = some (.int .i64 z1) ∧ W'.cell? ⟨np, 1, none⟩ = some (.int .i64 z2) ∧ W'.cell? ⟨nq, 0, none⟩ = some (.int .i64 z1) ∧ W'.cell? ⟨nq, 1, none⟩ = some (.int .i64 z2)) (exact HCELLS.out _ (by (repeat (first | exact Below.refl _ _ | assumption | refine Below.alloc ?_ (by first | omega | (simp; done) | (simp; omega)) _ | refine Below.setCell ?_ (by first | omega | (simp; done) | (simp; omega)) _ | refine Below.drew ?_ | refine Below.draws ?_ _ | refine Below.via (by assumption) (by first | omega | (simp; done) | (simp; omega)) ?_))))
            (first
              | (go_at_call 29; refine Calls.mono (lone_In (HD9.out _ (by (repeat (first | exact Below.refl _ _ | assumption | refine Below.alloc ?_ (by first | omega | (simp; done) | (simp; omega)) _ | refine Below.setCell ?_ (by first | omega | (simp; done) | (simp; omega)) _ | refine Below.drew ?_ | refine Below.draws ?_ _ | refine Below.via (by assumption) (by first | omega | (simp; done) | (simp; omega)) ?_)))).lone s.r) ?_; rintro e wa ⟨va, rfl, hra, _, hba⟩; have HBA : Below W9.heap.size W9 wa := hba.via (by simp) (by (repeat (first | exact Below.refl _ _ | assumption | refine Below.alloc ?_ (by first | omega | (simp; done) | (simp; omega)) _ | refine Below.setCell ?_ (by first | omega | (simp; done) | (simp; omega)) _ | refine Below.drew ?_ | refine Below.draws ?_ _ | refine Below.via (by assumption) (by first | omega | (simp; done) | (simp; omega)) ?_))); have HRA := Lib.hid hra; clear hra hba)
              | (go_at_call 30; refine Calls.mono (ref8_In _ _ r _ A s.r (HD9.out _ (by (repeat (first | exact Below.refl _ _ | assumption | refine Below.alloc ?_ (by first | omega | (simp; done) | (simp; omega)) _ | refine Below.setCell ?_ (by first | omega | (simp; done) | (simp; omega)) _ | refine Below.drew ?_ | refine Below.draws ?_ _ | refine Below.via (by assumption) (by first | omega | (simp; done) | (simp; omega)) ?_)))).2.1 hAl) ?_; rintro e wb ⟨vb, rfl, hrb, hbb⟩; have HBB : Below W9.heap.size W9 wb := hbb.via HBA.size HBA; have HRB := Lib.hid hrb; have HRA := Lib.hid (HRA.out.below hbb); clear hrb hbb)
              | (go_at_call 28; refine Calls.mono (law8_same _ _ _ _ _ _ HRA.out HRB.out hIn) ?_; rintro e wc ⟨rfl, hbc⟩; have HBC : Below W9.heap.size W9 wc := hbc.via HBB.size HBB; clear hbc)
              | (go_at_call 31; refine Calls.mono (lone_Len (HD9.out _ (by (repeat (first | exact Below.refl _ _ | assumption | refine Below.alloc ?_ (by first | omega | (simp; done) | (simp; omega)) _ | refine Below.setCell ?_ (by first | omega | (simp; done) | (simp; omega)) _ | refine Below.drew ?_ | refine Below.draws ?_ _ | refine Below.via (by assumption) (by first | omega | (simp; done) | (simp; omega)) ?_)))).lone) ?_; rintro e wd ⟨rfl, rfl⟩)
              | (go_at_call 32; refine Calls.mono (lone_Depth (HD9.out _ (by (repeat (first | exact Below.refl _ _ | assumption | refine Below.alloc ?_ (by first | omega | (simp; done) | (simp; omega)) _ | refine Below.setCell ?_ (by first | omega | (simp; done) | (simp; omega)) _ | refine Below.drew ?_ | refine Below.draws ?_ _ | refine Below.via (by assumption) (by first | omega | (simp; done) | (simp; omega)) ?_)))).lone) ?_; rintro e wd ⟨rfl, rfl⟩)
              | (go_at_call 33; refine Calls.mono (ref8_Depth _ _ r _ A (HD9.out _ (by (repeat (first | exact Below.refl _ _ | assumption | refine Below.alloc ?_ (by first | omega | (simp; done) | (simp; omega)) _ | refine Below.setCell ?_ (by first | omega | (simp; done) | (simp; omega)) _ | refine Below.drew ?_ | refine Below.draws ?_ _ | refine Below.via (by assumption) (by first | omega | (simp; done) | (simp; omega)) ?_)))).2.1 hAl) ?_; rintro e we ⟨rfl, hbe⟩; have HBE : Below W9.heap.size W9 we := hbe.via HBC.size HBC; clear hbe))
          go_wp2_with fail
          go_roundw
          case rel => exact ⟨j + 1, t3, _, A, by omega, by go_num, rfl, by omega, (HD9.out _ HBE).less (fun _ h => h.elim)⟩
          case measure => simp [intOf]; omega
      · go_wp2_with fail
        go_ret
        exact ⟨rfl, hD.to⟩
end Go.Proofs.Ytggeehmcjndlgaa
