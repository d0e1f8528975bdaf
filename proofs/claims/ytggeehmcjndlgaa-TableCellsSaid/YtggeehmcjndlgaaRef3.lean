/-
  The document's points and rectangles (vedetteref3).
-/
import Derived.Test.YtggeehmcjndlgaaGeom
import Derived.Test.YtggeehmcjndlgaaRow
import Derived.Test.YtggeehmcjndlgaaIn
import Derived.Test.YtggeehmcjndlgaaSq
namespace Go.Proofs.Ytggeehmcjndlgaa
open Go Go.RowKit Go.Sort Go.Shelf

set_option maxHeartbeats 400000 in
theorem ref3_On (px py : Int) (w : World) :
    Calls Try.prog 34 #[.agg #[.int .i64 px, .int .i64 py]] w fun e w' => e = .returned (.bool (onB px py)) ∧ Below w.heap.size w w' := by
  go_enter Try.func34, Try.ntmps34
  go_wp2
  all_goals (go_ret; exact ⟨by first | (simp [onB]; done) | (simp [onB, *]; done) | (simp [onB, *]; omega), (by (repeat (first | exact Below.refl _ _ | assumption | refine Below.alloc ?_ (by first | omega | (simp; done) | (simp; omega)) _ | refine Below.setCell ?_ (by first | omega | (simp; done) | (simp; omega)) _ | refine Below.drew ?_ | refine Below.draws ?_ _ | refine Below.via (by assumption) (by first | omega | (simp; done) | (simp; omega)) ?_)))⟩)

set_option maxHeartbeats 400000 in
theorem ref3_In (r : R4) (px py : Int) (w : World) :
    Calls Try.prog 80 #[.agg #[.int .i64 r.x0, .int .i64 r.y0, .int .i64 r.x1, .int .i64 r.y1], .agg #[.int .i64 px, .int .i64 py]] w fun e w' => e = .returned (.bool (inB r px py)) ∧ Below w.heap.size w w' := by
  go_enter Try.func80, Try.ntmps80
  go_wp2
  all_goals (go_ret; exact ⟨by first | (simp [inB]; done) | (simp [inB, *]; done) | (simp [inB, *]; omega), (by (repeat (first | exact Below.refl _ _ | assumption | refine Below.alloc ?_ (by first | omega | (simp; done) | (simp; omega)) _ | refine Below.setCell ?_ (by first | omega | (simp; done) | (simp; omega)) _ | refine Below.drew ?_ | refine Below.draws ?_ _ | refine Below.via (by assumption) (by first | omega | (simp; done) | (simp; omega)) ?_)))⟩)

set_option maxHeartbeats 400000 in
theorem ref3_Empty (r : R4) (w : World) :
    Calls Try.prog 84 #[.agg #[.int .i64 r.x0, .int .i64 r.y0, .int .i64 r.x1, .int .i64 r.y1]] w fun e w' => e = .returned (.bool (emptyB r)) ∧ Below w.heap.size w w' := by
  go_enter Try.func84, Try.ntmps84
  go_wp2
  all_goals (go_ret; exact ⟨by first | (simp [emptyB]; done) | (simp [emptyB, *]; done) | (simp [emptyB, *]; omega), (by (repeat (first | exact Below.refl _ _ | assumption | refine Below.alloc ?_ (by first | omega | (simp; done) | (simp; omega)) _ | refine Below.setCell ?_ (by first | omega | (simp; done) | (simp; omega)) _ | refine Below.drew ?_ | refine Below.draws ?_ _ | refine Below.via (by assumption) (by first | omega | (simp; done) | (simp; omega)) ?_)))⟩)

set_option maxHeartbeats 1000000 in
theorem ref3_Meet (a b : R4) (w : World) :
    Calls Try.prog 35 #[.agg #[.int .i64 a.x0, .int .i64 a.y0, .int .i64 a.x1, .int .i64 a.y1], .agg #[.int .i64 b.x0, .int .i64 b.y0, .int .i64 b.x1, .int .i64 b.y1]] w fun e w' => e = .returned (meet a b).val ∧ Below w.heap.size w w' := by
  obtain ⟨m, hm⟩ : ∃ m : R4, m = ⟨max a.x0 b.x0, max a.y0 b.y0, min a.x1 b.x1, min a.y1 b.y1⟩ := ⟨_, rfl⟩
  have hx0 : max a.x0 b.x0 = m.x0 := by rw [hm]
  have hy0 : max a.y0 b.y0 = m.y0 := by rw [hm]
  have hx1 : min a.x1 b.x1 = m.x1 := by rw [hm]
  have hy1 : min a.y1 b.y1 = m.y1 := by rw [hm]
  have hme : meet a b = if emptyB m then ⟨0, 0, 0, 0⟩ else m := by rw [hm]; rfl
  clear hm
  have hmx := run_mx
  have hmn := run_mn
  have h1 := ref3_Empty m
  cases he : emptyB m
  · rw [he] at h1
    go_enter Try.func35, Try.ntmps35
    go_wp2_with fail
    (try simp only [hx0, hy0, hx1, hy1])
    refine (h1 _).mono ?_
    rintro e w1 ⟨rfl, hb⟩
    obtain ⟨hc, hf⟩ := bcell hb
    go_wp2_with fail
    exact bodyPost_ret (v := (meet a b).val) (by simp [results, Try.results35, go_sem, R4.val, hme, he, hc, World.cell?_setCell_same', World.cell?_setCell_other]) rfl ⟨rfl, (by (repeat (first | exact Below.refl _ _ | assumption | refine Below.alloc ?_ (by first | omega | (simp; done) | (simp; omega)) _ | refine Below.setCell ?_ (by first | omega | (simp; done) | (simp; omega)) _ | refine Below.drew ?_ | refine Below.draws ?_ _ | refine Below.via (by assumption) (by first | omega | (simp; done) | (simp; omega)) ?_)))⟩
  · rw [he] at h1
    go_enter Try.func35, Try.ntmps35
    go_wp2_with fail
    (try simp only [hx0, hy0, hx1, hy1])
    refine (h1 _).mono ?_
    rintro e w1 ⟨rfl, hb⟩
    obtain ⟨hc, hf⟩ := bcell hb
    go_wp2_with fail
    exact bodyPost_ret (v := (meet a b).val) (by simp [results, Try.results35, go_sem, R4.val, hme, he, hc, World.cell?_setCell_same', World.cell?_setCell_other]) rfl ⟨rfl, (by (repeat (first | exact Below.refl _ _ | assumption | refine Below.alloc ?_ (by first | omega | (simp; done) | (simp; omega)) _ | refine Below.setCell ?_ (by first | omega | (simp; done) | (simp; omega)) _ | refine Below.drew ?_ | refine Below.draws ?_ _ | refine Below.via (by assumption) (by first | omega | (simp; done) | (simp; omega)) ?_)))⟩

theorem Try.infoRect : (Try.prog.info? 33).map (fun i => (i.zero, i.size, i.bytes)) = some (some (.agg #[.int .i64 0, .int .i64 0, .int .i64 0, .int .i64 0]), 4, 32) := by kernel_rfl
theorem oneR (x : R4) : ∀ u ∈ encR4 x, u.oneCell' = true := by intro u hu; simp [encR4] at hu; rcases hu with rfl | rfl | rfl | rfl <;> rfl

section
variable {w : World} {ops : Array Oper} {rest : List Oper} {o : Oper} {a : Act} {Q : Exit → Act → World → Prop}
theorem wpl_append_rects (hgd : o.guard = none) (s x : Operand) (ho : o.op = .call { callee := .builtin .append, args := #[s, x], argTypes := #[51, 51] })
    (base : Nat) (v : Value) (l : List R4) (hs : a.eval s = v) (hown : RowOf encR4 4 33 w base v l) (v2 : Value) (l2 : List R4) (hx : a.eval x = v2) (hr : Reads encR4 w v2 l2)
    (hlen : l.length + l2.length ≤ 1000000) (hbase : base ≤ w.heap.size)
    (h : ∀ v' w', RowOf encR4 4 33 w' base v' (l ++ l2) → w.grownBy w' v.ownBlock → (v' = .slice none 0 0 ↔ v = .slice none 0 0 ∧ l2 = []) → (v'.ownBlock = v.ownBlock ∨ v'.ownBlock = some w.heap.size) → wpList Try.prog ops Q rest (a.put o.dst v') w') :
    wpList Try.prog ops Q (o :: rest) a w := by
  obtain ⟨i, hi, hz0, hz1, hz2⟩ := info_parts Try.infoRect
  exact wpl_append hgd s x 51 ho 33 i _ 32 Try.underlying51 hi hz0 hz1 hz2 rfl (by decide) (fun _ => rfl) oneR base v l hs hown v2 l2 hx hr (by unfold maxLen; omega) (by omega) hbase h
end

theorem row_one {α : Type} {enc : α → List Value} {k : Nat} (w : World) (x : α) (t : TypeId) (C : Array Value) (base : Nat) (hC : C = (enc x).toArray) (hb : base ≤ w.heap.size) (hk : (enc x).length = k := by rfl) :
    RowOf enc k t (w.alloc (.cells C t)) base (.slice (some ⟨w.heap.size, 0, none⟩) 1 1) [x] := by
  subst hC
  refine ⟨by simp [hk], .inr ⟨w.heap.size, 1, (enc x).toArray, rfl, hb, heap_alloc_new w _, Nat.le_refl _, by unfold maxLen; omega, by simp [hk], ?_⟩⟩
  rw [List.flatMap_cons, List.flatMap_nil, List.append_nil]
  exact List.take_of_length_le (by simp [hk])

/-- What the document's Minus gives. -/
def four (a m : R4) : Nat → R4
  | 0 => ⟨a.x0, a.y0, a.x1, m.y0⟩ | 1 => ⟨a.x0, m.y1, a.x1, a.y1⟩ | 2 => ⟨a.x0, m.y0, m.x0, m.y1⟩ | _ => ⟨m.x1, m.y0, a.x1, m.y1⟩
def fourTo (a m : R4) (k : Nat) : List R4 := ((List.range k).map (four a m)).filter fun r => !emptyB r
def minusL (a b : R4) : List R4 := if emptyB a then [] else if emptyB (meet a b) then [a] else fourTo a (meet a b) 4

def arr16 (a m : R4) : Array Value := (encR4 (four a m 0) ++ encR4 (four a m 1) ++ encR4 (four a m 2) ++ encR4 (four a m 3)).toArray
theorem arr16_get (a m : R4) {k : Nat} (hk : k < 4) {i : Nat} {u : Value} (h : (encR4 (four a m k))[i]? = some u) : (arr16 a m)[k * 4 + i]? = some u := by
  have hi : i < 4 := (List.getElem?_eq_some_iff.1 h).1
  have h1 : k = 0 ∨ k = 1 ∨ k = 2 ∨ k = 3 := by omega
  have h2 : i = 0 ∨ i = 1 ∨ i = 2 ∨ i = 3 := by omega
  rcases h1 with rfl | rfl | rfl | rfl <;> rcases h2 with rfl | rfl | rfl | rfl <;> exact h

set_option maxHeartbeats 4000000 in
set_option maxRecDepth 100000 in
theorem ref3_Minus (a b : R4) (w : World) :
    Calls Try.prog 36 #[.agg #[.int .i64 a.x0, .int .i64 a.y0, .int .i64 a.x1, .int .i64 a.y1], .agg #[.int .i64 b.x0, .int .i64 b.y0, .int .i64 b.x1, .int .i64 b.y1]] w fun e w' =>
      ∃ v, e = .returned v ∧ RowOf encR4 4 33 w' w.heap.size v (minusL a b) ∧ Below w.heap.size w w' := by
  have hE := ref3_Empty a
  have hM := ref3_Meet a b
  simp only [R4.val] at hM
  have hE2 := ref3_Empty (meet a b)
  cases hea : emptyB a
  rotate_left
  · have hl : minusL a b = [] := by simp [minusL, hea]
    rw [hea] at hE
    rw [hl]
    go_enter Try.func36, Try.ntmps36
    go_wp2_with (go_at_call 84; refine (hE _).mono ?_; rintro e w1 ⟨rfl, hb⟩; obtain ⟨hc, hf⟩ := bcell hb)
    go_ret
    exact ⟨_, rfl, RowOf.nil _ _ _, (by (repeat (first | exact Below.refl _ _ | assumption | refine Below.alloc ?_ (by first | omega | (simp; done) | (simp; omega)) _ | refine Below.setCell ?_ (by first | omega | (simp; done) | (simp; omega)) _ | refine Below.drew ?_ | refine Below.draws ?_ _ | refine Below.via (by assumption) (by first | omega | (simp; done) | (simp; omega)) ?_)))⟩
  · rw [hea] at hE
    cases hem : emptyB (meet a b)
    rotate_left
    · have hl : minusL a b = [a] := by simp [minusL, hea, hem]
      rw [hem] at hE2
      rw [hl]
      generalize meet a b = m at *
      go_enter Try.func36, Try.ntmps36
      go_wp2_with fail
      refine (hE _).mono ?_
      rintro e w1 ⟨rfl, hb1⟩
      obtain ⟨hc1, hf1⟩ := bcell hb1
      go_wp2_with fail
      refine (hM _).mono ?_
      rintro e w2 ⟨rfl, hb2⟩
      obtain ⟨hc2, hf2⟩ := bcell hb2
      go_wp2_with fail
      refine (hE2 _).mono ?_
      rintro e w3 ⟨rfl, hb3⟩
      obtain ⟨hc3, hf3⟩ := bcell hb3
      have hs1 := hb1.size
      have hs2 := hb2.size
      have hs3 := hb3.size
      simp only [World.size_alloc] at hs1 hs2 hs3
      have ha1 : w1.heap[w.heap.size]? = some (.cells #[.int .i64 a.x0, .int .i64 a.y0, .int .i64 a.x1, .int .i64 a.y1] 33 (0, 0)) := by
        rw [hb1.block _ (by simp; omega), Below.heap_alloc _ _ _ (by simp)]
        exact heap_alloc_new w _
      have ha3 := (hb3.block _ (by simp; omega)).trans ((Below.heap_alloc w2 (.cells #[.int .i64 m.x0, .int .i64 m.y0, .int .i64 m.x1, .int .i64 m.y1] 33) w.heap.size (by omega)).trans ((hb2.block _ (lt_of_block ha1)).trans ha1))
      have x0 := cellAt ha3 (o := 0) rfl
      have x1 := cellAt ha3 (o := 1) rfl
      have x2 := cellAt ha3 (o := 2) rfl
      have x3 := cellAt ha3 (o := 3) rfl
      have hm3 := (hb3.block w2.heap.size (by simp)).trans (heap_alloc_new w2 (.cells #[.int .i64 m.x0, .int .i64 m.y0, .int .i64 m.x1, .int .i64 m.y1] 33))
      have y0 := cellAt hm3 (o := 0) rfl
      have y1 := cellAt hm3 (o := 1) rfl
      have y2 := cellAt hm3 (o := 2) rfl
      have y3 := cellAt hm3 (o := 3) rfl
      clear hc1 hc2 hc3 hf1 hf2 hf3
      go_wp2_with fail
      go_ret
      exact ⟨_, rfl, row_one _ a 33 _ _ rfl (by omega), (by (repeat (first | exact Below.refl _ _ | assumption | refine Below.alloc ?_ (by first | omega | (simp; done) | (simp; omega)) _ | refine Below.setCell ?_ (by first | omega | (simp; done) | (simp; omega)) _ | refine Below.drew ?_ | refine Below.draws ?_ _ | refine Below.via (by assumption) (by first | omega | (simp; done) | (simp; omega)) ?_)))⟩
    · have hl : minusL a b = fourTo a (meet a b) 4 := by simp [minusL, hea, hem]
      rw [hem] at hE2
      rw [hl]
      generalize meet a b = m at *
      go_enter Try.func36, Try.ntmps36
      go_wp2_with fail
      refine (hE _).mono ?_
      rintro e w1 ⟨rfl, hb1⟩
      obtain ⟨hc1, hf1⟩ := bcell hb1
      go_wp2_with fail
      refine (hM _).mono ?_
      rintro e w2 ⟨rfl, hb2⟩
      obtain ⟨hc2, hf2⟩ := bcell hb2
      go_wp2_with fail
      refine (hE2 _).mono ?_
      rintro e w3 ⟨rfl, hb3⟩
      obtain ⟨hc3, hf3⟩ := bcell hb3
      have hs1 := hb1.size
      have hs2 := hb2.size
      have hs3 := hb3.size
      simp only [World.size_alloc] at hs1 hs2 hs3
      have ha1 : w1.heap[w.heap.size]? = some (.cells #[.int .i64 a.x0, .int .i64 a.y0, .int .i64 a.x1, .int .i64 a.y1] 33 (0, 0)) := by
        rw [hb1.block _ (by simp; omega), Below.heap_alloc _ _ _ (by simp)]
        exact heap_alloc_new w _
      have ha3 := (hb3.block _ (by simp; omega)).trans ((Below.heap_alloc w2 (.cells #[.int .i64 m.x0, .int .i64 m.y0, .int .i64 m.x1, .int .i64 m.y1] 33) w.heap.size (by omega)).trans ((hb2.block _ (lt_of_block ha1)).trans ha1))
      have x0 := cellAt ha3 (o := 0) rfl
      have x1 := cellAt ha3 (o := 1) rfl
      have x2 := cellAt ha3 (o := 2) rfl
      have x3 := cellAt ha3 (o := 3) rfl
      have hm3 := (hb3.block w2.heap.size (by simp)).trans (heap_alloc_new w2 (.cells #[.int .i64 m.x0, .int .i64 m.y0, .int .i64 m.x1, .int .i64 m.y1] 33))
      have y0 := cellAt hm3 (o := 0) rfl
      have y1 := cellAt hm3 (o := 1) rfl
      have y2 := cellAt hm3 (o := 2) rfl
      have y3 := cellAt hm3 (o := 3) rfl
      clear hc1 hc2 hc3 hf1 hf2 hf3
      go_wp2_with fail
      obtain ⟨W6, hW6⟩ : ∃ W, W = w3.alloc (.cells (arr16 a m) 125 (0, 0)) := ⟨_, rfl⟩
      show Code.wp _ _ _ _ (w3.alloc (.cells (arr16 a m) 125 (0, 0)))
      rw [← hW6]
      have hB6 : Below w.heap.size w W6 := by rw [hW6]; (repeat (first | exact Below.refl _ _ | assumption | refine Below.alloc ?_ (by first | omega | (simp; done) | (simp; omega)) _ | refine Below.setCell ?_ (by first | omega | (simp; done) | (simp; omega)) _ | refine Below.drew ?_ | refine Below.draws ?_ _ | refine Below.via (by assumption) (by first | omega | (simp; done) | (simp; omega)) ?_))
      have hA6 : W6.heap[w3.heap.size]? = some (.cells (arr16 a m) 125 (0, 0)) := by rw [hW6]; exact heap_alloc_new w3 _
      have hs6 : W6.heap.size = w3.heap.size + 1 := by rw [hW6]; simp
      clear hW6 hb1 hb2 hb3 ha1 ha3 hm3 x0 x1 x2 x3 y0 y1 y2 y3 hE hM hE2
      go_loopw [7, 8] (fun t i wl => ∃ k : Nat, k ≤ 4 ∧ i = .int .i64 k ∧ RowOf encR4 4 33 wl W6.heap.size t (fourTo a m k) ∧ Below W6.heap.size W6 wl) (fun _ i _ => 4 - (intOf i).toNat)
      case atStart => exact ⟨0, by omega, rfl, RowOf.nil _ _ _, Below.refl _ _⟩
      case round =>
        obtain ⟨k, hk, rfl, hrow, hb⟩ := hrel
        rcases Nat.lt_or_ge k 4 with hlt | hge
        · have hAr := (hb.block w3.heap.size (by omega)).trans hA6
          have hz : ∀ i u, (encR4 (four a m k))[i]? = some u → wr.cell? ⟨w3.heap.size, k * 4 + i, none⟩ = some u := fun i u hi => cellAt hAr (arr16_get a m hlt hi)
          have z0 := hz 0 _ rfl
          rw [Nat.add_zero] at z0
          have z1 := hz 1 _ rfl
          have z2 := hz 2 _ rfl
          have z3 := hz 3 _ rfl
          have hE := ref3_Empty (four a m k)
          have hnext : fourTo a m (k + 1) = fourTo a m k ++ (if emptyB (four a m k) then [] else [four a m k]) := by
            unfold fourTo
            rw [List.range_succ, List.map_append, List.filter_append]
            congr 1
            simp only [List.map_cons, List.map_nil, List.filter_cons, List.filter_nil]
            cases emptyB (four a m k) <;> rfl
          have hlen4 : (fourTo a m k).length ≤ 4 := by
            unfold fourTo
            refine Nat.le_trans (List.length_filter_le _ _) ?_
            simp; omega
          generalize four a m k = q at *
          have HN := Lib.hid hnext
          clear hz hnext
          go_wp2_with fail
          refine (hE _).mono ?_
          rintro e w7 ⟨rfl, hb7⟩
          cases heq : emptyB q
          · have hrow7 := hrow.below hb7
            have hb17 := hb7.via hb.size hb
            have u0 := (hb7.cell (p := ⟨w3.heap.size, k * 4, none⟩) (by have := hb.size; simp; omega)).trans z0
            have u1 := (hb7.cell (p := ⟨w3.heap.size, k * 4 + 1, none⟩) (by have := hb.size; simp; omega)).trans z1
            have u2 := (hb7.cell (p := ⟨w3.heap.size, k * 4 + 2, none⟩) (by have := hb.size; simp; omega)).trans z2
            have u3 := (hb7.cell (p := ⟨w3.heap.size, k * 4 + 3, none⟩) (by have := hb.size; simp; omega)).trans z3
            go_wp2_with (at_builtin; refine wpl_append_rects rfl _ _ rfl W6.heap.size _ _ rfl (hrow7.alloc _) _ _ rfl (reads_one (enc := encR4) _ q _ _ rfl) (by simp; omega) (Nat.le_trans hb17.size (by simp)) ?_; intro v3 w8 hr8 hg8 _ hat8)
            go_roundw
            case rel => exact ⟨k + 1, by omega, by go_num, by rw [HN.out]; simpa [heq] using hr8, (hb17.alloc hb17.size _).grown hg8 (Nat.le_trans hb17.size (by simp)) (fun j hj => (hrow7.lt j hj).1)⟩
            case measure => simp [intOf]; omega
          · go_wp2_with fail
            go_roundw
            case rel => exact ⟨k + 1, by omega, by go_num, by rw [HN.out]; simpa [heq] using hrow.below hb7, hb7.via hb.size hb⟩
            case measure => simp [intOf]; omega
        · obtain rfl : k = 4 := by omega
          go_wp2_with fail
          go_ret
          exact ⟨_, rfl, hrow.base_le hB6.size, hb.via hB6.size hB6⟩
end Go.Proofs.Ytggeehmcjndlgaa
