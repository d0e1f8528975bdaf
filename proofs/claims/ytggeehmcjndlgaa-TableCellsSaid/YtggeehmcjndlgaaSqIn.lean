/-
  quad's 'in': the numbers of a square whose point is in a rectangle, behind others.
-/
import Derived.Test.YtggeehmcjndlgaaSq
namespace Go.Proofs.Ytggeehmcjndlgaa
open Go Go.RowKit Go.Sort Go.Shelf

/-- Numbers with their points, in the order of the numbers. -/
abbrev Pts := List (Int × Int × Int)
def encP (p : Int × Int) : Value := .agg #[.int .i64 p.1, .int .i64 p.2]
def entP (L : Pts) : Ents := L.map fun q => (q.1, encP q.2)
def findP (L : Pts) (id : Int) : Option (Int × Int) := (L.find? fun q => q.1 == id).map (·.2)
def atP (L : Pts) (id : Int) : Int × Int := (findP L id).getD (0, 0)

theorem lookP (L : Pts) (id : Int) : (lookE (entP L) id).getD (encP (0, 0)) = encP (atP L id) := by
  unfold lookE entP atP findP
  rw [List.find?_map]
  have : ((fun p : Int × Value => p.1 == id) ∘ fun q : Int × Int × Int => (q.1, encP q.2)) = fun q => q.1 == id := rfl
  rw [this]
  cases L.find? (fun q => q.1 == id) <;> rfl

/-- The tree's first cell, its map. -/
structure TCtx (w : World) (bt bm : Nat) (L : Pts) : Prop where
  tm : w.cell? ⟨bt, 0, none⟩ = some (.map (some bm))
  im : IMap w bm (entP L)
theorem TCtx.lt {w : World} {bt bm : Nat} {L : Pts} (h : TCtx w bt bm L) : bt < w.heap.size := World.block_lt_of_cell? w _ h.tm
theorem TCtx.chg {S : Nat → Prop} {w w' : World} {bt bm : Nat} {L : Pts} (h : TCtx w bt bm L) (hc : Chg S w w') (h1 : ¬ S bt) (h2 : ¬ S bm) : TCtx w' bt bm L :=
  ⟨(World.cell?_of_block (w := w) (a := ⟨bt, 0, none⟩) (hc.block bt h.lt h1)).trans h.tm, h.im.chg hc h2⟩
theorem TCtx.below {w w' : World} {bt bm : Nat} {L : Pts} (h : TCtx w bt bm L) (hc : Below w.heap.size w w') : TCtx w' bt bm L := h.chg (Chg.of_below hc fun _ => False) id id

theorem pointZ (w : World) : (zeroValue 31).run Try.prog w = .ok (encP (0, 0)) w := Try.zeroValue31 w

/-- The look-up of a number's point. -/
theorem TCtx.look {w : World} {bt bm : Nat} {L : Pts} (h : TCtx w bt bm L) {id : Int} (hk : (Lit.int .i64 id).wf = true) :
    (Instr.lookup 104 (.map (some bm)) (.int .i64 id) false).run Try.prog w = .ok (.agg #[.int .i64 (atP L id).1, .int .i64 (atP L id).2]) w := by
  rw [h.im.look Try.underlying104 (pointZ w) hk, lookP]; rfl

/-- What 'in' finds. -/
def inSq (L : Pts) : Sq → R4 → R4 → List Int
  | .leaf _ ids, own, r => if ids.length = 0 ∨ emptyB (meet own r) = true then [] else ids.filter fun id => inB r (atP L id).1 (atP L id).2
  | .node _ n a b c d, own, r => if n = 0 ∨ emptyB (meet own r) = true then [] else inSq L a (qtr own 0) r ++ inSq L b (qtr own 1) r ++ inSq L c (qtr own 2) r ++ inSq L d (qtr own 3) r

def ownB (v : Value) (k : Nat) : Prop := v.ownBlock = some k

theorem take_succ_get {α : Type} [Inhabited α] {l : List α} {k : Nat} (h : k < l.length) : l.take (k + 1) = l.take k ++ [l[k]!] := by
  rw [List.take_succ_eq_append_getElem h, getElem!_pos l k h]

set_option maxHeartbeats 2000000 in
set_option maxRecDepth 100000 in
theorem sq_in_leaf (v : Value) (ids : List Int) (w : World) (bt bm bs os : Nat) (cs : Array Value) (T : TypeId) (L : Pts) (own r : R4) (vo : Value) (lo : List Int) (base : Nat)
    (hctx : TCtx w bt bm L) (hb : w.heap[bs]? = some (.cells cs T (0, 0))) (hin : SqIn cs os (.leaf v ids)) (hh : (Sq.leaf v ids).Holds w)
    (hwf : ∀ id ∈ ids, (Lit.int .i64 id).wf = true) (hrow : RowOf encI 1 3 w base vo lo) (hbase : base ≤ w.heap.size) (hlen : lo.length + ids.length ≤ 100000)
    (ho : ∀ k, vo.ownBlock = some k → k ≠ bt ∧ k ≠ bm ∧ k ≠ bs ∧ k ∉ (Sq.leaf v ids).blocks) :
    Calls Try.prog 78 #[.pointer (some ⟨bt, 0, none⟩), vo, .pointer (some ⟨bs, os, none⟩), .agg #[.int .i64 own.x0, .int .i64 own.y0, .int .i64 own.x1, .int .i64 own.y1], .agg #[.int .i64 r.x0, .int .i64 r.y0, .int .i64 r.x1, .int .i64 r.y1]] w fun e w' =>
      ∃ v', e = .returned v' ∧ RowOf encI 1 3 w' base v' (lo ++ inSq L (.leaf v ids) own r) ∧ Chg (ownB vo) w w' ∧ ∀ k, v'.ownBlock = some k → vo.ownBlock = some k ∨ w.heap.size ≤ k := by
  have k0 := cellAt hb hin.c0
  have k1 := cellAt hb hin.c1
  have k2 := cellAt hb hin.c2
  simp only [Sq.c0, Sq.c1, Sq.c2] at k0 k1 k2
  have hB := lt_of_block hb
  by_cases hn : ids.length = 0
  · have hn' : (ids.length : Int) = 0 := by omega
    obtain rfl : ids = [] := by simpa using hn
    go_enter Try.func78, Try.ntmps78
    go_wp2_with fail
    go_ret
    exact ⟨_, rfl, by simpa [inSq] using hrow.below (by (repeat (first | exact Below.refl _ _ | assumption | refine Below.alloc ?_ (by first | omega | (simp; done) | (simp; omega)) _ | refine Below.setCell ?_ (by first | omega | (simp; done) | (simp; omega)) _ | refine Below.drew ?_ | refine Below.draws ?_ _ | refine Below.via (by assumption) (by first | omega | (simp; done) | (simp; omega)) ?_))), Chg.of_below (by (repeat (first | exact Below.refl _ _ | assumption | refine Below.alloc ?_ (by first | omega | (simp; done) | (simp; omega)) _ | refine Below.setCell ?_ (by first | omega | (simp; done) | (simp; omega)) _ | refine Below.drew ?_ | refine Below.draws ?_ _ | refine Below.via (by assumption) (by first | omega | (simp; done) | (simp; omega)) ?_))) _, fun k hk => .inl hk⟩
  · have hn' : ((ids.length : Int) == 0) = false := by rw [beq_eq_false_iff_ne]; omega
    have hform := hh.form
    rcases hform with ⟨_, rfl⟩ | ⟨g, cap, rfl, _, hcap, _⟩
    · simp at hn
    have hMeet := geom_Meet own r
    simp only [R4.val] at hMeet
    have hW : ∀ w2, Below ((w.alloc (.cells #[.int .i64 own.x0, .int .i64 own.y0, .int .i64 own.x1, .int .i64 own.y1] 33)).alloc (.cells #[.int .i64 r.x0, .int .i64 r.y0, .int .i64 r.x1, .int .i64 r.y1] 33)).heap.size ((w.alloc (.cells #[.int .i64 own.x0, .int .i64 own.y0, .int .i64 own.x1, .int .i64 own.y1] 33)).alloc (.cells #[.int .i64 r.x0, .int .i64 r.y0, .int .i64 r.x1, .int .i64 r.y1] 33)) w2 →
        Below w.heap.size w w2 ∧ w.heap.size + 2 ≤ w2.heap.size ∧ w2.heap[w.heap.size + 1]? = some (.cells #[.int .i64 r.x0, .int .i64 r.y0, .int .i64 r.x1, .int .i64 r.y1] 33 (0, 0)) := by
      intro w2 h2
      have h3 := h2.size
      simp only [World.size_alloc] at h3
      refine ⟨h2.via (by first | omega | (simp; done) | (simp; omega)) (((Below.refl _ w).alloc (Nat.le_refl _) _).alloc (by simp) _), by omega, ?_⟩
      rw [h2.block _ (by simp)]
      have := heap_alloc_new (w.alloc (.cells #[.int .i64 own.x0, .int .i64 own.y0, .int .i64 own.x1, .int .i64 own.y1] 33)) (.cells #[.int .i64 r.x0, .int .i64 r.y0, .int .i64 r.x1, .int .i64 r.y1] 33)
      simpa using this
    cases he : emptyB (meet own r)
    case true =>
      have hEm := geom_Empty (meet own r)
      rw [he] at hEm
      have hin : inSq L (.leaf (.slice (some ⟨g, 0, none⟩) ids.length cap) ids) own r = [] := by simp [inSq, he]
      rw [hin]
      clear hin he
      generalize meet own r = m at *
      go_enter Try.func78, Try.ntmps78
      go_wp2_with (first
        | (go_at_call 110; refine (hMeet _).mono ?_; rintro e w1 ⟨rfl, hb1⟩)
        | (go_at_call 109; refine (hEm _).mono ?_; rintro e w2 ⟨rfl, hb2⟩))
      go_ret
      have hb3 := (hW w2 (hb2.via hb1.size hb1)).1
      exact ⟨_, rfl, by simpa using hrow.below hb3, Chg.of_below hb3 _, fun k hk => .inl hk⟩
    case false =>
      have hEm := geom_Empty (meet own r)
      rw [he] at hEm
      have hin' : inSq L (.leaf (.slice (some ⟨g, 0, none⟩) ids.length cap) ids) own r = ids.filter fun id => inB r (atP L id).1 (atP L id).2 := by simp only [inSq]; rw [if_neg (by simp [he]; simpa using hn)]
      rw [hin']
      clear hin' he
      generalize meet own r = m at *
      go_enter Try.func78, Try.ntmps78
      go_wp2_with (first
        | (go_at_call 110; refine (hMeet _).mono ?_; rintro e w1 ⟨rfl, hb1⟩)
        | (go_at_call 109; refine (hEm _).mono ?_; rintro e w2 ⟨rfl, hb2⟩; obtain ⟨hb3, hsz2, hr2⟩ := hW w2 (hb2.via hb1.size hb1); obtain ⟨hc3, hf3⟩ := bcell hb3))
      have hctx2 := hctx.below hb3
      have hh2 := Sq.Holds.below (S := .leaf (.slice (some ⟨g, 0, none⟩) ids.length cap) ids) hh hb3
      have hrow2 := hrow.below hb3
      have hlt2 := hctx2.lt
      go_loopw [1, 12, 31] (fun t _ i wr => ∃ k : Nat, k ≤ ids.length ∧ i = .int .i64 k ∧ RowOf encI 1 3 wr base t (lo ++ (ids.take k).filter fun id => inB r (atP L id).1 (atP L id).2) ∧ Chg (ownB vo) w2 wr ∧ ∀ j, t.ownBlock = some j → vo.ownBlock = some j ∨ w2.heap.size ≤ j)
        (fun _ _ i _ => ids.length - (intOf i).toNat)
      case atStart => exact ⟨0, Nat.zero_le _, rfl, by simpa using hrow2, Chg.refl _ _, fun j hj => .inl hj⟩
      case round =>
        obtain ⟨k, hk, rfl, hrowr, hchg, hown⟩ := hrel
        by_cases hlt : k < ids.length
        · obtain ⟨id, hid⟩ : ∃ id, ids[k]! = id := ⟨_, rfl⟩
          have hids : ids.take (k + 1) = ids.take k ++ [id] := by rw [take_succ_get hlt, hid]
          have hidm : id ∈ ids := by rw [← hid, getElem!_pos ids k hlt]; exact List.getElem_mem hlt
          have hwfid := hwf id hidm
          have hng : ¬ ownB vo g := fun e => (ho g e).2.2.2 (by simp [Sq.blocks, Value.ownBlock])
          have hcell : wr.cell? ⟨g, k, none⟩ = some (.int .i64 id) := by
            have h1 := ((RowOf.chg (S := ownB vo) hh2 hchg (fun b hb => by cases hb; exact hng)).reads).cell (k := 1) (fun _ => rfl) rfl (j := k) (x := id) (by rw [← hid, getElem!_pos ids k hlt]; exact List.getElem?_eq_getElem hlt)
            obtain ⟨b, off, hbo, hc⟩ := h1
            cases hbo
            simpa using hc 0 _ rfl
          have hctxr : TCtx wr bt bm L := hctx2.chg hchg (fun e => (ho _ e).1 rfl) (fun e => (ho _ e).2.1 rfl)
          have hb9 : wr.heap[w.heap.size + 1]? = some (.cells #[.int .i64 r.x0, .int .i64 r.y0, .int .i64 r.x1, .int .i64 r.y1] 33 (0, 0)) := hchg.heap hr2 (fun e => by have := (hrow.lt _ e).2; omega)
          have q0 := cell_regrown (cellAt hb9 (o := 0) rfl)
          have q1 := cell_regrown (cellAt hb9 (o := 1) rfl)
          have q2 := cell_regrown (cellAt hb9 (o := 2) rfl)
          have q3 := cell_regrown (cellAt hb9 (o := 3) rfl)
          have qt := cell_regrown hctxr.tm
          have ql : ∀ d os, (Instr.lookup 104 (.map (some bm)) (.int .i64 id) false).run Try.prog (grow (redrawn wr d) os) = .ok (.agg #[.int .i64 (atP L id).1, .int .i64 (atP L id).2]) (grow (redrawn wr d) os) := fun d os => (hctxr.below (below_regrown wr d os)).look hwfid
          have hI := regrown_call (w := wr) (geom_In r (atP L id).1 (atP L id).2)
          clear hctxr
          have HI := Lib.hid hids
          clear hids hid hb
          have hb9' : True := trivial
          have hlen1 : (lo ++ (ids.take k).filter fun id => inB r (atP L id).1 (atP L id).2).length + [id].length ≤ 1000000 := by
            have := List.length_filter_le (fun id => inB r (atP L id).1 (atP L id).2) (ids.take k)
            simp only [List.length_append, List.length_take, List.length_cons, List.length_nil] at this ⊢
            omega
          cases hin' : inB r (atP L id).1 (atP L id).2
          · rw [hin'] at hI
            go_wp2_with fail
            (refine wp_region_quiet_below (by kernel_rfl) (by kernel_rfl) ?_; (repeat (go_big_quiet_step (exact hI _ _))); refine wpQuiet_nil ?_; intro wqA hwq; have hbqA := below_of_class hwq; clear hwq)
            go_wp2_with fail
            go_roundw
            case rel => exact ⟨k + 1, by omega, by go_num, by rw [HI.out]; simpa [List.filter_append, hin'] using hrowr.below hbqA, hchg.andThen (Chg.of_below hbqA _) (fun i _ h => h), hown⟩
            case measure => simp [intOf]; omega
          · rw [hin'] at hI
            go_wp2_with fail
            (refine wp_region_quiet_below (by kernel_rfl) (by kernel_rfl) ?_; (repeat (go_big_quiet_step (exact hI _ _))); refine wpQuiet_nil ?_; intro wqA hwq; have hbqA := below_of_class hwq; clear hwq)
            have hrowA := hrowr.below hbqA
            have hbs0 : base ≤ wqA.heap.size := Nat.le_trans hbase (Nat.le_trans hb3.size (Nat.le_trans hchg.size hbqA.size))
            have hw2A : w2.heap.size ≤ wqA.heap.size := Nat.le_trans hchg.size hbqA.size
            go_wp2_with (at_builtin; refine wpl_append_ints rfl _ _ rfl base _ _ rfl (hrowA.alloc _) _ _ rfl (reads_one (enc := encI) _ id _ _ rfl) hlen1 (Nat.le_trans hbs0 (by simp)) ?_; intro v3 w3 hr3 hg3 _ hat3)
            go_roundw
            case rel =>
              refine ⟨k + 1, by omega, by go_num, by rw [HI.out]; simpa [List.filter_append, hin', List.append_assoc] using hr3, ?_, fun j hj => ?_⟩
              · exact ((hchg.andThen (Chg.of_below hbqA _) (fun i _ h => h)).andThen (Chg.alloc _ _ _) (fun i _ h => h)).andThen (Chg.of_grown (S := ownB u1) hg3 (fun k h => h)) (fun i hi h => (hown i h).resolve_right (by omega))
              · rcases hat3 with h | h
                · exact hown j (h.symm.trans hj)
                · rw [h] at hj
                  simp only [World.size_alloc, Option.some.injEq] at hj
                  exact .inr (by omega)
            case measure => simp [intOf]; omega
        · obtain rfl : k = ids.length := by omega
          have k2r : wr.cell? ⟨bs, os + 2, none⟩ = some (.pointer none) := by
            rw [World.cell?_of_block (w := w2) (a := ⟨bs, os + 2, none⟩) (hchg.block bs (Nat.lt_of_lt_of_le hB hb3.size) (fun e => (ho _ e).2.2.1 rfl)), hc3 bs (os + 2) hB]
            exact k2
          rw [List.take_length] at hrowr
          go_wp2_with fail
          refine wp_loop_rounds 1 ?_
          rw [rounds_succ]
          go_wp2_with fail
          go_ret
          exact ⟨_, rfl, hrowr, (Chg.of_below hb3 _).andThen hchg (fun i _ h => h), fun j hj => (hown j hj).imp id (fun h => Nat.le_trans hb3.size h)⟩

/-- What the first k of four give. -/
def insTo (L : Pts) (k : Nat) (a b c d : Sq) (own r : R4) : List Int := match k with
  | 0 => [] | 1 => inSq L a (qtr own 0) r | 2 => inSq L a (qtr own 0) r ++ inSq L b (qtr own 1) r
  | 3 => inSq L a (qtr own 0) r ++ inSq L b (qtr own 1) r ++ inSq L c (qtr own 2) r
  | _ => inSq L a (qtr own 0) r ++ inSq L b (qtr own 1) r ++ inSq L c (qtr own 2) r ++ inSq L d (qtr own 3) r
theorem insTo_succ (L : Pts) {k : Nat} (hk : k < 4) (a b c d : Sq) (own r : R4) : insTo L (k + 1) a b c d own r = insTo L k a b c d own r ++ inSq L (sel k a b c d) (qtr own k) r := by
  have : k = 0 ∨ k = 1 ∨ k = 2 ∨ k = 3 := by omega
  rcases this with rfl | rfl | rfl | rfl <;> simp [insTo, sel]

theorem inSq_len (L : Pts) (r : R4) : ∀ (S : Sq) (own : R4), (inSq L S own r).length ≤ S.ids.length
  | .leaf v ids, own => by
    simp only [inSq, Sq.ids]
    split
    · simp
    · exact List.length_filter_le _ _
  | .node kb n a b c d, own => by
    have h1 := inSq_len L r a (qtr own 0)
    have h2 := inSq_len L r b (qtr own 1)
    have h3 := inSq_len L r c (qtr own 2)
    have h4 := inSq_len L r d (qtr own 3)
    simp only [inSq, Sq.ids]
    split
    · simp
    · simp only [List.length_append]; omega

theorem sel_blocks {k j kb n : Nat} {a b c d : Sq} (h : j ∈ (sel k a b c d).blocks) : j ∈ (Sq.node kb n a b c d).blocks := by
  simp only [Sq.blocks, List.mem_cons, List.mem_append]
  unfold sel at h
  split at h <;> simp [h]
theorem sel_ids {k : Nat} {id : Int} {kb n : Nat} {a b c d : Sq} (h : id ∈ (sel k a b c d).ids) : id ∈ (Sq.node kb n a b c d).ids := by
  simp only [Sq.ids, List.mem_append]
  unfold sel at h
  split at h <;> simp [h]
theorem sel_len {k kb n : Nat} {a b c d : Sq} : (sel k a b c d).ids.length ≤ (Sq.node kb n a b c d).ids.length := by
  simp only [Sq.ids, List.length_append]
  unfold sel
  split <;> omega
theorem sel_holds {w : World} {k kb n : Nat} {a b c d : Sq} (h : (Sq.node kb n a b c d).Holds w) : (sel k a b c d).Holds w := by
  obtain ⟨_, ha, hb, hc, hd⟩ := h
  unfold sel
  split <;> assumption

/-- What 'in' does at the square S, wherever it lies. -/
def InSpec (S : Sq) : Prop := ∀ (w : World) (bt bm bs os : Nat) (cs : Array Value) (T : TypeId) (L : Pts) (own r : R4) (vo : Value) (lo : List Int) (base : Nat),
    TCtx w bt bm L → w.heap[bs]? = some (.cells cs T (0, 0)) → SqIn cs os S → S.Holds w → own.sq →
    (∀ id ∈ S.ids, (Lit.int .i64 id).wf = true) → RowOf encI 1 3 w base vo lo → base ≤ w.heap.size → lo.length + S.ids.length ≤ 100000 →
    (∀ k, vo.ownBlock = some k → k ≠ bt ∧ k ≠ bm ∧ k ≠ bs ∧ k ∉ S.blocks) →
    Calls Try.prog 78 #[.pointer (some ⟨bt, 0, none⟩), vo, .pointer (some ⟨bs, os, none⟩), .agg #[.int .i64 own.x0, .int .i64 own.y0, .int .i64 own.x1, .int .i64 own.y1], .agg #[.int .i64 r.x0, .int .i64 r.y0, .int .i64 r.x1, .int .i64 r.y1]] w fun e w' =>
      ∃ v', e = .returned v' ∧ RowOf encI 1 3 w' base v' (lo ++ inSq L S own r) ∧ Chg (ownB vo) w w' ∧ ∀ k, v'.ownBlock = some k → vo.ownBlock = some k ∨ w.heap.size ≤ k

theorem boxes_two (w : World) (x y : Array Value) (w2 : World) (h2 : Below ((w.alloc (.cells x 33)).alloc (.cells y 33)).heap.size ((w.alloc (.cells x 33)).alloc (.cells y 33)) w2) :
    Below w.heap.size w w2 ∧ w.heap.size + 2 ≤ w2.heap.size ∧ w2.heap[w.heap.size]? = some (.cells x 33 (0, 0)) ∧ w2.heap[w.heap.size + 1]? = some (.cells y 33 (0, 0)) := by
  have h3 := h2.size
  simp only [World.size_alloc] at h3
  refine ⟨h2.via (by first | omega | (simp; done) | (simp; omega)) (((Below.refl _ w).alloc (Nat.le_refl _) _).alloc (by simp) _), by omega, ?_, ?_⟩
  · rw [h2.block _ (by simp; omega), Below.heap_alloc _ _ _ (by simp)]
    exact heap_alloc_new w _
  · rw [h2.block _ (by simp)]
    have := heap_alloc_new (w.alloc (.cells x 33)) (.cells y 33)
    simpa using this

set_option maxHeartbeats 2000000 in
set_option maxRecDepth 100000 in
theorem sq_in_node (kb n : Nat) (a b c d : Sq) (hk4 : ∀ k, k < 4 → InSpec (sel k a b c d)) : InSpec (.node kb n a b c d) := by
  intro w bt bm bs os cs T L own r vo lo base hctx hb hin hh hsq hwf hrow hbase hlen ho
  have k0 := cellAt hb hin.c0
  have k1 := cellAt hb hin.c1
  have k2 := cellAt hb hin.c2
  simp only [Sq.c0, Sq.c1, Sq.c2] at k0 k1 k2
  have hB := lt_of_block hb
  clear hb hin
  by_cases hn : n = 0
  · subst hn
    go_enter Try.func78, Try.ntmps78
    go_wp2_with fail
    go_ret
    exact ⟨_, rfl, by simpa [inSq] using hrow.below (by (repeat (first | exact Below.refl _ _ | assumption | refine Below.alloc ?_ (by first | omega | (simp; done) | (simp; omega)) _ | refine Below.setCell ?_ (by first | omega | (simp; done) | (simp; omega)) _ | refine Below.drew ?_ | refine Below.draws ?_ _ | refine Below.via (by assumption) (by first | omega | (simp; done) | (simp; omega)) ?_))), Chg.of_below (by (repeat (first | exact Below.refl _ _ | assumption | refine Below.alloc ?_ (by first | omega | (simp; done) | (simp; omega)) _ | refine Below.setCell ?_ (by first | omega | (simp; done) | (simp; omega)) _ | refine Below.drew ?_ | refine Below.draws ?_ _ | refine Below.via (by assumption) (by first | omega | (simp; done) | (simp; omega)) ?_))) _, fun k hk => .inl hk⟩
  · have hn' : ((n : Int) == 0) = false := by rw [beq_eq_false_iff_ne]; omega
    have hMeet := geom_Meet own r
    simp only [R4.val] at hMeet
    have hW := boxes_two w #[.int .i64 own.x0, .int .i64 own.y0, .int .i64 own.x1, .int .i64 own.y1] #[.int .i64 r.x0, .int .i64 r.y0, .int .i64 r.x1, .int .i64 r.y1]
    cases he : emptyB (meet own r)
    case true =>
      have hEm := geom_Empty (meet own r)
      rw [he] at hEm
      have hin : inSq L (.node kb n a b c d) own r = [] := by simp [inSq, he]
      rw [hin]
      clear hin he
      generalize meet own r = m at *
      go_enter Try.func78, Try.ntmps78
      go_wp2_with (first
        | (go_at_call 110; refine (hMeet _).mono ?_; rintro e w1 ⟨rfl, hb1⟩)
        | (go_at_call 109; refine (hEm _).mono ?_; rintro e w2 ⟨rfl, hb2⟩))
      go_ret
      have hb3 := (hW w2 (hb2.via hb1.size hb1)).1
      exact ⟨_, rfl, by simpa using hrow.below hb3, Chg.of_below hb3 _, fun k hk => .inl hk⟩
    case false =>
      have hEm := geom_Empty (meet own r)
      rw [he] at hEm
      have hin' : inSq L (.node kb n a b c d) own r = insTo L 4 a b c d own r := by simp only [inSq]; rw [if_neg (by simp [he]; exact hn)]; rfl
      rw [hin']
      clear hin' he
      generalize meet own r = m at *
      go_enter Try.func78, Try.ntmps78
      go_wp2_with (first
        | (go_at_call 110; refine (hMeet _).mono ?_; rintro e w1 ⟨rfl, hb1⟩)
        | (go_at_call 109; refine (hEm _).mono ?_; rintro e w2 ⟨rfl, hb2⟩; obtain ⟨hb3, hsz2, hr8, hr9⟩ := hW w2 (hb2.via hb1.size hb1); obtain ⟨hc3, hf3⟩ := bcell hb3))
      refine wp_loop_rounds 1 ?_
      rw [rounds_succ]
      go_wp2_with fail
      have hctx2 := hctx.below hb3
      have hh2 := hh.below hb3
      have hrow2 := hrow.below hb3
      go_loopw [1, 13] (fun t i wr => ∃ k : Nat, k ≤ 4 ∧ i = .int .i64 k ∧ RowOf encI 1 3 wr base t (lo ++ insTo L k a b c d own r) ∧ Chg (ownB vo) w2 wr ∧ ∀ j, t.ownBlock = some j → vo.ownBlock = some j ∨ w2.heap.size ≤ j)
        (fun _ i _ => 4 - (intOf i).toNat)
      case atStart => exact ⟨0, by omega, rfl, by simpa [insTo] using hrow2, Chg.refl _ _, fun j hj => .inl hj⟩
      case round =>
        obtain ⟨k, hk, rfl, hrowr, hchg, hown⟩ := hrel
        have k2r : wr.cell? ⟨bs, os + 2, none⟩ = some (.pointer (some ⟨kb, 0, none⟩)) := by
          rw [World.cell?_of_block (w := w2) (a := ⟨bs, os + 2, none⟩) (hchg.block bs (Nat.lt_of_lt_of_le hB hb3.size) (fun e => (ho _ e).2.2.1 rfl)), hc3 bs (os + 2) hB]
          exact k2
        by_cases hlt : k < 4
        · have hb8 := hchg.heap hr8 (fun e => by have := (hrow.lt _ e).2; omega)
          have hb9 := hchg.heap hr9 (fun e => by have := (hrow.lt _ e).2; omega)
          have q80 := cell_regrown (cellAt hb8 (o := 0) rfl)
          have q81 := cell_regrown (cellAt hb8 (o := 1) rfl)
          have q82 := cell_regrown (cellAt hb8 (o := 2) rfl)
          have q83 := cell_regrown (cellAt hb8 (o := 3) rfl)
          have q90 := cell_regrown (cellAt hb9 (o := 0) rfl)
          have q91 := cell_regrown (cellAt hb9 (o := 1) rfl)
          have q92 := cell_regrown (cellAt hb9 (o := 2) rfl)
          have q93 := cell_regrown (cellAt hb9 (o := 3) rfl)
          have qk := cell_regrown k2r
          have hQ := regrown_call (w := wr) (quad_quarter own k · hsq.ok hlt)
          simp only [R4.val] at hQ
          have hctxr : TCtx wr bt bm L := hctx2.chg hchg (fun e => (ho _ e).1 rfl) (fun e => (ho _ e).2.1 rfl)
          have hhr : (Sq.node kb n a b c d).Holds wr := hh2.frame fun j hj => hchg.block j (hh2.lt j hj) (fun e => (ho _ e).2.2.2 hj)
          have hsel := sel_in hlt a b c d
          have HI := Lib.hid (insTo_succ L hlt a b c d own r)
          have hlen1 : (lo ++ insTo L k a b c d own r).length + (sel k a b c d).ids.length ≤ 100000 := by
            have e1 := inSq_len L r a (qtr own 0)
            have e2 := inSq_len L r b (qtr own 1)
            have e3 := inSq_len L r c (qtr own 2)
            have e4 := inSq_len L r d (qtr own 3)
            simp only [Sq.ids, List.length_append] at hlen ⊢
            have : k = 0 ∨ k = 1 ∨ k = 2 ∨ k = 3 := by omega
            rcases this with rfl | rfl | rfl | rfl <;> simp only [insTo, sel, List.length_append, List.length_nil] <;> omega
          go_wp2_with fail
          (refine wp_region_below_tail 13 (by kernel_rfl) (by kernel_rfl) ?_; simp only [List.take_succ_cons, List.take_zero, List.drop_succ_cons, List.drop_zero]; (repeat (go_big_quiet_step (exact hQ _ _))); refine wpQuiet_nil ?_; intro wqA hwq; have hbqA := below_of_class hwq; clear hwq)
          have hw2A : w2.heap.size ≤ wqA.heap.size := Nat.le_trans hchg.size hbqA.size
          have hlt8 := hh2.lt
          have hcall := hk4 k hlt wqA bt bm kb (k * 3) (cells12 a b c d) 166 L (qtr own k) r u1 (lo ++ insTo L k a b c d own r) base (hctxr.below hbqA) ((hhr.below hbqA).1) hsel (sel_holds (hhr.below hbqA)) (hsq.qtr hlt)
            (fun id hid => hwf id (sel_ids hid)) (hrowr.below hbqA) (Nat.le_trans hbase (Nat.le_trans hb3.size hw2A)) hlen1 (fun j hj => by
              have hkb : kb ∈ (Sq.node kb n a b c d).blocks := by simp [Sq.blocks]
              rcases hown j hj with h | h
              · exact ⟨(ho j h).1, (ho j h).2.1, fun e => (ho j h).2.2.2 (e ▸ hkb), fun hm => (ho j h).2.2.2 (sel_blocks hm)⟩
              · have l1 := hctx2.lt
                have l2 := hctx2.im.lt
                have l3 := hlt8 kb hkb
                exact ⟨by omega, by omega, by omega, fun hm => by have := hlt8 j (sel_blocks hm); omega⟩)
          clear hQ qk q80 q81 q82 q83 q90 q91 q92 q93 hctxr hhr hlt8
          go_wp2_with (go_at_call 78; refine hcall.mono ?_; rintro e w4 ⟨v4, rfl, hr4, hc4, ho4⟩)
          go_roundw
          case rel =>
            refine ⟨k + 1, by omega, by go_num, by rw [HI.out, ← List.append_assoc]; exact hr4, ?_, fun j hj => ?_⟩
            · exact (hchg.andThen (Chg.of_below hbqA _) (fun i _ h => h)).andThen hc4 (fun i hi h => (hown i h).resolve_right (by omega))
            · rcases ho4 j hj with h | h
              · exact hown j h
              · exact .inr (by omega)
          case measure => simp [intOf]; omega
        · obtain rfl : k = 4 := by omega
          go_wp2_with fail
          go_ret
          exact ⟨_, rfl, hrowr, (Chg.of_below hb3 _).andThen hchg (fun i _ h => h), fun j hj => (hown j hj).imp id (fun h => Nat.le_trans hb3.size h)⟩

theorem sq_in : ∀ S : Sq, InSpec S
  | .leaf v ids => fun w bt bm bs os cs T L own r vo lo base h1 h2 h3 h4 _ h6 h7 h8 h9 h10 => sq_in_leaf v ids w bt bm bs os cs T L own r vo lo base h1 h2 h3 h4 h6 h7 h8 h9 h10
  | .node kb n a b c d => sq_in_node kb n a b c d fun k _ => by
    unfold sel
    split
    · exact sq_in a
    · exact sq_in b
    · exact sq_in c
    · exact sq_in d
end Go.Proofs.Ytggeehmcjndlgaa
