/-
  quad's 'add': one more in a square, and in those into which it is split.
-/
import Derived.Test.YtggeehmcjndlgaaSqRem2
import Derived.Deep.LoopGhost
namespace Go.Proofs.Ytggeehmcjndlgaa
open Go Go.RowKit Go.Sort Go.Shelf

theorem reads_one_at {α : Type} {enc : α → List Value} (w : World) (x : α) (t : TypeId) (C : Array Value) (b : Nat) (hC : C = (enc x).toArray) (hb : b = w.heap.size) : Reads enc (w.alloc (.cells C t)) (.slice (some ⟨b, 0, none⟩) 1 1) [x] := by
  subst hb
  exact reads_one w x t C hC

structure AddPre (w : World) (bt bm bs os : Nat) (cs : Array Value) (T : TypeId) (L : Pts) (f : Nat) (S : Sq) (r : R4) (id : Int) : Prop where
  ctx : TCtx w bt bm L
  hb : w.heap[bs]? = some (.cells cs T (0, 0))
  hin : SqIn cs os S
  hh : S.Holds w
  ok : S.Ok
  sq : r.sq
  wf : ∀ x ∈ S.ids, (Lit.int .i64 x).wf = true
  idwf : (Lit.int .i64 id).wf = true
  len : S.ids.length ≤ 500
  dep : S.dep ≤ f
  nd : S.blocks.Nodup
  bsn : bs ∉ S.blocks
  btn : bt ∉ S.blocks
  bmn : bm ∉ S.blocks
  bmbs : bm ≠ bs
  os1 : bs = bt → 1 ≤ os

/-- What 'add' leaves; B: blocks that it may change besides. -/
def AddRes (B : Nat → Prop) (w : World) (bs os : Nat) (cs : Array Value) (T : TypeId) (L : Pts) (f : Nat) (S : Sq) (r : R4) (id : Int) (w' : World) : Prop :=
  ∃ S' : Sq, w'.heap[bs]? = some (.cells (set3 cs os S') T (0, 0)) ∧ S'.Holds w' ∧ S'.Ok ∧ S'.pt = addPT L f r id S.pt ∧ S'.blocks.Nodup ∧
    (∀ k ∈ S'.blocks, k ∈ S.blocks ∨ w.heap.size ≤ k) ∧ Chg (fun k => k = bs ∨ k ∈ S.blocks ∨ B k) w w'

def AddSpec (f : Nat) : Prop := ∀ (w : World) (bt bm bs os : Nat) (cs : Array Value) (T : TypeId) (L : Pts) (S : Sq) (r : R4) (id : Int), AddPre w bt bm bs os cs T L f S r id → f ≤ 4 →
    Calls Try.prog 103 #[.pointer (some ⟨bt, 0, none⟩), .pointer (some ⟨bs, os, none⟩), .agg #[.int .i64 r.x0, .int .i64 r.y0, .int .i64 r.x1, .int .i64 r.y1], .int .i64 (4 - f), .int .i64 id] w fun e w' =>
      e = .returned (.tuple #[]) ∧ AddRes (fun _ => False) w bs os cs T L f S r id w'

theorem setKid_len_add {k : Nat} (hk : k < 4) (X : Sq) (kb n n' : Nat) (a b c d : Sq) (h : X.ids.length = (sel k a b c d).ids.length + 1) : (setKid k X kb n' a b c d).ids.length = (Sq.node kb n a b c d).ids.length + 1 := by
  have : k = 0 ∨ k = 1 ∨ k = 2 ∨ k = 3 := by omega
  rcases this with rfl | rfl | rfl | rfl <;> simp [setKid, Sq.ids, sel] at h ⊢ <;> omega

theorem add_node_pt {L : Pts} {a b c d X : Sq} {kb n n' : Nat} {r : R4} {id : Int} {g : Nat} (hX : X.pt = addPT L g (qtr r (whch r (atP L id).1 (atP L id).2)) id (sel (whch r (atP L id).1 (atP L id).2) a b c d).pt) :
    (setKid (whch r (atP L id).1 (atP L id).2) X kb n' a b c d).pt = addPT L (g + 1) r id (Sq.node kb n a b c d).pt := by
  rw [setKid_pt, hX]
  have hw := whch_lt r (atP L id).1 (atP L id).2
  simp only [Sq.pt, addPT, kidStep]
  generalize whch r (atP L id).1 (atP L id).2 = k at *
  have : k = 0 ∨ k = 1 ∨ k = 2 ∨ k = 3 := by omega
  rcases this with rfl | rfl | rfl | rfl <;> simp [sel]

/-- What holds at the head of add's loop: the rest of the way down, and what is to be shown at its end. -/
def AddInv (B7 : Nat) (Fin : World → Prop) (bt bm : Nat) (L : Pts) (id : Int) (f : Nat) (s d : Value) (wr : World) : Prop :=
  ∃ (S : Sq) (bs os : Nat) (cs : Array Value) (T : TypeId) (r : R4), s = .pointer (some ⟨bs, os, none⟩) ∧ d = .int .i64 (4 - f) ∧ f ≤ 4 ∧
    wr.heap[B7]? = some (.cells #[.int .i64 r.x0, .int .i64 r.y0, .int .i64 r.x1, .int .i64 r.y1] 33 (0, 0)) ∧ AddPre wr bt bm bs os cs T L f S r id ∧
    B7 ≠ bs ∧ B7 ∉ S.blocks ∧ B7 ≠ bm ∧ B7 ≠ bt ∧ ∀ w', AddRes (· = B7) wr bs os cs T L f S r id w' → Fin w'

theorem box4_store {w : World} {b : Nat} {a0 a1 a2 a3 : Value} {T : TypeId} (h : w.heap[b]? = some (.cells #[a0, a1, a2, a3] T (0, 0))) (x0 x1 x2 x3 : Value) :
    ((((w.setCell ⟨b, 0, none⟩ x0).setCell ⟨b, 1, none⟩ x1).setCell ⟨b, 2, none⟩ x2).setCell ⟨b, 3, none⟩ x3).heap[b]? = some (.cells #[x0, x1, x2, x3] T (0, 0)) ∧
      Chg (· = b) w ((((w.setCell ⟨b, 0, none⟩ x0).setCell ⟨b, 1, none⟩ x1).setCell ⟨b, 2, none⟩ x2).setCell ⟨b, 3, none⟩ x3) := by
  refine ⟨?_, (((Chg.setCell (· = b) _ _ _ (fun _ => rfl)).andThen (Chg.setCell (· = b) _ _ _ (fun _ => rfl)) (fun _ _ h => h)).andThen (Chg.setCell (· = b) _ _ _ (fun _ => rfl)) (fun _ _ h => h)).andThen (Chg.setCell (· = b) _ _ _ (fun _ => rfl)) (fun _ _ h => h)⟩
  rw [set_cell_block (set_cell_block (set_cell_block (set_cell_block h x0) x1) x2) x3]
  simp

theorem TCtx.store {w : World} {bt bm bs os : Nat} {cs : Array Value} {T : TypeId} {L : Pts} (h : TCtx w bt bm L) (hb : w.heap[bs]? = some (.cells cs T (0, 0))) (v : Value) (h1 : bm ≠ bs) (h2 : bs = bt → 1 ≤ os) : TCtx (w.setCell ⟨bs, os, none⟩ v) bt bm L := by
  refine ⟨?_, h.im.setCell h1 v⟩
  by_cases e : bt = bs
  · subst e
    have := h2 rfl
    rw [World.cell?_setCell_other _ _ _ _ (by intro e; injection e with _ e; omega)]
    exact h.tm
  · rw [World.cell?_of_block (w := w) (a := ⟨bt, 0, none⟩) (Below.heap_setCell _ _ _ _ e)]
    exact h.tm

theorem idle_add {ops : Array Oper} {o : Oper} {a : Act} (x y : Operand) (m n : Int) (h : o.op = .binOp .add 3 x y 3) (hx : a.eval x = .int .i64 m) (hy : a.eval y = .int .i64 n) (hlo : -9223372036854775808 ≤ m + n) (hhi : m + n ≤ 9223372036854775807)
    (hw : Region.wanted o (yielded ops a.tmps) = true) {Q : Act → Prop} {rest : List Oper} (hk : wpIdle Try.prog ops Q rest (a.put o.dst (.int .i64 (m + n)))) : wpIdle Try.prog ops Q (o :: rest) a := by
  refine idle_val _ hw (fun w => ?_) hk
  simp only [execOp, h]
  rw [hx, hy]
  have e : IntKind.i64.wrap (m + n) = m + n := IntWalk.i64_in _ ⟨hlo, hhi⟩
  simp [go_sem, e]

theorem RowOf.slice {α : Type} {enc : α → List Value} {k : Nat} {e : TypeId} {w : World} {base : Nat} {v : Value} {l : List α} (h : RowOf enc k e w base v l) : ∃ a m c, v = .slice a m c := by
  rcases h.form with ⟨h, _⟩ | ⟨g, cap, h, _⟩ <;> exact ⟨_, _, _, h⟩

theorem leaf_facts {W w3 : World} {o : Obj} {bs : Nat} {cs : Array Value} {T : TypeId} {row : Option Nat} (hb : W.heap[bs]? = some (.cells cs T (0, 0))) (hg : (W.alloc o).grownBy w3 row) (hr : row ≠ some bs) :
    (∀ i, w3.cell? ⟨bs, i, none⟩ = W.cell? ⟨bs, i, none⟩) ∧ (∀ i, w3.frozen? ⟨bs, i, none⟩ = false) ∧ (∀ o i, (w3.alloc o).frozen? ⟨bs, i, none⟩ = false) ∧ ∀ o i, (w3.alloc o).cell? ⟨bs, i, none⟩ = W.cell? ⟨bs, i, none⟩ := by
  have hl := lt_of_block hb
  have h := (hg.block bs (by simp; omega) (fun e => hr e.symm)).trans (Below.heap_alloc _ _ _ hl)
  have h3 := lt_of_block (h.trans hb)
  exact ⟨fun i => World.cell?_of_block h, fun i => freeAt (h.trans hb), fun o i => freeAt ((Below.heap_alloc _ _ _ h3).trans (h.trans hb)), fun o i => World.cell?_of_block ((Below.heap_alloc _ _ _ h3).trans h)⟩

theorem leaf_end {wr W : World} {bt bm bs os gk B7 : Nat} {cs : Array Value} {T : TypeId} {L : Pts} {v : Value} {ids : List Int} {r : R4} {id : Int} {Fin : World → Prop} (hp : AddPre wr bt bm bs os cs T L gk (.leaf v ids) r id) (hW : Chg (· = bs) wr W)
    (hbW : W.heap[bs]? = some (.cells (cs.setIfInBounds os (.int .i64 (ids.length + 1))) T (0, 0))) (hs : ¬ (4 ≤ ids.length ∧ 1 ≤ gk)) (hwand : ∀ w', AddRes (· = B7) wr bs os cs T L gk (.leaf v ids) r id w' → Fin w') :
    ∀ (o : Obj) (v3 : Value) (w3 : World), RowOf encI 1 3 w3 0 v3 (ids ++ [id]) → (W.alloc o).grownBy w3 v.ownBlock → (v3.ownBlock = v.ownBlock ∨ v3.ownBlock = some (W.alloc o).heap.size) → Fin (w3.setCell ⟨bs, os + 1, none⟩ v3) := by
  intro o v3 w3 hr3 hg3 hat3
  apply hwand
  have hbv : v.ownBlock ≠ some bs := fun e => hp.bsn (by simp [Sq.blocks, e])
  have hl := lt_of_block hbW
  have hb3 := (hg3.block bs (by simp; omega) (fun e => hbv e.symm)).trans ((Below.heap_alloc _ _ _ hl).trans hbW)
  have hsz := hW.size
  have hv3 : v3.ownBlock ≠ some bs := by
    rcases hat3 with h | h
    · rw [h]; exact hbv
    · rw [h]; simp; omega
  have hc3 : Chg (fun k => k = bs ∨ v.ownBlock = some k) wr w3 := ((hW.mono (fun j _ e => .inl e)).andThen (Chg.alloc _ _ o) (fun i _ h => h)).andThen (Chg.of_grown (S := fun k => v.ownBlock = some k) hg3 (fun k h => h)) (fun i _ h => .inr h)
  have hcW : Chg (· = bs) w3 (w3.setCell ⟨bs, os + 1, none⟩ v3) := Chg.setCell _ _ _ _ (fun _ => rfl)
  refine ⟨.leaf v3 (ids ++ [id]), ?_, RowOf.chg hr3 hcW (fun b hb e => hv3 (by rw [hb, e])), trivial, ?_, by simp only [Sq.blocks]; cases v3.ownBlock <;> simp, fun k hk => ?_, ?_⟩
  · rw [set_cell_block hb3, ← set3_of (S' := .leaf v3 (ids ++ [id])) hp.hin rfl]
    simp only [Sq.c0, Sq.c1, List.length_append, List.length_cons, List.length_nil]
    rfl
  · simp only [Sq.pt]
    cases gk with
    | zero => rfl
    | succ m => simp only [addPT]; rw [if_pos (by omega)]
  · simp only [Sq.blocks, Option.mem_toList] at hk ⊢
    rcases hat3 with h | h
    · rw [h] at hk; exact .inl hk
    · rw [h] at hk
      simp only [World.size_alloc, Option.some.injEq] at hk
      exact .inr (by omega)
  · refine (hc3.andThen hcW (fun i _ h => .inl h)).mono (fun k _ h => h.imp (fun h => h) (fun h => .inl ?_))
    simp only [Sq.blocks, Option.mem_toList]
    exact h

/-- While a square is split: what its four hold after j of the numbers. -/
structure SplitInv (w6 : World) (kb N : Nat) (L : Pts) (g : Nat) (r : R4) (lst : List Int) (j : Nat) (a b c d : Sq) (wl : World) : Prop where
  hh : (Sq.node kb N a b c d).Holds wl
  ok : a.Ok ∧ b.Ok ∧ c.Ok ∧ d.Ok
  pt : (Sq.node kb N a b c d).pt = (lst.take j).foldl (fun t x => kidStep L (addPT L g) r x t) emp4
  nd : (Sq.node kb N a b c d).blocks.Nodup
  new : ∀ k ∈ (Sq.node kb N a b c d).blocks, k = kb ∨ w6.heap.size ≤ k
  chg : Chg (· = kb) w6 wl

section
variable {w6 wl wB w' : World} {kb N g j k : Nat} {L : Pts} {r : R4} {lst : List Int} {a b c d : Sq} {x : Int}
theorem SplitInv.okn (h : SplitInv w6 kb N L g r lst j a b c d wl) : (Sq.node kb (a.ids ++ b.ids ++ c.ids ++ d.ids).length a b c d).Ok := ⟨rfl, h.ok⟩
theorem SplitInv.spec (h : SplitInv w6 kb N L g r lst j a b c d wl) : (Sq.node kb N a b c d).ids.Perm (lst.take j) ∧ (Sq.node kb N a b c d).dep ≤ g + 1 := by
  obtain ⟨h1, h2, _⟩ := kidFold_spec L g (addPT L g) (fun r x t h => addPT_spec L g r x t h) r (lst.take j) emp4 ⟨_, _, _, _, rfl⟩ (by simp [emp4, PT.dep])
  rw [← h.pt] at h1 h2
  rw [Sq.pt_ids] at h1
  rw [Sq.pt_dep] at h2
  exact ⟨by simpa [emp4, PT.ids] using h1, h2⟩

theorem sel_dep (hk : k < 4) (h : (Sq.node kb N a b c d).dep ≤ g + 1) : (sel k a b c d).dep ≤ g := by
  simp only [Sq.dep] at h
  have : k = 0 ∨ k = 1 ∨ k = 2 ∨ k = 3 := by omega
  rcases this with rfl | rfl | rfl | rfl <;> simp only [sel] <;> omega

theorem SplitInv.pre {bt bm : Nat} (h : SplitInv w6 kb N L g r lst j a b c d wl) (hB : Below wl.heap.size wl wB) (hctx : TCtx w6 bt bm L) (hk : k < 4) (hsq : r.sq) (hl : ∀ y ∈ lst, (Lit.int .i64 y).wf = true) (hx : lst[j]? = some x)
    (hlen : lst.length ≤ 501) (h1 : bt ≠ kb) (h2 : bm ≠ kb) : AddPre wB bt bm kb (k * 3) (cells12 a b c d) 166 L g (sel k a b c d) (qtr r k) x := by
  have hj : j < lst.length := by
    rcases Nat.lt_or_ge j lst.length with h | h
    · exact h
    · rw [List.getElem?_eq_none h] at hx; cases hx
  obtain ⟨hperm, hdep⟩ := h.spec
  have hhB := h.hh.below hB
  have hnew : ∀ i, i < w6.heap.size → i ≠ kb → i ∉ (Sq.node kb N a b c d).blocks := fun i hi hn hm => by
    rcases h.new i hm with e | e
    · exact hn e
    · omega
  have hpl := hperm.length_eq
  simp only [List.length_take] at hpl
  exact { ctx := (hctx.chg h.chg h1 h2).below hB, hb := hhB.1, hin := sel_in hk a b c d, hh := sel_holds hhB, ok := sel_ok h.okn, sq := hsq.qtr hk, wf := fun y hy => hl y (List.mem_of_mem_take (hperm.mem_iff.1 (sel_ids hy))), idwf := hl x (List.mem_of_getElem? hx), len := Nat.le_trans (sel_len (kb := kb) (n := N)) (by omega), dep := sel_dep hk hdep, nd := (sel_nodup hk h.nd).1, bsn := (sel_nodup hk h.nd).2, btn := fun hm => hnew bt hctx.lt h1 (sel_blocks hm), bmn := fun hm => hnew bm hctx.im.lt h2 (sel_blocks hm), bmbs := h2, os1 := fun e => absurd e.symm h1 }

theorem SplitInv.step (h : SplitInv w6 kb N L g r lst j a b c d wl) (hB : Below wl.heap.size wl wB) (hx : lst[j]? = some x) (hk : k = whch r (atP L x).1 (atP L x).2)
    (hR : AddRes (fun _ => False) wB kb (k * 3) (cells12 a b c d) 166 L g (sel k a b c d) (qtr r k) x w') : ∃ a b c d, SplitInv w6 kb N L g r lst (j + 1) a b c d w' := by
  obtain ⟨X, g1, g2, g3, g4, g5, g6, g7⟩ := hR
  have hlt : k < 4 := by rw [hk]; exact whch_lt _ _ _
  have hhB := h.hh.below hB
  obtain ⟨s1, s2, s3⟩ := kid_step (n' := N) (B7 := fun _ => False) (fun j e => e.elim) hlt hhB h.nd g2 g5 g6 g1 g7
  have hdep := sel_dep hlt h.spec.2
  have hadd := (addPT_spec L g (qtr r k) x (sel k a b c d).pt (by rw [Sq.pt_dep]; exact hdep)).1.length_eq
  rw [← g4, Sq.pt_ids, List.length_cons, Sq.pt_ids] at hadd
  have hlen := setKid_len_add hlt X kb (a.ids ++ b.ids ++ c.ids ++ d.ids).length ((a.ids ++ b.ids ++ c.ids ++ d.ids).length + 1) a b c d hadd
  have hok := setKid_ok hlt X kb (a.ids ++ b.ids ++ c.ids ++ d.ids).length ((a.ids ++ b.ids ++ c.ids ++ d.ids).length + 1) a b c d h.okn g3 (by rw [hlen]; simp [Sq.ids])
  have hs := h.chg.size
  have hs2 := hB.size
  have hcB := h.chg.andThen (Chg.of_below hB (· = kb)) (fun i _ h => h)
  refine ⟨_, _, _, _, s1, hok.2, ?_, s2, fun i hi => ?_, hcB.andThen g7 (fun i hi e => ?_)⟩
  · rw [hk] at g4
    have := add_node_pt (kb := kb) (n := N) (n' := N) g4
    rw [← hk] at this
    refine this.trans ?_
    rw [h.pt, List.take_add_one, hx]
    simp only [Option.toList_some, List.foldl_append, List.foldl_cons, List.foldl_nil]
    obtain ⟨a', b', c', d', e⟩ := (kidFold_spec L g (addPT L g) (fun r x t h => addPT_spec L g r x t h) r (lst.take j) emp4 ⟨_, _, _, _, rfl⟩ (by simp [emp4, PT.dep])).2.2
    rw [e]
    rfl
  · rcases s3 i hi with e | e
    · exact h.new i e
    · exact .inr (by omega)
  · rcases e with e | e | e
    · exact e
    · rcases h.new i (sel_blocks e) with e | e
      · exact e
      · omega
    · exact e.elim
end

def e0 : Sq := .leaf (.slice none 0 0) []

theorem RowOf.slicel {α : Type} {enc : α → List Value} {k : Nat} {e : TypeId} {w : World} {base : Nat} {v : Value} {l : List α} (h : RowOf enc k e w base v l) (hl : l ≠ []) : ∃ g c, v = .slice (some ⟨g, 0, none⟩) l.length c := by
  rcases h.form with ⟨_, h⟩ | ⟨g, cap, h, _⟩
  · exact absurd h hl
  · exact ⟨_, _, h⟩

theorem split_start {wr W w3 W6 : World} {bt bm bs os gk g : Nat} {cs : Array Value} {T : TypeId} {L : Pts} {v v3 : Value} {ids : List Int} {r : R4} {id : Int} {o : Obj} (hp : AddPre wr bt bm bs os cs T L gk (.leaf v ids) r id) (hW : Chg (· = bs) wr W)
    (hbW : W.heap[bs]? = some (.cells (cs.setIfInBounds os (.int .i64 (ids.length + 1))) T (0, 0))) (hr3 : RowOf encI 1 3 w3 0 v3 (ids ++ [id])) (hg3 : (W.alloc o).grownBy w3 v.ownBlock) (hat3 : v3.ownBlock = v.ownBlock ∨ v3.ownBlock = some (W.alloc o).heap.size)
    (hW6 : W6 = ((w3.alloc (.cells (cells12 e0 e0 e0 e0) 166 (0, 0))).setCell ⟨bs, os + 1, none⟩ (.slice none 0 0)).setCell ⟨bs, os + 2, none⟩ (.pointer (some ⟨w3.heap.size, 0, none⟩))) :
    W6.heap[bs]? = some (.cells (set3 cs os (.node w3.heap.size (ids.length + 1) e0 e0 e0 e0)) T (0, 0)) ∧ RowOf encI 1 3 W6 0 v3 (ids ++ [id]) ∧ TCtx W6 bt bm L ∧ Chg (fun k => k = bs ∨ v.ownBlock = some k) wr W6 ∧
      SplitInv W6 w3.heap.size (ids.length + 1) L g r (ids ++ [id]) 0 e0 e0 e0 e0 W6 ∧ wr.heap.size ≤ w3.heap.size ∧ W6.heap.size = w3.heap.size + 1 := by
  have hbv : v.ownBlock ≠ some bs := fun e => hp.bsn (by simp [Sq.blocks, e])
  have hl := lt_of_block hbW
  have hb3 := (hg3.block bs (by simp; omega) (fun e => hbv e.symm)).trans ((Below.heap_alloc _ _ _ hl).trans hbW)
  have hl3 := lt_of_block hb3
  have hsz := hW.size
  have hsg := hg3.size
  simp only [World.size_alloc] at hsg
  have hv3 : v3.ownBlock ≠ some bs := by
    rcases hat3 with h | h
    · rw [h]; exact hbv
    · rw [h]; simp; omega
  have hb4 := (Below.heap_alloc w3 (.cells (cells12 e0 e0 e0 e0) 166 (0, 0)) bs hl3).trans hb3
  have hb6 := set_cell_block (set_cell_block hb4 (o := os + 1) (.slice none 0 0)) (o := os + 2) (.pointer (some ⟨w3.heap.size, 0, none⟩))
  rw [← hW6] at hb6
  have hz := heap_alloc_new w3 (.cells (cells12 e0 e0 e0 e0) 166 (0, 0))
  have hcS : Chg (· = bs) (w3.alloc (.cells (cells12 e0 e0 e0 e0) 166 (0, 0))) W6 := by
    rw [hW6]
    exact (Chg.setCell (· = bs) _ _ _ (fun _ => rfl)).andThen (Chg.setCell (· = bs) _ _ _ (fun _ => rfl)) (fun _ _ h => h)
  have hz6 := hcS.heap hz (by omega)
  have hc36 : Chg (· = bs) w3 W6 := (Chg.alloc _ _ _).andThen hcS (fun _ _ h => h)
  have hc3 : Chg (fun k => k = bs ∨ v.ownBlock = some k) wr w3 := ((hW.mono (fun j _ e => .inl e)).andThen (Chg.alloc _ _ o) (fun i _ h => h)).andThen (Chg.of_grown (S := fun k => v.ownBlock = some k) hg3 (fun k h => h)) (fun i _ h => .inr h)
  have hc6 : Chg (fun k => k = bs ∨ v.ownBlock = some k) wr W6 := hc3.andThen hc36 (fun _ _ h => .inl h)
  have hs6 : W6.heap.size = w3.heap.size + 1 := by rw [hW6]; simp
  have hmv : v.ownBlock ≠ some bm := fun e => hp.bmn (by simp [Sq.blocks, e])
  have htv : v.ownBlock ≠ some bt := fun e => hp.btn (by simp [Sq.blocks, e])
  refine ⟨?_, RowOf.chg hr3 hc36 (fun b hb e => hv3 (by rw [hb, e])), ?_, hc6, ⟨⟨hz6, RowOf.nil _ _ _, RowOf.nil _ _ _, RowOf.nil _ _ _, RowOf.nil _ _ _⟩, ⟨trivial, trivial, trivial, trivial⟩, rfl, by simp [Sq.blocks, e0, Value.ownBlock], fun k hk => .inl (by simpa [Sq.blocks, e0, Value.ownBlock] using hk), Chg.refl _ _⟩, by omega, hs6⟩
  · rw [hb6]
    rfl
  · refine ⟨?_, hp.ctx.im.chg hc6 (fun e => e.elim hp.bmbs hmv)⟩
    by_cases e : bt = bs
    · subst e
      have h1 := hp.os1 rfl
      have h2 : cs[0]? = some (.map (some bm)) := by
        have h3 := hp.ctx.tm
        simpa [World.cell?, hp.hb] using h3
      refine cellAt hb6 ?_
      rw [Array.getElem?_setIfInBounds_ne (by omega), Array.getElem?_setIfInBounds_ne (by omega), Array.getElem?_setIfInBounds_ne (by omega)]
      exact h2
    · rw [World.cell?_of_block (w := wr) (a := ⟨bt, 0, none⟩) (hc6.block bt hp.ctx.lt (fun h => h.elim e htv))]
      exact hp.ctx.tm

theorem split_end {wr w3 W6 wl : World} {bt bm bs os gk : Nat} {cs : Array Value} {T : TypeId} {L : Pts} {v : Value} {ids : List Int} {r : R4} {id : Int} {a b c d : Sq} {B : Nat → Prop} (hp : AddPre wr bt bm bs os cs T L gk (.leaf v ids) r id)
    (h1 : W6.heap[bs]? = some (.cells (set3 cs os (.node w3.heap.size (ids.length + 1) e0 e0 e0 e0)) T (0, 0))) (h4 : Chg (fun k => k = bs ∨ v.ownBlock = some k) wr W6) (h5 : wr.heap.size ≤ w3.heap.size) (h6 : W6.heap.size = w3.heap.size + 1)
    (hl4 : 4 ≤ ids.length) (hg1 : 1 ≤ gk) (hS : SplitInv W6 w3.heap.size (ids.length + 1) L (gk - 1) r (ids ++ [id]) (ids.length + 1) a b c d wl) : AddRes B wr bs os cs T L gk (.leaf v ids) r id wl := by
  have hbs := lt_of_block hp.hb
  have htk : (ids ++ [id]).take (ids.length + 1) = ids ++ [id] := List.take_of_length_le (by simp)
  refine ⟨.node w3.heap.size (ids.length + 1) a b c d, ?_, hS.hh, ⟨?_, hS.ok⟩, ?_, hS.nd, fun k hk => .inr ?_, (h4.andThen hS.chg (fun k hk e => by omega)).mono (fun k _ h => h.imp (fun h => h) (fun h => .inl (by simp [Sq.blocks, h])))⟩
  · rw [hS.chg.heap h1 (by omega)]
    rfl
  · have := hS.spec.1.length_eq
    rw [htk] at this
    simpa [Sq.ids] using this.symm
  · rw [hS.pt, htk]
    obtain ⟨g, rfl⟩ : ∃ g, gk = g + 1 := ⟨gk - 1, by omega⟩
    simp only [Sq.pt, addPT]
    rw [if_neg (by omega)]
    rfl
  · rcases hS.new k hk with e | e <;> omega

set_option maxHeartbeats 4000000 in
set_option maxRecDepth 100000 in
theorem sq_add (f : Nat) (ihf : ∀ g, g < f → AddSpec g) : AddSpec f := by
  intro w bt bm bs os cs T L S r id hp hf4
  obtain ⟨W, hWd⟩ : ∃ W, W = w.alloc (.cells #[.int .i64 r.x0, .int .i64 r.y0, .int .i64 r.x1, .int .i64 r.y1] 33) := ⟨_, rfl⟩
  have hW : Below w.heap.size w W := by rw [hWd]; exact (Below.refl _ w).alloc (Nat.le_refl _) _
  have hWs : W.heap.size = w.heap.size + 1 := by rw [hWd]; simp
  have hbox : W.heap[w.heap.size]? = some (.cells #[.int .i64 r.x0, .int .i64 r.y0, .int .i64 r.x1, .int .i64 r.y1] 33 (0, 0)) := by rw [hWd]; exact heap_alloc_new _ _
  have hst : AddInv w.heap.size (AddRes (fun _ => False) w bs os cs T L f S r id) bt bm L id f (.pointer (some ⟨bs, os, none⟩)) (.int .i64 (4 - f)) W := by
    have l1 := lt_of_block hp.hb
    have l2 := hp.ctx.lt
    have l3 := hp.ctx.im.lt
    refine ⟨S, bs, os, cs, T, r, rfl, rfl, hf4, hbox, { hp with ctx := hp.ctx.below hW, hb := (hW.block bs l1).trans hp.hb, hh := hp.hh.below hW }, by omega, fun h => by have := hp.hh.lt _ h; omega, by omega, by omega, ?_⟩
    rintro w' ⟨S', g1, g2, g3, g4, g5, g6, g7⟩
    refine ⟨S', g1, g2, g3, g4, g5, fun k hk => (g6 k hk).imp (fun h => h) (fun h => by omega), (Chg.of_below hW _).andThen (g7.mono (T := fun k => k = bs ∨ k ∈ S.blocks ∨ w.heap.size ≤ k) (fun k _ h => h.imp (fun h => h) (fun h => h.imp (fun h => h) (fun h => by omega)))) (fun k hk h => ?_)⟩
    rcases h with h | h | h
    · exact .inl h
    · exact .inr (.inl h)
    · omega
  generalize hFin : AddRes (fun _ => False) w bs os cs T L f S r id = Fin at hst ⊢
  clear hp hFin hW hbox
  go_enter Try.func103, Try.ntmps103
  go_wp2_with fail
  rw [← hWd]
  clear hWd hWs
  go_step3
  go_wp2_with fail
  go_step3
  go_wp2_with fail
  go_loopg [1, 3] f (fun g s d wr => AddInv w.heap.size Fin bt bm L id g s d wr ∧ g ≤ f)
  case atStart => exact ⟨hst, Nat.le_refl _⟩
  case round =>
    obtain ⟨⟨S, bs, os, cs, T, r, rfl, rfl, hg4, hbox, hp, n1, n2, n3, n4, hwand⟩, hgf⟩ := hrel
    have HWand := Lib.hid hwand
    clear hwand hst
    have hb := hp.hb
    have k0 := cellAt hb hp.hin.c0
    have k1 := cellAt hb hp.hin.c1
    have k2 := cellAt hb hp.hin.c2
    have f0 : wr.frozen? ⟨bs, os, none⟩ = false := freeAt hb
    have f1 : wr.frozen? ⟨bs, os + 1, none⟩ = false := freeAt hb
    have f2 : wr.frozen? ⟨bs, os + 2, none⟩ = false := freeAt hb
    have hidwf := hp.idwf
    cases S with
    | leaf v ids =>
      simp only [Sq.c0, Sq.c1, Sq.c2] at k0 k1 k2
      have hl500 : ids.length ≤ 500 := hp.len
      have hbv : ∀ j, v.ownBlock = some j → j ≠ bs := fun j hj e => hp.bsn (by simp [Sq.blocks, ← e, hj])
      obtain ⟨W, hWd⟩ : ∃ W, W = wr.setCell ⟨bs, os, none⟩ (.int .i64 (ids.length + 1)) := ⟨_, rfl⟩
      have hW : Chg (· = bs) wr W := by rw [hWd]; exact Chg.setCell _ _ _ _ (fun _ => rfl)
      have hbW := set_cell_block hb (o := os) (.int .i64 (ids.length + 1))
      rw [← hWd] at hbW
      have hrowW : RowOf encI 1 3 W 0 v ids := RowOf.chg hp.hh hW hbv
      have hlen1 : ids.length + [id].length ≤ 1000000 := by simp; omega
      have hgb : v.ownBlock ≠ some bs := fun e => hbv _ e rfl
      by_cases hsplit : 4 ≤ ids.length ∧ 1 ≤ gk
      · have HP := Lib.hid hp
        clear hp
        subst hWd
        obtain ⟨h4, hg1⟩ := hsplit
        have e1 : ((4 : Int) - gk == 4) = false := by simp; omega
        have e2 : ¬ ((4 : Int) - gk = 4) := by omega
        have e3 : ¬ ((gk : Int) = 0) := by omega
        have e4 : ¬ (gk = 0) := by omega
        go_wp2_with (at_builtin; refine wpl_append_ints rfl _ _ rfl 0 v ids rfl (hrowW.alloc _) _ _ rfl (reads_one_at (enc := encI) _ id _ _ _ rfl (World.size_setCell _ _ _).symm) hlen1 (Nat.zero_le _) ?_; intro v3 w3 hr3 hg3 _ hat3; obtain ⟨a3, m3, c3, hv3⟩ := hr3.slice; obtain ⟨hc13, hf13, hfa3, hca3⟩ := leaf_facts hbW hg3 hgb)
        have hslice := hr3.slicel (by simp)
        obtain ⟨g3, cc3, hv3'⟩ := hslice
        obtain ⟨W6, hW6⟩ : ∃ W, W = ((w3.alloc (.cells (cells12 e0 e0 e0 e0) 166 (0, 0))).setCell ⟨bs, os + 1, none⟩ (.slice none 0 0)).setCell ⟨bs, os + 2, none⟩ (.pointer (some ⟨w3.heap.size, 0, none⟩)) := ⟨_, rfl⟩
        obtain ⟨s1, s2, s3, s4, s5, s6, s7⟩ := split_start (g := gk - 1) HP.out hW hbW hr3 hg3 hat3 hW6
        have hbox6 := s4.heap hbox (fun e => e.elim n1 (fun e => n2 (by simp [Sq.blocks, e])))
        have kb0 : bs ≠ w3.heap.size := by have := lt_of_block hb; omega
        have kb1 : w.heap.size ≠ w3.heap.size := by have := lt_of_block hbox; omega
        have kb2 : bt ≠ w3.heap.size := by have := HP.out.ctx.lt; omega
        have kb3 : bm ≠ w3.heap.size := by have := HP.out.ctx.im.lt; omega
        have hg3' : g3 ≠ w3.heap.size := by
          have := (hr3.lt g3 (by rw [hv3']; rfl)).2
          omega
        have hkids6 := cellAt s1 (o := os + 2) (v := .pointer (some ⟨w3.heap.size, 0, none⟩)) (by
          have := (Array.getElem?_eq_some_iff.1 HP.out.hin.c2).1
          simp [set3, Sq.c2, this])
        have hrow := Lib.hid s2
        clear hc13 hf13 hfa3 hca3 s2 hr3 hg3 hat3 hW hbW hrowW hb
        rw [hv3'] at hv3
        injection hv3 with hv31 hv32 hv33
        subst hv31 hv32 hv33
        rw [hv3'] at hrow
        clear hv3'
        show Code.wp _ _ _ _ (((w3.alloc (.cells (cells12 e0 e0 e0 e0) 166 (0, 0))).setCell ⟨bs, os + 1, none⟩ (.slice none 0 0)).setCell ⟨bs, os + 2, none⟩ (.pointer (some ⟨w3.heap.size, 0, none⟩)))
        rw [← hW6]
        clear hW6
        have HAW := Lib.hid ihf
        clear ihf
        have hlw : ∀ y ∈ ids ++ [id], (Lit.int .i64 y).wf = true := fun y hy => by
          rcases List.mem_append.1 hy with h | h
          · exact HP.out.wf y h
          · rw [List.mem_singleton.1 h]; exact hidwf
        have HLW := Lib.hid hlw
        clear hlw
        have hbN : ids.length + 1 = (ids ++ [id]).length := by simp
        have HSE := Lib.hid (fun (wl : World) (a b c d : Sq) => split_end (B := (· = w.heap.size)) (wl := wl) (a := a) (b := b) (c := c) (d := d) HP.out s1 s4 s6 s7 h4 hg1)
        have HS5 := Lib.hid s5
        clear s5 s4
        generalize hlst : ids ++ [id] = lst at *
        clear hlst
        go_loopw [13, 14, 85] (fun _ _ i wl => ∃ (j : Nat) (a b c d : Sq), j ≤ lst.length ∧ i = .int .i64 j ∧ SplitInv W6 w3.heap.size (ids.length + 1) L (gk - 1) r lst j a b c d wl)
          (fun _ _ i _ => lst.length - (intOf i).toNat)
        case atStart => exact ⟨0, e0, e0, e0, e0, Nat.zero_le _, rfl, HS5.out⟩
        case round =>
          obtain ⟨j, a, b, c, d, hj, rfl, hS⟩ := hrel
          rcases Nat.lt_or_ge j lst.length with hlt | hge
          · have hcur : lst[j]? = some lst[j] := List.getElem?_eq_getElem hlt
            generalize lst[j] = x at hcur
            have hwfx : (Lit.int .i64 x).wf = true := HLW.out x (List.mem_of_getElem? hcur)
            obtain ⟨k, hkd⟩ : ∃ k, k = whch r (atP L x).1 (atP L x).2 := ⟨_, rfl⟩
            have hk4 : k < 4 := by rw [hkd]; exact whch_lt _ _ _
            have hcell : wr.cell? ⟨g3, j, none⟩ = some (.int .i64 x) := by
              have h1 := ((RowOf.chg hrow.out hS.chg (fun b hb e => hg3' (by cases hb; exact e))).reads).cell (k := 1) (fun _ => rfl) rfl hcur
              obtain ⟨b, off, hbo, hc⟩ := h1
              cases hbo
              simpa using hc 0 _ rfl
            have hctx := s3.chg hS.chg kb2 kb3
            have hboxr := hS.chg.heap hbox6 kb1
            have kk := (World.cell?_of_block (w := W6) (a := ⟨bs, os + 2, none⟩) (hS.chg.block bs (lt_of_block s1) kb0)).trans hkids6
            have hwh := regrown_call (w := wr) (quad_which r (atP L x).1 (atP L x).2 · HP.out.sq.ok)
            rw [← hkd] at hwh
            have HK := Lib.hid hkd
            have HS := Lib.hid hS
            have HCUR := Lib.hid hcur
            clear hkd hS hcur
            have q0 := cell_regrown (cellAt hboxr (o := 0) rfl)
            have q1 := cell_regrown (cellAt hboxr (o := 1) rfl)
            have q2 := cell_regrown (cellAt hboxr (o := 2) rfl)
            have q3 := cell_regrown (cellAt hboxr (o := 3) rfl)
            have qt := cell_regrown hctx.tm
            have ql : ∀ d os, (Instr.lookup 104 (.map (some bm)) (.int .i64 x) false).run Try.prog (grow (redrawn wr d) os) = .ok (.agg #[.int .i64 (atP L x).1, .int .i64 (atP L x).2]) (grow (redrawn wr d) os) := fun d os => (hctx.below (below_regrown wr d os)).look hwfx
            go_wp2_with fail
            (refine wp_region_quiet_below (by kernel_rfl) (by kernel_rfl) ?_; (repeat (go_big_quiet_step (exact hwh _ _))); refine wpQuiet_nil ?_; intro wqA hwq; have hbqA := below_of_class hwq; clear hwq)
            clear hwh q0 q1 q2 q3 qt ql
            have hQ := regrown_call (w := wqA) (quad_quarter r k · HP.out.sq.ok hk4)
            simp only [R4.val] at hQ
            have hboxA := (hbqA.block _ (lt_of_block hboxr)).trans hboxr
            have q0 := cell_regrown (cellAt hboxA (o := 0) rfl)
            have q1 := cell_regrown (cellAt hboxA (o := 1) rfl)
            have q2 := cell_regrown (cellAt hboxA (o := 2) rfl)
            have q3 := cell_regrown (cellAt hboxA (o := 3) rfl)
            have qk := cell_regrown ((World.cell?_of_block (w := wr) (a := ⟨bs, os + 2, none⟩) (hbqA.block bs (World.block_lt_of_cell? wr _ kk))).trans kk)
            go_wp2_with fail
            (refine wp_region_below_tail 14 (by kernel_rfl) (by kernel_rfl) ?_; simp only [List.take_succ_cons, List.take_zero, List.drop_succ_cons, List.drop_zero]; (repeat (go_big_quiet_step (exact hQ _ _))); refine wpQuiet_nil ?_; intro wqB hwq; have hbqB := below_of_class hwq; clear hwq)
            have hAB : Below wr.heap.size wr wqB := ((Chg.of_below hbqA (fun _ => False)).andThen (Chg.of_below hbqB (fun _ => False)) (fun _ _ h => h)).below (Nat.le_refl _) (fun _ _ h => h)
            have hpre := HS.out.pre hAB s3 hk4 HP.out.sq HLW.out HCUR.out (by omega) kb2 kb3
            have hcall := HAW.out (gk - 1) (by omega) _ _ _ _ _ _ _ _ _ _ _ hpre (by omega)
            rw [show (4 : Int) - ((gk - 1 : Nat) : Int) = 4 - gk + 1 by omega] at hcall
            have HC := Lib.hid hcall
            clear hcall hpre hQ q0 q1 q2 q3 qk
            go_wp2_with fail
            refine Calls.mono HC.out ?_
            rintro e w5 ⟨rfl, hres⟩
            obtain ⟨a', b', c', d', hS'⟩ := HS.out.step hAB HCUR.out HK.out hres
            clear HC
            go_wp2_with fail
            go_roundw
            case rel => exact ⟨j + 1, a', b', c', d', by omega, by go_num, hS'⟩
            case measure => simp [intOf]; omega
          · have hje : j = lst.length := by omega
            subst hje
            have hfin := HWand.out _ (HSE.out _ a b c d (by rw [← hbN] at hS; exact hS))
            go_wp2_with fail
            (try simp only [Exit.noGoto])
            go_end0
            exact ⟨rfl, hfin⟩
      · have hend := leaf_end (v := v) (id := id) hp hW hbW hsplit HWand.out
        have HE := Lib.hid hend
        have HP := Lib.hid hp
        clear hp hend
        rcases Nat.lt_or_ge ids.length 4 with h4 | h4
        · subst hWd
          go_wp2_with (at_builtin; refine wpl_append_ints rfl _ _ rfl 0 v ids rfl (hrowW.alloc _) _ _ rfl (reads_one_at (enc := encI) _ id _ _ _ rfl (World.size_setCell _ _ _).symm) hlen1 (Nat.zero_le _) ?_; intro v3 w3 hr3 hg3 _ hat3; obtain ⟨a3, m3, c3, hv3⟩ := hr3.slice; subst hv3; obtain ⟨hc13, hf13, hfa3, hca3⟩ := leaf_facts hbW hg3 hgb)
          go_end0
          exact ⟨rfl, HE.out _ _ _ hr3 hg3 hat3⟩
        · have hg0 : gk = 0 := by omega
          subst hWd
          subst hg0
          go_wp2_with (at_builtin; refine wpl_append_ints rfl _ _ rfl 0 v ids rfl (hrowW.alloc _) _ _ rfl (reads_one_at (enc := encI) _ id _ _ _ rfl (World.size_setCell _ _ _).symm) hlen1 (Nat.zero_le _) ?_; intro v3 w3 hr3 hg3 _ hat3; obtain ⟨a3, m3, c3, hv3⟩ := hr3.slice; subst hv3; obtain ⟨hc13, hf13, hfa3, hca3⟩ := leaf_facts hbW hg3 hgb)
          (try simp only [Exit.noGoto])
          go_end0
          exact ⟨rfl, HE.out _ _ _ hr3 hg3 hat3⟩
    | node kb n a b c d =>
      simp only [Sq.c0, Sq.c1, Sq.c2] at k0 k1 k2
      have hn500 : n ≤ 500 := by have e1 := hp.ok.1; have e2 := hp.len; simp only [Sq.ids] at e2; omega
      obtain ⟨W, hWd⟩ : ∃ W, W = wr.setCell ⟨bs, os, none⟩ (.int .i64 (n + 1)) := ⟨_, rfl⟩
      have hW : Chg (· = bs) wr W := by rw [hWd]; exact Chg.setCell _ _ _ _ (fun _ => rfl)
      have hbW := set_cell_block hb (o := os) (.int .i64 (n + 1))
      have hctxW := hp.ctx.store hb (.int .i64 (n + 1)) hp.bmbs hp.os1
      rw [← hWd] at hbW hctxW
      have hboxW := hW.heap hbox n1
      have hhW : (Sq.node kb n a b c d).Holds W := hp.hh.frame fun k hk => hW.block k (hp.hh.lt k hk) (fun e => hp.bsn (e ▸ hk))
      obtain ⟨k, hkd⟩ : ∃ k, k = whch r (atP L id).1 (atP L id).2 := ⟨_, rfl⟩
      have hlt : k < 4 := by rw [hkd]; exact whch_lt _ _ _
      have hwh := regrown_call (w := W) (quad_which r (atP L id).1 (atP L id).2 · hp.sq.ok)
      rw [← hkd] at hwh
      have HK := Lib.hid hkd
      clear hkd
      have q0 := cell_regrown (cellAt hboxW (o := 0) rfl)
      have q1 := cell_regrown (cellAt hboxW (o := 1) rfl)
      have q2 := cell_regrown (cellAt hboxW (o := 2) rfl)
      have q3 := cell_regrown (cellAt hboxW (o := 3) rfl)
      have qt := cell_regrown hctxW.tm
      have ql : ∀ d os, (Instr.lookup 104 (.map (some bm)) (.int .i64 id) false).run Try.prog (grow (redrawn W d) os) = .ok (.agg #[.int .i64 (atP L id).1, .int .i64 (atP L id).2]) (grow (redrawn W d) os) := fun d os => (hctxW.below (below_regrown W d os)).look hidwf
      have HP := Lib.hid hp
      clear hp
      go_wp2_with fail
      rw [← hWd]
      have HW := Lib.hid hWd
      clear hWd
      (refine wp_region_quiet_below (by kernel_rfl) (by kernel_rfl) ?_; (repeat (go_big_quiet_step (exact hwh _ _))); refine wpQuiet_nil ?_; intro wqA hwq; have hbqA := below_of_class hwq; clear hwq)
      clear hwh q0 q1 q2 q3 qt ql
      have hbA := (hbqA.block bs (lt_of_block hbW)).trans hbW
      have kA2 : wqA.cell? ⟨bs, os + 2, none⟩ = some (.pointer (some ⟨kb, 0, none⟩)) := cellAt hbA (by rw [Array.getElem?_setIfInBounds_ne (by omega)]; exact HP.out.hin.c2)
      have hQ := regrown_call (w := wqA) (quad_quarter r k · HP.out.sq.ok hlt)
      simp only [R4.val] at hQ
      have hboxA := (hbqA.block _ (lt_of_block hboxW)).trans hboxW
      have q0 := cell_regrown (cellAt hboxA (o := 0) rfl)
      have q1 := cell_regrown (cellAt hboxA (o := 1) rfl)
      have q2 := cell_regrown (cellAt hboxA (o := 2) rfl)
      have q3 := cell_regrown (cellAt hboxA (o := 3) rfl)
      have qk := cell_regrown kA2
      go_wp2_with fail
      refine wp_region_below_split 10 12 (by kernel_rfl) (by kernel_rfl) (fun c a d v w h => by cases d <;> exact h) ?_
      simp only [List.take_succ_cons, List.take_zero, List.drop_succ_cons, List.drop_zero]
      refine idle_move _ rfl rfl ?_
      simp only [Act.put, Act.eval, List.setIfInBounds_toArray, List.set_cons_succ, List.set_cons_zero]
      refine idle_add _ _ (4 - gk) 1 rfl rfl rfl (by omega) (by omega) rfl ?_
      simp only [wpIdle, Act.put, List.setIfInBounds_toArray, List.set_cons_succ, List.set_cons_zero]
      (repeat (go_big_quiet_step (exact hQ _ _)))
      refine wpQuiet_nil ?_
      intro wqB hwq
      have hbqB := below_of_class hwq
      clear hwq
      clear hQ q0 q1 q2 q3 qk
      have hboxB := (hbqB.block _ (lt_of_block hboxA)).trans hboxA
      have b0 := cellAt hboxB (o := 0) rfl
      have b1 := cellAt hboxB (o := 1) rfl
      have b2 := cellAt hboxB (o := 2) rfl
      have b3 := cellAt hboxB (o := 3) rfl
      have bf := fun o => freeAt (o := o) hboxB
      go_wp2_with fail
      have hp := HP.out
      have hdep := hp.dep
      simp only [Sq.dep] at hdep
      obtain ⟨hb5, hc5⟩ := box4_store hboxB (.int .i64 (qtr r k).x0) (.int .i64 (qtr r k).y0) (.int .i64 (qtr r k).x1) (.int .i64 (qtr r k).y1)
      have hcB : Chg (· = bs) wr wqB := (hW.andThen (Chg.of_below hbqA _) (fun i _ h => h)).andThen (Chg.of_below hbqB _) (fun i _ h => h)
      go_roundg (gk - 1)
      case measure => omega
      case rel =>
        generalize hw5 : (((wqB.setCell ⟨w.heap.size, 0, none⟩ (.int .i64 (qtr r k).x0)).setCell ⟨w.heap.size, 1, none⟩ (.int .i64 (qtr r k).y0)).setCell ⟨w.heap.size, 2, none⟩ (.int .i64 (qtr r k).x1)).setCell ⟨w.heap.size, 3, none⟩ (.int .i64 (qtr r k).y1) = w5 at *
        have hgk1 : 1 ≤ gk := by omega
        have hkbm : kb ∈ (Sq.node kb n a b c d).blocks := by simp [Sq.blocks]
        have hhB := (hhW.below hbqA).below hbqB
        have hh5 : (Sq.node kb n a b c d).Holds w5 := hhB.frame fun j hj => hc5.block j (hhB.lt j hj) (fun e => n2 (e ▸ hj))
        have hctx5 : TCtx w5 bt bm L := ((hctxW.below hbqA).below hbqB).chg hc5 (fun e => n4 e.symm) (fun e => n3 e.symm)
        have hbB := (hbqB.block bs (lt_of_block hbA)).trans hbA
        have hbs5 := hc5.heap hbB (fun e => n1 e.symm)
        have hdepk : (sel k a b c d).dep ≤ gk - 1 := by
          have : k = 0 ∨ k = 1 ∨ k = 2 ∨ k = 3 := by omega
          rcases this with rfl | rfl | rfl | rfl <;> simp only [sel] <;> omega
        refine ⟨⟨sel k a b c d, kb, k * 3, cells12 a b c d, 166, qtr r k, rfl, ?_, by omega, hb5, ?_, fun e => n2 (e ▸ hkbm), fun h => n2 (sel_blocks h), n3, n4, ?_⟩, by omega⟩
        · show Value.int .i64 _ = Value.int .i64 _
          congr 1
          omega
        · exact { ctx := hctx5, hb := hh5.1, hin := sel_in hlt a b c d, hh := sel_holds hh5, ok := sel_ok hp.ok, sq := hp.sq.qtr hlt, wf := fun x hx => hp.wf x (sel_ids hx), idwf := hidwf, len := Nat.le_trans sel_len hp.len, dep := hdepk, nd := (sel_nodup hlt hp.nd).1, bsn := (sel_nodup hlt hp.nd).2, btn := fun h => hp.btn (sel_blocks h), bmn := fun h => hp.bmn (sel_blocks h), bmbs := fun e => hp.bmn (e ▸ hkbm), os1 := fun e => absurd (e ▸ hkbm) hp.btn }
        · rintro w' ⟨X, g1, g2, g3, g4, g5, g6, g7⟩
          apply HWand.out
          obtain ⟨s1, s2, s3⟩ := kid_step (n' := n + 1) (B7 := (· = w.heap.size)) (fun j e h => n2 (e ▸ h)) hlt hh5 hp.nd g2 g5 g6 g1 g7
          have hadd := (addPT_spec L (gk - 1) (qtr r k) id (sel k a b c d).pt (by rw [Sq.pt_dep]; exact hdepk)).1.length_eq
          rw [← g4, Sq.pt_ids, List.length_cons, Sq.pt_ids] at hadd
          have hlen := setKid_len_add hlt X kb n (n + 1) a b c d hadd
          have hnl : n = (Sq.node kb n a b c d).ids.length := hp.ok.1
          have hb' := g7.heap hbs5 (fun e => e.elim (fun e => hp.bsn (e ▸ hkbm)) (fun e => e.elim (fun e => hp.bsn (sel_blocks e)) (fun e => n1 e.symm)))
          have hkd := HK.out
          refine ⟨setKid k X kb (n + 1) a b c d, ?_, s1, setKid_ok hlt X kb n (n + 1) a b c d hp.ok g3 (by omega), ?_, s2, fun j hj => ?_, ?_⟩
          · rw [hb', ← set3_c0 (S' := setKid k X kb (n + 1) a b c d) hp.hin rfl rfl]
            rfl
          · rw [hkd] at g4
            have := add_node_pt (kb := kb) (n := n) (n' := n + 1) g4
            rw [← hkd, Nat.sub_add_cancel hgk1] at this
            exact this
          · exact (s3 j hj).imp (fun h => h) (fun h => by have := hcB.size; have := hc5.size; omega)
          · refine ((hcB.mono (fun j _ e => .inl e)).andThen hc5 (fun j _ e => .inr (.inr e))).andThen g7 (fun j _ e => ?_)
            exact .inr (e.elim (fun e => .inl (e ▸ hkbm)) (fun e => e.imp sel_blocks (fun e => e)))

theorem sq_add_all (f : Nat) : AddSpec f := Nat.strongRecOn f sq_add
end Go.Proofs.Ytggeehmcjndlgaa
