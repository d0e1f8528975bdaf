/-
  The squares of the tree in memory: a leaf with its row of numbers, or a block of four.
-/
import Derived.Test.YtggeehmcjndlgaaShelf
import Derived.Test.YtggeehmcjndlgaaRow
import Derived.Test.YtggeehmcjndlgaaGeom
namespace Go.Proofs.Ytggeehmcjndlgaa
open Go Go.RowKit Go.Sort Go.Shelf

inductive Sq where
  | leaf (v : Value) (ids : List Int)
  | node (kb n : Nat) (a b c d : Sq)

def Sq.c0 : Sq → Value
  | .leaf _ ids => .int .i64 ids.length
  | .node _ n _ _ _ _ => .int .i64 n
def Sq.c1 : Sq → Value
  | .leaf v _ => v
  | .node _ _ _ _ _ _ => .slice none 0 0
def Sq.c2 : Sq → Value
  | .leaf _ _ => .pointer none
  | .node kb _ _ _ _ _ => .pointer (some ⟨kb, 0, none⟩)
def sel {α : Type} (i : Nat) (a b c d : α) : α := match i with | 0 => a | 1 => b | 2 => c | _ => d
def cells12 (a b c d : Sq) : Array Value := #[a.c0, a.c1, a.c2, b.c0, b.c1, b.c2, c.c0, c.c1, c.c2, d.c0, d.c1, d.c2]
def Sq.ids : Sq → List Int
  | .leaf _ ids => ids
  | .node _ _ a b c d => a.ids ++ b.ids ++ c.ids ++ d.ids
def Sq.dep : Sq → Nat
  | .leaf _ _ => 0
  | .node _ _ a b c d => 1 + max (max a.dep b.dep) (max c.dep d.dep)
/-- What it says of itself is so. -/
def Sq.Ok : Sq → Prop
  | .leaf _ _ => True
  | .node _ n a b c d => n = (a.ids ++ b.ids ++ c.ids ++ d.ids).length ∧ a.Ok ∧ b.Ok ∧ c.Ok ∧ d.Ok
def Sq.Holds (w : World) : Sq → Prop
  | .leaf v ids => RowOf encI 1 3 w 0 v ids
  | .node kb _ a b c d => w.heap[kb]? = some (.cells (cells12 a b c d) 166 (0, 0)) ∧ a.Holds w ∧ b.Holds w ∧ c.Holds w ∧ d.Holds w
def Sq.blocks : Sq → List Nat
  | .leaf v _ => v.ownBlock.toList
  | .node kb _ a b c d => kb :: (a.blocks ++ b.blocks ++ c.blocks ++ d.blocks)

/-- The square lies at offset os of the cells cs. -/
structure SqIn (cs : Array Value) (os : Nat) (S : Sq) : Prop where
  c0 : cs[os]? = some S.c0
  c1 : cs[os + 1]? = some S.c1
  c2 : cs[os + 2]? = some S.c2

def set3 (cs : Array Value) (os : Nat) (S : Sq) : Array Value := ((cs.setIfInBounds os S.c0).setIfInBounds (os + 1) S.c1).setIfInBounds (os + 2) S.c2

theorem sel_in {i : Nat} (hi : i < 4) (a b c d : Sq) : SqIn (cells12 a b c d) (i * 3) (sel i a b c d) := by
  have : i = 0 ∨ i = 1 ∨ i = 2 ∨ i = 3 := by omega
  rcases this with rfl | rfl | rfl | rfl <;> exact ⟨rfl, rfl, rfl⟩

theorem Sq.Holds.frame {w w' : World} : ∀ {S : Sq}, S.Holds w → (∀ k ∈ S.blocks, w'.heap[k]? = w.heap[k]?) → S.Holds w'
  | .leaf v ids, h, hk => RowOf.of_heap h (fun k e => hk k (by simp [Sq.blocks, e]))
  | .node kb n a b c d, ⟨h0, ha, hb, hc, hd⟩, hk => by
    simp only [Sq.blocks, List.mem_cons, List.mem_append] at hk
    exact ⟨(hk kb (.inl rfl)).trans h0, ha.frame fun k h => hk k (by simp [h]), hb.frame fun k h => hk k (by simp [h]), hc.frame fun k h => hk k (by simp [h]), hd.frame fun k h => hk k (by simp [h])⟩

theorem Sq.Holds.lt {w : World} : ∀ {S : Sq}, S.Holds w → ∀ k ∈ S.blocks, k < w.heap.size
  | .leaf v ids, h, k, hk => by
    simp only [Sq.blocks, Option.mem_toList] at hk
    exact (RowOf.lt h k hk).2
  | .node kb n a b c d, ⟨h0, ha, hb, hc, hd⟩, k, hk => by
    simp only [Sq.blocks, List.mem_cons, List.mem_append] at hk
    rcases hk with rfl | ((h | h) | h) | h
    · exact lt_of_block h0
    · exact ha.lt k h
    · exact hb.lt k h
    · exact hc.lt k h
    · exact hd.lt k h

theorem Sq.Holds.below {w w' : World} {S : Sq} (h : S.Holds w) (hb : Below w.heap.size w w') : S.Holds w' := h.frame fun k hk => hb.block k (h.lt k hk)

theorem cellAt {w : World} {b o : Nat} {cs : Array Value} {t : TypeId} {fr : Nat × Nat} {v : Value} (h : w.heap[b]? = some (.cells cs t fr)) (hv : cs[o]? = some v) : w.cell? ⟨b, o, none⟩ = some v := by
  simp [World.cell?, h, hv]
theorem freeAt {w : World} {b o : Nat} {cs : Array Value} {t : TypeId} (h : w.heap[b]? = some (.cells cs t (0, 0))) : w.frozen? ⟨b, o, none⟩ = false := by
  simp [World.frozen?, h]

/-- How deep the first k of four are, and one more. -/
def depTo (k : Nat) (a b c d : Sq) : Nat := match k with
  | 0 => 0 | 1 => 1 + a.dep | 2 => max (1 + a.dep) (1 + b.dep) | 3 => max (max (1 + a.dep) (1 + b.dep)) (1 + c.dep) | _ => max (max (max (1 + a.dep) (1 + b.dep)) (1 + c.dep)) (1 + d.dep)
theorem depTo_succ {k : Nat} (hk : k < 4) (a b c d : Sq) : depTo (k + 1) a b c d = max (depTo k a b c d) (1 + (sel k a b c d).dep) := by
  have : k = 0 ∨ k = 1 ∨ k = 2 ∨ k = 3 := by omega
  rcases this with rfl | rfl | rfl | rfl <;> simp [depTo, sel]

set_option maxHeartbeats 400000 in
theorem sq_depth : ∀ (S : Sq) (w : World) (bs os : Nat) (cs : Array Value) (T : TypeId), w.heap[bs]? = some (.cells cs T (0, 0)) → SqIn cs os S → S.Holds w → S.dep ≤ 1000 →
    Calls Try.prog 81 #[.pointer (some ⟨bs, os, none⟩)] w fun e w' => e = .returned (.int .i64 S.dep) ∧ w' = w := by
  intro S
  induction S with
  | leaf v ids =>
    intro w bs os cs T hb hin _ _
    have k2 := cellAt hb hin.c2
    simp only [Sq.c2] at k2
    go_enter Try.func81, Try.ntmps81
    go_wp2_with fail
    refine wp_loop_rounds 1 ?_
    rw [rounds_succ]
    go_wp2_with fail
    go_ret
    exact ⟨rfl, rfl⟩
  | node kb n a b c d iha ihb ihc ihd =>
    intro w bs os cs T hb hin hh hd
    obtain ⟨hk, ha, hb', hc, hd'⟩ := hh
    have k2 := cellAt hb hin.c2
    simp only [Sq.c2] at k2
    have ih : ∀ k, k < 4 → Calls Try.prog 81 #[.pointer (some ⟨kb, k * 3, none⟩)] w fun e w' => e = .returned (.int .i64 (sel k a b c d).dep) ∧ w' = w := by
      intro k hk4
      have hs := sel_in hk4 a b c d
      simp only [Sq.dep] at hd
      have : k = 0 ∨ k = 1 ∨ k = 2 ∨ k = 3 := by omega
      rcases this with rfl | rfl | rfl | rfl
      · exact iha w kb _ _ _ hk hs ha (by omega)
      · exact ihb w kb _ _ _ hk hs hb' (by omega)
      · exact ihc w kb _ _ _ hk hs hc (by omega)
      · exact ihd w kb _ _ _ hk hs hd' (by omega)
    clear iha ihb ihc ihd hk hin hb ha hb' hc hd'
    have hmx := run_mx
    go_enter Try.func81, Try.ntmps81
    go_wp2_with fail
    go_loop [3, 4] (fun t i => ∃ k : Nat, k ≤ 4 ∧ i = .int .i64 k ∧ t = .int .i64 (depTo k a b c d)) (fun _ i => 4 - (intOf i).toNat)
    case atStart => exact ⟨0, by omega, rfl, rfl⟩
    case round =>
      obtain ⟨k, hk, rfl, rfl⟩ := hrel
      have hds : depTo (k + 1) a b c d = max (depTo k a b c d) (1 + (sel k a b c d).dep) ∨ k = 4 := by
        rcases Nat.lt_or_ge k 4 with h | h
        · exact .inl (depTo_succ h a b c d)
        · exact .inr (by omega)
      have hd1 : (sel k a b c d).dep ≤ 1000 := by
        simp only [Sq.dep] at hd
        have : k = 0 ∨ k = 1 ∨ k = 2 ∨ k = 3 ∨ k = 4 := by omega
        rcases this with rfl | rfl | rfl | rfl | rfl <;> simp only [sel] <;> omega
      by_cases hlt : k < 4
      · obtain hds : depTo (k + 1) a b c d = max (depTo k a b c d) (1 + (sel k a b c d).dep) := by omega
        have HD := Lib.hid hds
        clear hds
        go_wp2_with (go_at_call 81; refine (ih k hlt).mono ?_; rintro e w' ⟨rfl, rfl⟩)
        go_round
        case rel => exact ⟨k + 1, by omega, by go_num, by rw [HD.out]; congr 1; omega⟩
        case measure => simp [intOf]; omega
      · obtain rfl : k = 4 := by omega
        clear hds
        go_wp2_with fail
        go_ret
        exact ⟨ret_i64 (by simp only [depTo, Sq.dep]; omega), rfl⟩

/-! ### all -/

set_option maxHeartbeats 1000000 in
/-- slices.Clone of a row of numbers. -/
theorem ints_Clone (w : World) (v : Value) (l : List Int) (hr : Reads encI w v l) (hl : l.length ≤ 1000000) :
    Calls Try.prog 129 #[v] w fun e w' => ∃ v', e = .returned v' ∧ RowOf encI 1 3 w' w.heap.size v' l ∧ Below w.heap.size w w' := by
  obtain ⟨ao, cap, rfl, hc, hn, hrr⟩ := hr
  cases ao with
  | none =>
    obtain ⟨rfl, rfl⟩ := hn rfl
    have hcon := AnyE.slices_Clone_nil Try.cloneInts 0 0 w
    change Calls Try.prog 129 _ _ _ at hcon
    exact hcon.mono fun e w' ⟨he, hw⟩ => ⟨_, he, RowOf.nil _ _ _, by rw [hw]; exact Below.refl _ _⟩
  | some ad =>
    obtain ⟨b, off, sp⟩ := ad
    obtain ⟨rfl, hcell⟩ := hrr b off sp rfl
    obtain ⟨i, hi, hz0, hz1, hz2⟩ := info_parts Try.infoI
    have hcon := AnyE.slices_Clone Try.cloneInts i (.int .i64 0) 1 8 hi hz0 hz1 hz2 rfl (by decide) Try.sizeOf3 b off l.length cap (l.flatMap encI) w (by rw [flat_len (k := 1) (fun _ => rfl)]) (by unfold maxLen; omega) (by omega) hcell
      (fun u hu => by obtain ⟨y, _, hy⟩ := List.mem_flatMap.1 hu; exact oneI y u hy)
    change Calls Try.prog 129 _ _ _ at hcon
    exact hcon.mono fun e w' ⟨v', he, ho, _, hb⟩ => ⟨v', he, ho, hb⟩

/-- The numbers of the first k of four. -/
def idsTo (k : Nat) (a b c d : Sq) : List Int := match k with
  | 0 => [] | 1 => a.ids | 2 => a.ids ++ b.ids | 3 => a.ids ++ b.ids ++ c.ids | _ => a.ids ++ b.ids ++ c.ids ++ d.ids
theorem idsTo_succ {k : Nat} (hk : k < 4) (a b c d : Sq) : idsTo (k + 1) a b c d = idsTo k a b c d ++ (sel k a b c d).ids := by
  have : k = 0 ∨ k = 1 ∨ k = 2 ∨ k = 3 := by omega
  rcases this with rfl | rfl | rfl | rfl <;> simp [idsTo, sel]

theorem RowOf.grown {α : Type} {enc : α → List Value} {k : Nat} {e : TypeId} {w w' : World} {base : Nat} {v : Value} {l : List α} {row : Option Nat} (h : RowOf enc k e w base v l) (hg : w.grownBy w' row) (hne : ∀ b, v.ownBlock = some b → some b ≠ row) : RowOf enc k e w' base v l :=
  h.of_heap fun b hb => hg.block b (h.lt b hb).2 (hne b hb)

set_option maxHeartbeats 1000000 in
theorem sq_all : ∀ (S : Sq) (w : World) (bs os : Nat) (cs : Array Value) (T : TypeId), w.heap[bs]? = some (.cells cs T (0, 0)) → SqIn cs os S → S.Holds w → S.ids.length ≤ 1000 →
    Calls Try.prog 108 #[.pointer (some ⟨bs, os, none⟩)] w fun e w' => ∃ v, e = .returned v ∧ RowOf encI 1 3 w' w.heap.size v S.ids ∧ Below w.heap.size w w' := by
  intro S
  induction S with
  | leaf v ids =>
    intro w bs os cs T hb hin hh hl
    have k1 := cellAt hb hin.c1
    have k2 := cellAt hb hin.c2
    simp only [Sq.c2, Sq.c1] at k1 k2
    have hB := lt_of_block hb
    have hcl := ints_Clone w v ids hh.reads (by simp only [Sq.ids] at hl; omega)
    go_enter Try.func108, Try.ntmps108
    go_wp2_with (go_at_call 129; refine hcl.mono ?_; rintro e w1 ⟨v1, rfl, hr1, hb1⟩; obtain ⟨hc, hf⟩ := bcell hb1)
    refine wp_loop_rounds 1 ?_
    rw [rounds_succ]
    go_wp2_with fail
    go_ret
    exact ⟨v1, rfl, hr1, hb1⟩
  | node kb n a b c d iha ihb ihc ihd =>
    intro w bs os cs T hb hin hh hl
    obtain ⟨hk, ha, hb', hc, hd'⟩ := hh
    have k1 := cellAt hb hin.c1
    have k2 := cellAt hb hin.c2
    simp only [Sq.c2, Sq.c1] at k1 k2
    have hB := lt_of_block hb
    have ih : ∀ k, k < 4 → ∀ wr, Below w.heap.size w wr → Calls Try.prog 108 #[.pointer (some ⟨kb, k * 3, none⟩)] wr fun e w' => ∃ v, e = .returned v ∧ RowOf encI 1 3 w' wr.heap.size v (sel k a b c d).ids ∧ Below wr.heap.size wr w' := by
      intro k hk4 wr hwr
      have hs := sel_in hk4 a b c d
      have hkr : wr.heap[kb]? = some (.cells (cells12 a b c d) 166 (0, 0)) := (hwr.block kb (lt_of_block hk)).trans hk
      simp only [Sq.ids, List.length_append] at hl
      have : k = 0 ∨ k = 1 ∨ k = 2 ∨ k = 3 := by omega
      rcases this with rfl | rfl | rfl | rfl
      · exact iha wr kb _ _ _ hkr hs (ha.below hwr) (by omega)
      · exact ihb wr kb _ _ _ hkr hs (hb'.below hwr) (by omega)
      · exact ihc wr kb _ _ _ hkr hs (hc.below hwr) (by omega)
      · exact ihd wr kb _ _ _ hkr hs (hd'.below hwr) (by omega)
    have hbsr : ∀ wr, Below w.heap.size w wr → wr.cell? ⟨bs, os + 2, none⟩ = some (.pointer (some ⟨kb, 0, none⟩)) := fun wr hwr => (hwr.cell (p := ⟨bs, os + 2, none⟩) hB).trans k2
    have hcl := ints_Clone w (.slice none 0 0) [] ⟨none, 0, rfl, Nat.le_refl _, fun _ => ⟨rfl, rfl⟩, fun _ _ _ e => by cases e⟩ (by simp)
    clear iha ihb ihc ihd hk hin ha hb' hc hd' hb
    go_enter Try.func108, Try.ntmps108
    go_wp2_with (go_at_call 129; refine hcl.mono ?_; rintro e w1 ⟨v1, rfl, hr1, hb1⟩)
    have hr1' : RowOf encI 1 3 w1 w.heap.size v1 (idsTo 0 a b c d) := hr1
    go_loopw [3, 4] (fun t i wr => ∃ k : Nat, k ≤ 4 ∧ i = .int .i64 k ∧ RowOf encI 1 3 wr w.heap.size t (idsTo k a b c d) ∧ Below w.heap.size w wr) (fun _ i _ => 4 - (intOf i).toNat)
    case atStart => exact ⟨0, by omega, rfl, hr1', hb1⟩
    case round =>
      obtain ⟨k, hk, rfl, hrow, hbr⟩ := hrel
      have kr := hbsr wr hbr
      by_cases hlt : k < 4
      · have HI := Lib.hid (idsTo_succ hlt a b c d)
        have hlen : (idsTo k a b c d).length + (sel k a b c d).ids.length ≤ 1000000 := by
          simp only [Sq.ids, List.length_append] at hl
          have : k = 0 ∨ k = 1 ∨ k = 2 ∨ k = 3 := by omega
          rcases this with rfl | rfl | rfl | rfl <;> simp only [idsTo, sel, List.length_append, List.length_nil] <;> omega
        go_wp2_with (first
          | (go_at_call 108; refine (ih k hlt wr hbr).mono ?_; rintro e w2 ⟨v2, rfl, hr2, hb2⟩; have hrow2 := hrow.below hb2)
          | (at_builtin; refine wpl_append_ints rfl _ _ rfl w.heap.size _ _ rfl hrow2 _ _ rfl hr2.reads hlen (Nat.le_trans hbr.size hb2.size) ?_; intro v3 w3 hr3 hg3 _ _))
        go_roundw
        case rel => exact ⟨k + 1, by omega, by go_num, by rw [HI.out]; exact hr3, (hb2.via hbr.size hbr).grown hg3 (Nat.le_trans hbr.size hb2.size) (fun j hj => (hrow2.lt j hj).1)⟩
        case measure => simp [intOf]; omega
      · obtain rfl : k = 4 := by omega
        go_wp2_with fail
        go_ret
        exact ⟨_, rfl, hrow, hbr⟩
end Go.Proofs.Ytggeehmcjndlgaa
