/-
  A map keyed by int, as a list of its entries in the order of their keys; what its operations do. And the word 'Chg S': nothing but the blocks of S has changed, and new blocks.
-/
import Derived.Test.YtggeehmcjndlgaaRegion
import Derived.Test.YtggeehmcjndlgaaRows
import Derived.Maps.OwnSet
namespace Go.Proofs.Ytggeehmcjndlgaa
open Go Go.RowKit Go.Sort

/-! ### Chg -/
/-- Of the blocks that there were, those of S alone may have changed. -/
structure Chg (S : Nat → Prop) (w w' : World) : Prop where
  os : w'.os = w.os
  tape : w'.tape = w.tape
  output : w'.output = w.output
  size : w.heap.size ≤ w'.heap.size
  block : ∀ k, k < w.heap.size → ¬ S k → w'.heap[k]? = w.heap[k]?

theorem Chg.refl (S : Nat → Prop) (w : World) : Chg S w w := ⟨rfl, rfl, rfl, Nat.le_refl _, fun _ _ _ => rfl⟩
theorem Chg.trans {S : Nat → Prop} {a b c : World} (h : Chg S a b) (k : Chg S b c) : Chg S a c :=
  ⟨k.os.trans h.os, k.tape.trans h.tape, k.output.trans h.output, Nat.le_trans h.size k.size, fun i hi hs => (k.block i (Nat.lt_of_lt_of_le hi h.size) hs).trans (h.block i hi hs)⟩
theorem Chg.mono {S T : Nat → Prop} {a b : World} (h : Chg S a b) (hs : ∀ k, k < a.heap.size → S k → T k) : Chg T a b :=
  ⟨h.os, h.tape, h.output, h.size, fun i hi hn => h.block i hi (fun hh => hn (hs i hi hh))⟩
/-- Two steps: the second may change what the first has laid, too. -/
theorem Chg.andThen {S T : Nat → Prop} {a b c : World} (h : Chg S a b) (k : Chg T b c) (hT : ∀ i, i < a.heap.size → T i → S i) : Chg S a c :=
  ⟨k.os.trans h.os, k.tape.trans h.tape, k.output.trans h.output, Nat.le_trans h.size k.size, fun i hi hs => (k.block i (Nat.lt_of_lt_of_le hi h.size) (fun ht => hs (hT i hi ht))).trans (h.block i hi hs)⟩
theorem Chg.of_below {w w' : World} (h : Below w.heap.size w w') (S : Nat → Prop) : Chg S w w' := ⟨h.os, h.tape, h.output, h.size, fun k hk _ => h.block k hk⟩
theorem Chg.below {S : Nat → Prop} {w w' : World} (h : Chg S w w') {B : Nat} (hB : B ≤ w.heap.size) (hS : ∀ k, k < B → ¬ S k) : Below B w w' := ⟨h.os, h.tape, h.output, h.size, fun k hk => h.block k (by omega) (hS k hk)⟩
theorem Chg.alloc (S : Nat → Prop) (w : World) (o : Obj) : Chg S w (w.alloc o) := Chg.of_below ((Below.refl _ w).alloc (Nat.le_refl _) o) S
theorem Chg.setCell (S : Nat → Prop) (w : World) (p : Addr) (u : Value) (h : p.block < w.heap.size → S p.block) : Chg S w (w.setCell p u) :=
  ⟨rfl, rfl, rfl, by simp, fun k hk hs => Below.heap_setCell w p u k (fun e => hs (by rw [e]; exact h (by omega)))⟩
theorem Chg.of_grown {S : Nat → Prop} {w w' : World} {row : Option Nat} (h : w.grownBy w' row) (hS : ∀ k, row = some k → S k) : Chg S w w' :=
  ⟨h.os, h.tape, h.output, h.size, fun k hk hs => h.block k hk (fun e => hs (hS k e.symm))⟩
theorem Chg.heap {S : Nat → Prop} {w w' : World} (h : Chg S w w') {b : Nat} {o : Obj} (hb : w.heap[b]? = some o) (hs : ¬ S b) : w'.heap[b]? = some o :=
  (h.block b (lt_of_block hb) hs).trans hb

/-! ### the list of a map's entries -/
abbrev Ents := List (Int × Value)

def insE (x : Int × Value) : Ents → Ents
  | [] => [x]
  | y :: r => if x.1 < y.1 then x :: y :: r else y :: insE x r
def delE (k : Int) (l : Ents) : Ents := l.filter fun p => !(p.1 == k)
def putE (k : Int) (v : Value) (l : Ents) : Ents := insE (k, v) (delE k l)
def lookE (l : Ents) (k : Int) : Option Value := (l.find? fun p => p.1 == k).map (·.2)
def hasE (l : Ents) (k : Int) : Bool := l.any fun p => p.1 == k

def RD : Value → Option (DataW Value × List MemPlace) := fun v => some (.held v, [])
def entD (p : Int × Value) : Lit × DataW Value := (.int .i64 p.1, .held p.2)
def mapD (l : Ents) : DataW Value := .map (l.map entD)

theorem insD (x : Int × Value) (l : Ents) : DataW.insert (entD x) (l.map entD) = (insE x l).map entD := by
  induction l with
  | nil => rfl
  | cons y r ih =>
    simp only [List.map_cons, DataW.insert, insE]
    by_cases h : x.1 < y.1
    · simp [entD, Lit.before, h]
    · rw [if_neg (by simp [entD, Lit.before, h]), if_neg h, ih]; rfl

theorem sameKeyD (k : Int) (p : Int × Value) : (entD p).1.sameKey (.int .i64 k) = (p.1 == k) := by
  simp only [entD, Lit.sameKey]
  by_cases h : p.1 = k <;> simp [h]

theorem delD (k : Int) (l : Ents) : (mapD l).del (.int .i64 k) = mapD (delE k l) := by
  simp only [mapD, DataW.del, delE, List.filter_map]
  congr 2
  exact List.filter_congr fun p _ => by simp [sameKeyD]

theorem putD (k : Int) (v : Value) (l : Ents) : (mapD l).put (.int .i64 k) (.held v) = mapD (putE k v l) := by
  simp only [mapD, DataW.put, putE]
  have h := delD k l
  simp only [mapD, DataW.del] at h
  injection h with h
  rw [h]
  congr 1
  exact insD (k, v) _

theorem lookD (l : Ents) (k : Int) (z : DataW Value) : (mapD l).atKey (.int .i64 k) z = match lookE l k with | some v => .held v | none => z := by
  simp only [mapD, DataW.atKey, lookE, List.find?_map]
  have : ((fun p : Lit × DataW Value => p.1.sameKey (.int .i64 k)) ∘ entD) = fun p => p.1 == k := by funext p; exact sameKeyD k p
  rw [this]
  cases l.find? (fun p => p.1 == k) <;> rfl

theorem heldE {o : Option Value} {v z : Value} {ps : List MemPlace} (h : RD v = some (match o with | some v => .held v | none => .held z, ps)) : v = o.getD z := by
  cases o with
  | none => simp only [RD, Option.some.injEq, Prod.mk.injEq, DataW.held.injEq] at h; exact h.1
  | some u => simp only [RD, Option.some.injEq, Prod.mk.injEq, DataW.held.injEq] at h; exact h.1

theorem hasD (l : Ents) (k : Int) : Maps.has (mapD l) (.int .i64 k) = hasE l k := by
  simp only [mapD, Maps.has_eq, hasE, List.any_map]
  congr 1
  funext p
  exact sameKeyD k p

theorem sizeD (l : Ents) : Maps.size (mapD l) = l.length := by simp [mapD, Maps.size_eq]

/-! ### the map in memory -/
/-- Block b of w is a map keyed by int with these entries (type number 3 is int's). -/
def IMap (w : World) (b : Nat) (l : Ents) : Prop := w.ownsMap Try.prog 3 RD b l.length (mapD l)

theorem IMap.of_heap {w w' : World} {b : Nat} {l : Ents} (h : IMap w b l) (he : w'.heap[b]? = w.heap[b]?) : IMap w' b l := by
  obtain ⟨es, clock, hb, r⟩ := h
  exact ⟨es, clock, he.trans hb, r⟩
theorem IMap.lt {w : World} {b : Nat} {l : Ents} (h : IMap w b l) : b < w.heap.size := World.ownsMap.lt h
theorem IMap.chg {S : Nat → Prop} {w w' : World} {b : Nat} {l : Ents} (h : IMap w b l) (hc : Chg S w w') (hs : ¬ S b) : IMap w' b l := h.of_heap (hc.block b h.lt hs)
theorem IMap.below {w w' : World} {b : Nat} {l : Ents} (h : IMap w b l) (hc : Below w.heap.size w w') : IMap w' b l := h.of_heap (hc.block b h.lt)
theorem IMap.alloc {w : World} {b : Nat} {l : Ents} (h : IMap w b l) (o : Obj) : IMap (w.alloc o) b l := h.of_heap (Below.heap_alloc w o b h.lt)
theorem IMap.drewN {w : World} {b : Nat} {l : Ents} (h : IMap w b l) (n : Nat) : IMap (w.drewN n) b l := h.of_heap rfl
theorem IMap.regrown {w : World} {b : Nat} {l : Ents} (h : IMap w b l) (d : Nat) (os : Array Obj) : IMap (grow (redrawn w d) os) b l := h.below (below_regrown w d os)
theorem IMap.setCell {w : World} {b : Nat} {l : Ents} (h : IMap w b l) {p : Addr} (hp : b ≠ p.block) (u : Value) : IMap (w.setCell p u) b l := h.of_heap (Below.heap_setCell w p u b hp)
theorem IMap.made (w : World) : IMap (w.alloc (.map #[] 0)) w.heap.size [] := World.ownsMap_made w _ _ _

theorem keyI {k : Int} (hk : (Lit.int .i64 k).wf = true) : keyOf Try.prog 3 (.int .i64 k) = some (.int .i64 k) := Maps.keyOf_int_mk Try.underlying3 hk
theorem keyedI : Maps.Keyed Try.prog 3 := Maps.int_keyed Try.underlying3

theorem IMap.look {w : World} {b : Nat} {l : Ents} (h : IMap w b l) {t e : TypeId} (ht : Try.prog.underlying t = some (.map 3 e)) {z : Value} (hz : (zeroValue e).run Try.prog w = .ok z w) {k : Int} (hk : (Lit.int .i64 k).wf = true) :
    (Instr.lookup t (.map (some b)) (.int .i64 k) false).run Try.prog w = .ok ((lookE l k).getD z) w := by
  obtain ⟨v, ps, hrun, hv⟩ := World.ownsMap.lookup h keyedI ht hz (zd := .held z) (zp := []) rfl (keyI hk)
  rw [lookD] at hv
  rw [hrun, heldE hv]

theorem IMap.look_ok {w : World} {b : Nat} {l : Ents} (h : IMap w b l) {t e : TypeId} (ht : Try.prog.underlying t = some (.map 3 e)) {z : Value} (hz : (zeroValue e).run Try.prog w = .ok z w) {k : Int} (hk : (Lit.int .i64 k).wf = true) :
    (Instr.lookup t (.map (some b)) (.int .i64 k) true).run Try.prog w = .ok (.tuple #[(lookE l k).getD z, .bool (hasE l k)]) w := by
  obtain ⟨v, ps, hrun, hv⟩ := World.ownsMap.look_ok h keyedI ht hz (zd := .held z) (zp := []) rfl (keyI hk)
  rw [lookD] at hv
  rw [hrun, heldE hv, hasD]

theorem IMap.store {w : World} {b : Nat} {l : Ents} (h : IMap w b l) {t e : TypeId} (ht : Try.prog.underlying t = some (.map 3 e)) (hn : l.length < maxLen) {k : Int} (hk : (Lit.int .i64 k).wf = true) (v : Value) :
    ∃ w', (Instr.mapUpdate t (.map (some b)) (.int .i64 k) v).run Try.prog w = .ok () w' ∧ IMap w' b (putE k v l) ∧ w.mapTurned w' b := by
  obtain ⟨w', h1, h2, h3⟩ := World.ownsMap.store h keyedI ht hn (keyI hk) (d := .held v) (ps := []) rfl
  refine ⟨w', h1, ?_, h3⟩
  rw [putD] at h2
  obtain ⟨es, clock, hb, F, hs, hD⟩ := h2
  refine ⟨es, clock, hb, F, ?_, hD⟩
  have := congrArg Maps.size hD
  rw [sizeD] at this
  simp [Maps.size, length_sorted] at this
  omega

theorem IMap.drop {w : World} {b : Nat} {l : Ents} (h : IMap w b l) {t e : TypeId} (ht : Try.prog.underlying t = some (.map 3 e)) {k : Int} (hk : (Lit.int .i64 k).wf = true) (ty : TypeId) :
    ∃ w', (Builtin.delete_ #[t, 3] ty #[.map (some b), .int .i64 k]).run Try.prog w = .ok (.tuple #[]) w' ∧ IMap w' b (delE k l) ∧ w.mapTurned w' b := by
  obtain ⟨w', h1, h2, h3⟩ := World.ownsMap.drop h keyedI ht (keyI hk) ty
  refine ⟨w', h1, ?_, h3⟩
  rw [delD] at h2
  obtain ⟨es, clock, hb, F, hs, hD⟩ := h2
  refine ⟨es, clock, hb, F, ?_, hD⟩
  have := congrArg Maps.size hD
  rw [sizeD] at this
  simp [Maps.size, length_sorted] at this
  omega

theorem IMap.len {w : World} {b : Nat} {l : Ents} (h : IMap w b l) {t e : TypeId} (ht : Try.prog.underlying t = some (.map 3 e)) (ty : TypeId) :
    (Builtin.len_ #[t] ty #[.map (some b)]).run Try.prog w = .ok (.int .i64 l.length) w := by
  rw [World.ownsMap.len h ht ty, sizeD]

theorem turned_chg {w w' : World} {b : Nat} (h : w.mapTurned w' b) : Chg (· = b) w w' := Chg.of_grown h.grown (fun k e => by cases e; rfl)

/-! ### at the operation, for the walk -/
section
variable (w : World) {ops : Array Oper} {rest : List Oper} {o : Oper} {a : Act} {Q : Exit → Act → World → Prop}

theorem wpl_look (hg : o.guard = none) (m x : Operand) (t : TypeId) (hop : o.op = Op.lookup t m x false) (e : TypeId) (ht : Try.prog.underlying t = some (.map 3 e)) {z : Value} (hz : (zeroValue e).run Try.prog w = .ok z w)
    (b : Nat) (l : Ents) (k : Int) (hm : a.eval m = .map (some b)) (hx : a.eval x = .int .i64 k) (h : IMap w b l) (hk : (Lit.int .i64 k).wf = true)
    (hK : wpList Try.prog ops Q rest (a.put o.dst ((lookE l k).getD z)) w) : wpList Try.prog ops Q (o :: rest) a w := by
  refine wpList_plain hg fun K' hK' => ?_
  unfold Oper.wp
  simp [execOp, hop, hm, hx, h.look ht hz hk, Result.andThen]
  exact hK' _ _ hK

theorem wpl_look_ok (hg : o.guard = none) (m x : Operand) (t : TypeId) (hop : o.op = Op.lookup t m x true) (e : TypeId) (ht : Try.prog.underlying t = some (.map 3 e)) {z : Value} (hz : (zeroValue e).run Try.prog w = .ok z w)
    (b : Nat) (l : Ents) (k : Int) (hm : a.eval m = .map (some b)) (hx : a.eval x = .int .i64 k) (h : IMap w b l) (hk : (Lit.int .i64 k).wf = true)
    (hK : wpList Try.prog ops Q rest (a.put o.dst (.tuple #[(lookE l k).getD z, .bool (hasE l k)])) w) : wpList Try.prog ops Q (o :: rest) a w := by
  refine wpList_plain hg fun K' hK' => ?_
  unfold Oper.wp
  simp [execOp, hop, hm, hx, h.look_ok ht hz hk, Result.andThen]
  exact hK' _ _ hK

theorem wpl_store (hg : o.guard = none) (m x v : Operand) (t : TypeId) (hop : o.op = Op.mapUpdate t m x v) (e : TypeId) (ht : Try.prog.underlying t = some (.map 3 e))
    (b : Nat) (l : Ents) (k : Int) (hm : a.eval m = .map (some b)) (hx : a.eval x = .int .i64 k) (val : Value) (hv : a.eval v = val) (h : IMap w b l) (hn : l.length < maxLen) (hk : (Lit.int .i64 k).wf = true)
    (hK : ∀ w', IMap w' b (putE k val l) → w.mapTurned w' b → wpList Try.prog ops Q rest (a.put o.dst undef) w') : wpList Try.prog ops Q (o :: rest) a w := by
  refine wpList_plain hg fun K' hK' => ?_
  obtain ⟨w', hrun, r1, r2⟩ := h.store ht hn hk val
  unfold Oper.wp
  simp [execOp, hop, hm, hx, hv, hrun, Result.andThen]
  exact hK' _ _ (hK w' r1 r2)

theorem wpl_delete (hg : o.guard = none) (m x : Operand) (t : TypeId) (hop : o.op = Op.call { callee := Callee.builtin Builtin.delete, args := #[m, x], argTypes := #[t, 3] }) (e : TypeId) (ht : Try.prog.underlying t = some (.map 3 e))
    (b : Nat) (l : Ents) (k : Int) (hm : a.eval m = .map (some b)) (hx : a.eval x = .int .i64 k) (h : IMap w b l) (hk : (Lit.int .i64 k).wf = true)
    (hK : ∀ w', IMap w' b (delE k l) → w.mapTurned w' b → wpList Try.prog ops Q rest (a.put o.dst (.tuple #[])) w') : wpList Try.prog ops Q (o :: rest) a w := by
  refine wpList_plain hg fun K' hK' => ?_
  obtain ⟨w', hrun, r1, r2⟩ := h.drop ht hk o.type
  unfold Oper.wp
  simp [execOp, hop, resolve, invoke, builtin, hm, hx, hrun, Result.andThen]
  exact hK' _ _ (hK w' r1 r2)

theorem wpl_len (hg : o.guard = none) (m : Operand) (t : TypeId) (hop : o.op = Op.call { callee := Callee.builtin Builtin.len, args := #[m], argTypes := #[t] }) (e : TypeId) (ht : Try.prog.underlying t = some (.map 3 e))
    (b : Nat) (l : Ents) (hm : a.eval m = .map (some b)) (h : IMap w b l)
    (hK : wpList Try.prog ops Q rest (a.put o.dst (.int .i64 l.length)) w) : wpList Try.prog ops Q (o :: rest) a w := by
  refine wpList_plain hg fun K' hK' => ?_
  unfold Oper.wp
  simp [execOp, hop, resolve, invoke, builtin, hm, h.len ht o.type, Result.andThen]
  exact hK' _ _ hK
end

end Go.Proofs.Ytggeehmcjndlgaa
