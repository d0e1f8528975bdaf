/-
  Slices of elements of k cells: a row of the call's own (RowOf), a row that is read (Reads); append, len, an element's cells.
-/
import Derived.Test.YtggeehmcjndlgaaRegion
import Derived.Test.YtggeehmcjndlgaaRows
import Derived.Test.YtggeehmcjndlgaaMap
import Derived.Laws.AppendOwnNone
import Derived.Maps.AppendAt
namespace Go.Proofs.Ytggeehmcjndlgaa
open Go Go.RowKit Go.Sort

section
variable {α : Type} (enc : α → List Value) (k : Nat)

/-- v is a slice of the call's own (blocks from base on) that holds l. -/
def RowOf (e : TypeId) (w : World) (base : Nat) (v : Value) (l : List α) : Prop := w.ownsRow base e k v l.length (l.flatMap enc)
/-- v is a slice that holds l. -/
def Reads (w : World) (v : Value) (l : List α) : Prop :=
  ∃ ao cap, v = .slice ao l.length cap ∧ l.length ≤ cap ∧ (ao = none → l = [] ∧ cap = 0) ∧ ∀ b off sp, ao = some ⟨b, off, sp⟩ → sp = none ∧ ∀ j u, (l.flatMap enc)[j]? = some u → w.cell? ⟨b, off + j, none⟩ = some u

variable {enc k}
theorem RowOf.nil (e : TypeId) (w : World) (base : Nat) : RowOf enc k e w base (.slice none 0 0) [] := World.ownsRow_nil w base e k

theorem RowOf.reads {e : TypeId} {w : World} {base : Nat} {v : Value} {l : List α} (h : RowOf enc k e w base v l) : Reads enc w v l := by
  rcases h.2 with ⟨rfl, hn⟩ | ⟨g, cap, cur, rfl, hb, hh, hnc, hm, hs, ht⟩
  · have : l = [] := by simpa using hn
    subst this
    exact ⟨none, 0, rfl, Nat.le_refl _, fun _ => ⟨rfl, rfl⟩, fun b off sp e => by cases e⟩
  · refine ⟨_, cap, rfl, hnc, fun e => (by cases e), fun b off sp e => ?_⟩
    cases e
    refine ⟨rfl, fun j u hj => ?_⟩
    rw [← ht] at hj
    have h1 : cur.toList[j]? = some u := by
      rw [List.getElem?_take] at hj
      split at hj
      · exact hj
      · cases hj
    rw [Nat.zero_add]
    simp only [World.cell?, hh]
    simpa using h1

theorem RowOf.of_heap {e : TypeId} {w w' : World} {base : Nat} {v : Value} {l : List α} (h : RowOf enc k e w base v l) (hk : ∀ b, v.ownBlock = some b → w'.heap[b]? = w.heap[b]?) : RowOf enc k e w' base v l := by
  refine ⟨h.1, ?_⟩
  rcases h.2 with hn | ⟨g, cap, cur, rfl, hb, hgg, rest⟩
  · exact .inl hn
  · exact .inr ⟨g, cap, cur, rfl, hb, (hk g rfl).trans hgg, rest⟩
theorem RowOf.lt {e : TypeId} {w : World} {base : Nat} {v : Value} {l : List α} (h : RowOf enc k e w base v l) : ∀ b, v.ownBlock = some b → base ≤ b ∧ b < w.heap.size := World.ownsRow.lt h
theorem RowOf.below {e : TypeId} {w w' : World} {base : Nat} {v : Value} {l : List α} (h : RowOf enc k e w base v l) (hb : Below w.heap.size w w') : RowOf enc k e w' base v l := h.of_heap fun b hb' => hb.block b (h.lt b hb').2
theorem RowOf.alloc {e : TypeId} {w : World} {base : Nat} {v : Value} {l : List α} (h : RowOf enc k e w base v l) (o : Obj) : RowOf enc k e (w.alloc o) base v l := World.ownsRow.alloc h o
theorem RowOf.base_le {e : TypeId} {w : World} {base base' : Nat} {v : Value} {l : List α} (h : RowOf enc k e w base v l) (hb : base' ≤ base) : RowOf enc k e w base' v l := by
  refine ⟨h.1, ?_⟩
  rcases h.2 with hn | ⟨g, cap, cur, rfl, hbb, rest⟩
  · exact .inl hn
  · exact .inr ⟨g, cap, cur, rfl, by omega, rest⟩
theorem RowOf.chg {e : TypeId} {w w' : World} {base : Nat} {v : Value} {l : List α} {S : Nat → Prop} (h : RowOf enc k e w base v l) (hc : Chg S w w') (hs : ∀ b, v.ownBlock = some b → ¬ S b) : RowOf enc k e w' base v l :=
  h.of_heap fun b hb' => hc.block b (h.lt b hb').2 (hs b hb')
/-- What the slice's value is. -/
theorem RowOf.form {e : TypeId} {w : World} {base : Nat} {v : Value} {l : List α} (h : RowOf enc k e w base v l) : (v = .slice none 0 0 ∧ l = []) ∨ ∃ g cap, v = .slice (some ⟨g, 0, none⟩) l.length cap ∧ base ≤ g ∧ l.length ≤ cap ∧ cap ≤ maxLen := by
  rcases h.2 with ⟨rfl, hn⟩ | ⟨g, cap, cur, rfl, hb, hh, hnc, hm, hs, ht⟩
  · exact .inl ⟨rfl, by simpa using hn⟩
  · exact .inr ⟨g, cap, rfl, hb, hnc, hm⟩

theorem Reads.of_heap {w w' : World} {v : Value} {l : List α} (h : Reads enc w v l) (hk : ∀ b, v.ownBlock = some b → w'.heap[b]? = w.heap[b]?) : Reads enc w' v l := by
  obtain ⟨ao, cap, rfl, hc, hn, hr⟩ := h
  refine ⟨ao, cap, rfl, hc, hn, fun b off sp e => ⟨(hr b off sp e).1, fun j u hj => ?_⟩⟩
  have h1 := (hr b off sp e).2 j u hj
  rw [World.cell?_of_block (w := w) (by exact hk b (by rw [e]; rfl))]
  exact h1
theorem Reads.len {w : World} {v : Value} {l : List α} (h : Reads enc w v l) : ∃ ao cap, v = .slice ao l.length cap := let ⟨ao, cap, e, _⟩ := h; ⟨ao, cap, e⟩

theorem flat_len (hk : ∀ x, (enc x).length = k) : ∀ l : List α, (l.flatMap enc).length = l.length * k
  | [] => by simp
  | x :: l => by simp [flat_len hk l, hk, Nat.add_mul, Nat.add_comm]

theorem flat_get (hk : ∀ x, (enc x).length = k) : ∀ (l : List α) (j i : Nat) (x : α), l[j]? = some x → i < k → (l.flatMap enc)[j * k + i]? = (enc x)[i]?
  | [], j, i, x, h, _ => by simp at h
  | y :: l, 0, i, x, h, hi => by
    simp at h; subst h
    simp only [List.flatMap_cons, Nat.zero_mul, Nat.zero_add]
    rw [List.getElem?_append_left (by rw [hk]; exact hi)]
  | y :: l, j + 1, i, x, h, hi => by
    simp at h
    simp only [List.flatMap_cons]
    rw [List.getElem?_append_right (by rw [hk, Nat.add_mul]; omega), hk, show (j + 1) * k + i - k = j * k + i from by rw [Nat.add_mul]; omega]
    exact flat_get hk l j i x h hi

/-- An element's cell. -/
theorem Reads.cell {w : World} {v : Value} {l : List α} (h : Reads enc w v l) (hk : ∀ x, (enc x).length = k) {ao : Option Addr} {n cap : Nat} (hv : v = .slice ao n cap) {j : Nat} {x : α} (hj : l[j]? = some x) :
    ∃ b off, ao = some ⟨b, off, none⟩ ∧ ∀ i u, (enc x)[i]? = some u → w.cell? ⟨b, off + j * k + i, none⟩ = some u := by
  obtain ⟨ao', cap', rfl, hc, hn, hr⟩ := h
  injection hv with e1 e2 e3
  subst e1
  cases ao' with
  | none => rw [(hn rfl).1] at hj; simp at hj
  | some a =>
    obtain ⟨b, off, sp⟩ := a
    obtain ⟨rfl, hrr⟩ := hr b off sp rfl
    refine ⟨b, off, rfl, fun i u hi => ?_⟩
    have hik : i < k := by
      rw [← hk x]
      exact (List.getElem?_eq_some_iff.1 hi).1
    rw [Nat.add_assoc]
    exact hrr (j * k + i) u (by rw [flat_get hk l j i x hj hik]; exact hi)
end

/-- Numbers. -/
def encI (x : Int) : List Value := [.int .i64 x]
theorem flat_ints (l : List Int) : l.flatMap encI = l.map (Value.int .i64) := by
  induction l with
  | nil => rfl
  | cons x l ih => simp [encI, ih]

section
variable {α : Type} {enc : α → List Value} {k : Nat} {P : Program} {w : World} {ops : Array Oper} {rest : List Oper} {o : Oper} {a : Act} {Q : Exit → Act → World → Prop}

/-- 'append(s, xs...)': s a row of the call's own, xs whatever slice that is read. -/
theorem wpl_append (hgd : o.guard = none) (s x : Operand) (t : TypeId) (ho : o.op = .call { callee := .builtin .append, args := #[s, x], argTypes := #[t, t] })
    (e : TypeId) (i : TypeInfo) (z : Value) (bytes : Nat) (ht : P.underlying t = some (.slice e)) (hi : P.info? e = some i) (hz : i.zero = some z)
    (hsize : i.size = k) (hby : i.bytes = bytes) (hzs : z.cells.size = k) (hsz : 0 < k) (hk : ∀ x, (enc x).length = k) (h1 : ∀ x, ∀ u ∈ enc x, u.oneCell' = true)
    (base : Nat) (v : Value) (l : List α) (hs : a.eval s = v) (hown : RowOf enc k e w base v l) (v2 : Value) (l2 : List α) (hx : a.eval x = v2) (hr : Reads enc w v2 l2)
    (h63 : l.length + l2.length ≤ maxLen) (hbytes : (l.length + l2.length) * bytes ≤ 140737488355328) (hbase : base ≤ w.heap.size)
    (h : ∀ v' w', RowOf enc k e w' base v' (l ++ l2) → w.grownBy w' v.ownBlock → (v' = .slice none 0 0 ↔ v = .slice none 0 0 ∧ l2 = []) → (v'.ownBlock = v.ownBlock ∨ v'.ownBlock = some w.heap.size) → wpList P ops Q rest (a.put o.dst v') w') :
    wpList P ops Q (o :: rest) a w := by
  obtain ⟨ao, cap, rfl, hc, hn, hrr⟩ := hr
  cases ao with
  | none =>
    obtain ⟨rfl, rfl⟩ := hn rfl
    refine wpList_append_own_none hgd s x t ho base e i k ht hi v _ _ hs hown hx (h v w (by simpa using hown) ⟨rfl, rfl, rfl, Nat.le_refl _, fun _ _ _ => rfl⟩ (by simp) (.inl rfl))
  | some ad =>
    obtain ⟨b, off, sp⟩ := ad
    obtain ⟨rfl, hcell⟩ := hrr b off sp rfl
    refine wpList_append_own_at w hgd s x t ho base e i z k bytes ht hi hz hsize hby hzs hsz v l.length (l.flatMap enc) hs hown ⟨b, off, none⟩ l2.length cap (l2.flatMap enc) hx (flat_len hk l2) (fun j u hj => ?_) (fun u hu => ?_) h63 hbytes hbase (fun v' w' r1 r2 r3 r4 => ?_)
    · have := hcell j u hj
      unfold Addr.add
      split
      · rename_i h0; subst h0; exact this
      · exact this
    · obtain ⟨y, _, hy⟩ := List.mem_flatMap.1 hu
      exact h1 y u hy
    · refine h v' w' ?_ r2 (by rw [r3]; simp) r4
      unfold RowOf
      rw [List.length_append, List.flatMap_append]
      exact r1
end

theorem Try.infoI : (Try.prog.info? 3).map (fun i => (i.zero, i.size, i.bytes)) = some (some (.int .i64 0), 1, 8) := by kernel_rfl
theorem oneI (x : Int) : ∀ u ∈ encI x, u.oneCell' = true := by intro u hu; simp [encI] at hu; subst hu; rfl

section
variable {w : World} {ops : Array Oper} {rest : List Oper} {o : Oper} {a : Act} {Q : Exit → Act → World → Prop}
/-- .. of numbers. -/
theorem wpl_append_ints (hgd : o.guard = none) (s x : Operand) (ho : o.op = .call { callee := .builtin .append, args := #[s, x], argTypes := #[44, 44] })
    (base : Nat) (v : Value) (l : List Int) (hs : a.eval s = v) (hown : RowOf encI 1 3 w base v l) (v2 : Value) (l2 : List Int) (hx : a.eval x = v2) (hr : Reads encI w v2 l2)
    (hlen : l.length + l2.length ≤ 1000000) (hbase : base ≤ w.heap.size)
    (h : ∀ v' w', RowOf encI 1 3 w' base v' (l ++ l2) → w.grownBy w' v.ownBlock → (v' = .slice none 0 0 ↔ v = .slice none 0 0 ∧ l2 = []) → (v'.ownBlock = v.ownBlock ∨ v'.ownBlock = some w.heap.size) → wpList Try.prog ops Q rest (a.put o.dst v') w') :
    wpList Try.prog ops Q (o :: rest) a w := by
  obtain ⟨i, hi, hz0, hz1, hz2⟩ := info_parts Try.infoI
  exact wpl_append hgd s x 44 ho 3 i (.int .i64 0) 8 Try.underlying44 hi hz0 hz1 hz2 rfl (by decide) (fun _ => rfl) oneI base v l hs hown v2 l2 hx hr (by unfold maxLen; omega) (by omega) hbase h
end

/-- The one element that 'append(s, x)' lays in a block of its own. -/
theorem reads_one {α : Type} {enc : α → List Value} (w : World) (x : α) (t : TypeId) (C : Array Value) (hC : C = (enc x).toArray) : Reads enc (w.alloc (.cells C t)) (.slice (some ⟨w.heap.size, 0, none⟩) 1 1) [x] := by
  subst hC
  refine ⟨_, 1, rfl, Nat.le_refl _, fun e => (by cases e), fun b off sp e => ?_⟩
  cases e
  refine ⟨rfl, fun j u hj => ?_⟩
  simp only [List.flatMap_cons, List.flatMap_nil, List.append_nil] at hj
  rw [Nat.zero_add, World.cell?_alloc_new]
  simpa using hj

end Go.Proofs.Ytggeehmcjndlgaa
