/-
  Arguments that came in: a slice's elements, a struct's fields, as numbers.
-/
import Derived.Test.YtggeehmcjndlgaaRow
import Derived.Test.YtggeehmcjndlgaaGeom
import Derived.Test.YtggeehmcjndlgaaRows
import Derived.ProofKit
import Derived.Deep.Slices
import Derived.OpenShut
namespace Go.Proofs.Ytggeehmcjndlgaa
open Go Go.RowKit Go.ChangeShapes Go.WideShapes Go.Deep

/-- v is a slice that came in and holds l, k cells an element. -/
def InRow {α : Type} (enc : α → List Value) (k : Nat) (w : World) (v : Value) (l : List α) : Prop :=
  ∃ ao cap, v = .slice ao l.length cap ∧ ∀ j x, l[j]? = some x → ∃ b off, ao = some ⟨b, off, none⟩ ∧ ∀ i u, (enc x)[i]? = some u → w.cell? ⟨b, off + j * k + i, none⟩ = some u
theorem InRow.len {α : Type} {enc : α → List Value} {k : Nat} {w : World} {v : Value} {l : List α} (h : InRow enc k w v l) : ∃ ao cap, v = .slice ao l.length cap := let ⟨ao, cap, e, _⟩ := h; ⟨ao, cap, e⟩
theorem InRow.cell {α : Type} {enc : α → List Value} {k : Nat} {w : World} {v : Value} {l : List α} (h : InRow enc k w v l) {ao : Option Addr} {n cap : Nat} (hv : v = .slice ao n cap) {j : Nat} {x : α} (hj : l[j]? = some x) :
    ∃ b off, ao = some ⟨b, off, none⟩ ∧ ∀ i u, (enc x)[i]? = some u → w.cell? ⟨b, off + j * k + i, none⟩ = some u := by
  obtain ⟨ao', cap', rfl, hr⟩ := h
  injection hv with e1 _ _
  subst e1
  exact hr j x hj

section
variable {H : Type} {enc : TypeId × Value → H} {w : World} {base : Nat} {spare : Nat → Bool} {held : Bool}

theorem in_row {α : Type} [Inhabited α] {encE : α → List Value} {k : Nat} (hk : 0 < k) {t e : TypeId} (ht : Try.prog.underlying t = some (.slice e)) (hc : Try.prog.cellsOf e = k) {R : α → Prop}
    (hel : ∀ n cs x, DataW.trod enc Try.prog w base spare held n e cs = some x → ∃ y, cs = encE y ∧ R y) {v : Value} {d : DataW H} {p : List MemPlace}
    (h : DataW.Trod enc Try.prog w base spare held t v d p) (hv : ∃ a len cap, v = .slice a len cap) : ∃ l, InRow encE k w v l ∧ ∀ y ∈ l, R y := by
  obtain ⟨a0, len0, cap0, rfl⟩ := hv
  obtain ⟨fuel, hf⟩ := h
  rcases open_slice ht hf with ⟨hcs, hx⟩ | ⟨a, len, cap, m, n, D, Pl, hcs, hb, hl, hm, hmm, hx, hel'⟩
  · simp [Value.cells] at hcs
    obtain ⟨rfl, rfl, rfl⟩ := hcs
    exact ⟨[], ⟨none, 0, rfl, fun j x hj => by simp at hj⟩, fun y hy => by cases hy⟩
  · simp [Value.cells] at hcs
    obtain ⟨rfl, rfl, rfl⟩ := hcs
    have hlm : len0 ≤ m := by rw [hmm]; split <;> omega
    have each : ∀ i, i < len0 → ∃ y : α, (∀ j, j < k → w.cell? (a.add (i * k + j)) = (encE y)[j]?) ∧ (encE y).length = k ∧ R y := by
      intro i hi
      obtain ⟨cs', h1, h2⟩ := hel' i (by omega)
      obtain ⟨y, rfl, hR⟩ := hel _ _ _ h2
      rw [hc] at h1
      obtain ⟨_, g2, g3⟩ := World.cells?_some h1
      refine ⟨y, fun j hj => ?_, g2, hR⟩
      rw [← add_add]
      exact g3 j hj
    obtain ⟨Y, hY⟩ := choose_lt each
    refine ⟨(List.range len0).map Y, ⟨some a, cap0, by simp, fun j x hj => ?_⟩, fun y hy => ?_⟩
    · rw [List.getElem?_map] at hj
      have hjl : j < len0 := by
        rcases Nat.lt_or_ge j len0 with h | h
        · exact h
        · rw [List.getElem?_eq_none (by simpa using h)] at hj; cases hj
      rw [List.getElem?_range hjl] at hj
      simp only [Option.map_some, Option.some.injEq] at hj
      subst hj
      have hsp : a.spot = none := by
        have h0 := (hY 0 (by omega)).1 0 hk
        have hl0 := (hY 0 (by omega)).2.1
        rw [Nat.zero_mul, List.getElem?_eq_getElem (by omega)] at h0
        simp only [World.cell?, Addr.add, if_true, Nat.add_zero] at h0
        split at h0
        · split at h0
          · cases h0
          · rename_i hn
            cases hs : a.spot
            · rfl
            · rw [hs] at hn; simp at hn
        · cases h0
      obtain ⟨b, off, sp⟩ := a
      simp only at hsp
      subst hsp
      refine ⟨b, off, rfl, fun i u hi => ?_⟩
      have hik : i < k := by
        have := (List.getElem?_eq_some_iff.1 hi).1
        have h2 := (hY j hjl).2.1
        omega
      have := (hY j hjl).1 i hik
      rw [add_plain, ← Nat.add_assoc] at this
      rw [this, hi]
    · obtain ⟨i, hi, rfl⟩ := List.mem_map.1 hy
      exact (hY i (List.mem_range.1 hi)).2.2

/-- A point's two numbers. -/
def encPt (p : Int × Int) : List Value := [.int .i64 p.1, .int .i64 p.2]
def wfPt (p : Int × Int) : Prop := (Lit.int .i64 p.1).wf = true ∧ (Lit.int .i64 p.2).wf = true

def encR4 (r : R4) : List Value := [.int .i64 r.x0, .int .i64 r.y0, .int .i64 r.x1, .int .i64 r.y1]
def wfR4 (r : R4) : Prop := (Lit.int .i64 r.x0).wf = true ∧ (Lit.int .i64 r.y0).wf = true ∧ (Lit.int .i64 r.x1).wf = true ∧ (Lit.int .i64 r.y1).wf = true

theorem int_cell {k : Nat} {v : Value} {xs : List (DataW H × List MemPlace)} {i : Nat} (hi : i < xs.length) (g : DataW.trod enc Try.prog w base spare held k 3 [v] = xs[i]?) : ∃ n, v = .int .i64 n ∧ (Lit.int .i64 n).wf = true := by
  rw [List.getElem?_eq_getElem hi] at g
  obtain ⟨n, h1, _, h2⟩ := DataW.trod_int Try.underlying3 g
  exact ⟨n, by simpa using h1, h2⟩

theorem c_int : Try.prog.cellsOf 3 = 1 := by kernel_rfl
theorem c_point : Try.prog.cellsOf 31 = 2 := by kernel_rfl
theorem c_rect : Try.prog.cellsOf 33 = 4 := by kernel_rfl

set_option maxRecDepth 100000 in
theorem el_point {n : Nat} {cs : List Value} {x : DataW H × List MemPlace} (h : DataW.trod enc Try.prog w base spare held n 31 cs = some x) : ∃ y, cs = encPt y ∧ wfPt y := by
  obtain ⟨xs, k, _, _, hlen, hxs, hf⟩ := DataW.trod_struct Try.underlying31 h
  have hlen : cs.length = 2 := hlen.trans c_point
  have hxs : xs.length = 2 := hxs
  match cs, hlen with
  | [v0, v1], _ =>
    have g0 := hf 0 _ rfl
    have g1 := hf 1 _ rfl
    simp [c_int] at g0 g1
    obtain ⟨a, rfl, ha⟩ := int_cell (by omega) g0
    obtain ⟨b, rfl, hb⟩ := int_cell (by omega) g1
    exact ⟨(a, b), rfl, ha, hb⟩

set_option maxRecDepth 100000 in
theorem el_rect {n : Nat} {cs : List Value} {x : DataW H × List MemPlace} (h : DataW.trod enc Try.prog w base spare held n 33 cs = some x) : ∃ y, cs = encR4 y ∧ wfR4 y := by
  obtain ⟨xs, k, _, _, hlen, hxs, hf⟩ := DataW.trod_struct Try.underlying33 h
  have hlen : cs.length = 4 := hlen.trans c_rect
  have hxs : xs.length = 4 := hxs
  match cs, hlen with
  | [v0, v1, v2, v3], _ =>
    have g0 := hf 0 _ rfl
    have g1 := hf 1 _ rfl
    have g2 := hf 2 _ rfl
    have g3 := hf 3 _ rfl
    simp [c_int] at g0 g1 g2 g3
    obtain ⟨a, rfl, ha⟩ := int_cell (by omega) g0
    obtain ⟨b, rfl, hb⟩ := int_cell (by omega) g1
    obtain ⟨c, rfl, hc⟩ := int_cell (by omega) g2
    obtain ⟨d, rfl, hd⟩ := int_cell (by omega) g3
    exact ⟨⟨a, b, c, d⟩, rfl, ha, hb, hc, hd⟩

set_option maxRecDepth 100000 in
/-- A struct that is an argument itself. -/
theorem val_struct {α : Type} {encE : α → List Value} {R : α → Prop} {t : TypeId} {fs : Array Field} (ht : Try.prog.underlying t = some (.struct fs))
    (hel : ∀ n cs x, DataW.trod enc Try.prog w base spare held n t cs = some x → ∃ y, cs = encE y ∧ R y) {r : Reach} {b0 : Nat} {v : Value} {d : DataW H} {p : List MemPlace}
    (hv : Value.okWide Try.prog w r b0 t v) (h : DataW.Trod enc Try.prog w base spare held t v d p) : ∃ y, v = .agg (encE y).toArray ∧ R y := by
  simp only [Value.okWide, ht] at hv
  obtain ⟨cs, rfl, _⟩ := hv
  obtain ⟨fuel, hf⟩ := h
  obtain ⟨y, hy, hR⟩ := hel _ _ _ hf
  refine ⟨y, ?_, hR⟩
  simp only [Value.cells] at hy
  rw [← hy]
end
end Go.Proofs.Ytggeehmcjndlgaa
