/-
  QuadPlays: its argument.
-/
import Derived.Test.YtggeehmcjndlgaaPlays
import Derived.Test.YtggeehmcjndlgaaIn
namespace Go.Proofs.Ytggeehmcjndlgaa
open Go Go.RowKit Go.ChangeShapes Go.WideShapes Go.Deep

instance : Inhabited S8 := ⟨⟨0, 0, 0, 0, ⟨0, 0, 0, 0⟩⟩⟩
def wfS8 (s : S8) : Prop := (Lit.int .i64 s.what).wf = true ∧ (Lit.int .i64 s.id).wf = true ∧ wfPt (s.x, s.y) ∧ wfR4 s.r
theorem c_step8 : Try.prog.cellsOf 35 = 8 := by kernel_rfl

section
variable {H : Type} {enc : TypeId × Value → H} {w : World} {base : Nat} {spare : Nat → Bool} {held : Bool}
set_option maxRecDepth 100000 in
theorem el_step8 {n : Nat} {cs : List Value} {x : DataW H × List MemPlace} (h : DataW.trod enc Try.prog w base spare held n 35 cs = some x) : ∃ y, cs = encS8 y ∧ wfS8 y := by
  obtain ⟨xs, k, _, _, hlen, hxs, hf⟩ := DataW.trod_struct Try.underlying35 h
  have hlen : cs.length = 8 := hlen.trans c_step8
  have hxs : xs.length = 4 := hxs
  match cs, hlen with
  | [v0, v1, v2, v3, v4, v5, v6, v7], _ =>
    have g0 := hf 0 _ rfl
    have g1 := hf 1 _ rfl
    have g2 := hf 2 _ rfl
    have g3 := hf 3 _ rfl
    simp [c_int, c_point, c_rect] at g0 g1 g2 g3
    obtain ⟨a, rfl, ha⟩ := int_cell (by omega) g0
    obtain ⟨b, rfl, hb⟩ := int_cell (by omega) g1
    rw [List.getElem?_eq_getElem (by omega)] at g2 g3
    obtain ⟨p, hp, hwp⟩ := el_point g2
    obtain ⟨r, hr, hwr⟩ := el_rect g3
    simp only [encPt, encR4, List.cons.injEq, and_true] at hp hr
    obtain ⟨rfl, rfl⟩ := hp
    obtain ⟨rfl, rfl, rfl, rfl⟩ := hr
    exact ⟨⟨a, b, p.1, p.2, r⟩, rfl, ha, hb, hwp, hwr⟩
end
end Go.Proofs.Ytggeehmcjndlgaa
