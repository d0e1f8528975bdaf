/-
  Things as arguments.
-/
import Derived.Test.YtggeehmcjndlgaaFew
import Derived.Test.YtggeehmcjndlgaaIn
import Derived.OpenShut
namespace Go.Proofs.Ytggeehmcjndlgaa
open Go Go.RowKit Go.ChangeShapes Go.WideShapes Go.Deep
set_option linter.unusedVariables false
set_option linter.unusedSimpArgs false
set_option linter.unnecessarySimpa false

instance : Inhabited Thg := ⟨zeroT⟩
def encFld (f : Fld) : List Value := [.int .i64 f.n, .string f.t]
def wfT (x : Thg) : Prop := (Lit.int .i64 x.id).wf = true ∧ okT x
theorem c_int64 : Try.prog.cellsOf 2 = 1 := by kernel_rfl
theorem c_str : Try.prog.cellsOf 9 = 1 := by kernel_rfl
theorem c_fields4 : Try.prog.cellsOf 61 = 8 := by kernel_rfl
theorem c_thing11 : Try.prog.cellsOf 63 = 11 := by kernel_rfl

section
variable {H : Type} {enc : TypeId × Value → H} {w : World} {base : Nat} {spare : Nat → Bool} {held : Bool}
set_option maxRecDepth 100000 in
theorem el_field {n : Nat} {cs : List Value} {x : DataW H × List MemPlace} (h : DataW.trod enc Try.prog w base spare held n 60 cs = some x) : ∃ y, cs = encFld y ∧ okF y := by
  obtain ⟨xs, k, _, _, hlen, hxs, hf⟩ := DataW.trod_struct Try.underlying60 h
  have hlen : cs.length = 2 := hlen.trans c_field
  have hxs : xs.length = 2 := hxs
  match cs, hlen with
  | [v0, v1], _ =>
    have g0 := hf 0 _ rfl
    have g1 := hf 1 _ rfl
    simp [c_int64, c_str] at g0 g1
    rw [List.getElem?_eq_getElem (by omega)] at g0
    obtain ⟨a, ea, _, ha⟩ := DataW.trod_int Try.underlying2 g0
    simp only [List.cons.injEq, and_true] at ea
    subst ea
    rw [List.getElem?_eq_getElem (by omega)] at g1
    obtain ⟨s, hs, _, hsz⟩ := DataW.trod_string Try.underlying9 g1
    simp only [List.cons.injEq, and_true] at hs
    subst hs
    exact ⟨⟨a, s⟩, rfl, by unfold okF; unfold maxLen at hsz; omega⟩
set_option maxRecDepth 100000 in
theorem el_fields {n : Nat} {cs : List Value} {x : DataW H × List MemPlace} (h : DataW.trod enc Try.prog w base spare held n 61 cs = some x) : ∃ a b c d, cs = encFld a ++ (encFld b ++ (encFld c ++ encFld d)) ∧ okF a ∧ okF b ∧ okF c ∧ okF d := by
  obtain ⟨xs, k, _, _, hlen, hxs, hf⟩ := DataW.trod_array Try.underlying61 h
  have hlen : cs.length = 8 := hlen.trans c_fields4
  match cs, hlen with
  | [v0, v1, v2, v3, v4, v5, v6, v7], _ =>
    have g0 := hf 0 (by decide)
    have g1 := hf 1 (by decide)
    have g2 := hf 2 (by decide)
    have g3 := hf 3 (by decide)
    simp [c_field] at g0 g1 g2 g3
    rw [List.getElem?_eq_getElem (by omega)] at g0 g1 g2 g3
    obtain ⟨a, ea, ha⟩ := el_field g0
    obtain ⟨b, eb, hb⟩ := el_field g1
    obtain ⟨c, ec, hc⟩ := el_field g2
    obtain ⟨d, ed, hd⟩ := el_field g3
    simp only [encFld, List.cons.injEq, and_true] at ea eb ec ed
    obtain ⟨rfl, rfl⟩ := ea
    obtain ⟨rfl, rfl⟩ := eb
    obtain ⟨rfl, rfl⟩ := ec
    obtain ⟨rfl, rfl⟩ := ed
    exact ⟨a, b, c, d, rfl, ha, hb, hc, hd⟩
set_option maxRecDepth 100000 in
theorem el_thing {n : Nat} {cs : List Value} {x : DataW H × List MemPlace} (h : DataW.trod enc Try.prog w base spare held n 63 cs = some x) : ∃ y, cs = encT y ∧ wfT y := by
  obtain ⟨xs, k, _, _, hlen, hxs, hf⟩ := DataW.trod_struct Try.underlying63 h
  have hlen : cs.length = 11 := hlen.trans c_thing11
  have hxs : xs.length = 3 := hxs
  match cs, hlen with
  | [v0, v1, v2, v3, v4, v5, v6, v7, v8, v9, v10], _ =>
    have g0 := hf 0 _ rfl
    have g1 := hf 1 _ rfl
    have g2 := hf 2 _ rfl
    simp [c_int, c_point, c_fields4] at g0 g1 g2
    obtain ⟨i, rfl, hi⟩ := int_cell (by omega) g0
    rw [List.getElem?_eq_getElem (by omega)] at g1 g2
    obtain ⟨p, hp, hwp⟩ := el_point g1
    obtain ⟨a, b, c, d, hfs, ha, hb, hc, hd⟩ := el_fields g2
    simp only [encPt, List.cons.injEq, and_true] at hp
    obtain ⟨rfl, rfl⟩ := hp
    simp only [encFld, List.cons_append, List.nil_append, List.cons.injEq, and_true] at hfs
    obtain ⟨rfl, rfl, rfl, rfl, rfl, rfl, rfl, rfl⟩ := hfs
    exact ⟨⟨i, p.1, p.2, a, b, c, d⟩, rfl, hi, ha, hb, hc, hd⟩
theorem row_len {α : Type} {encE : α → List Value} {k : Nat} {t e : TypeId} (ht : Try.prog.underlying t = some (.slice e)) {v : Value} {d : DataW H} {p : List MemPlace} {l : List α} (h : DataW.Trod enc Try.prog w base spare held t v d p) (hl : InRow encE k w v l) : (l.length : Int) ≤ 9223372036854775807 := by
  obtain ⟨ao, cap, rfl⟩ := hl.len
  obtain ⟨fuel, hf⟩ := h
  rcases DataW.trod_slice ht hf with ⟨hcs, _⟩ | ⟨a, len, cap', elems, rest, n, _, hcs, _, _, h1, h2, _⟩
  · simp [Value.cells] at hcs
    rw [hcs.2.1]; simp
  · simp [Value.cells] at hcs
    unfold maxLen at h2
    omega
end
end Go.Proofs.Ytggeehmcjndlgaa
