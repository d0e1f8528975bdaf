/-
  Fields and things compared ('==', '!=').
-/
import Derived.Test.YtggeehmcjndlgaaThs
import Derived.ChangeKeysEq
namespace Go.Proofs.Ytggeehmcjndlgaa
open Go Go.RowKit Go.Sort Go.Shelf
set_option linter.unusedVariables false
set_option linter.unusedSimpArgs false
set_option linter.unnecessarySimpa false

theorem Try.infoF : ∃ i, Try.prog.info? 60 = some i := by
  have h : (Try.prog.info? 60).isSome = true := by kernel_rfl
  exact Option.isSome_iff_exists.1 h
theorem c_field : Try.prog.cellsOf 60 = 2 := by kernel_rfl
theorem fld_ext {f g : Fld} : f = g ↔ f.n = g.n ∧ f.t.toList = g.t.toList := by
  cases f with | mk n t => cases g with | mk m u =>
  simp only [Fld.mk.injEq, ByteArray.toList_eq]
  constructor
  · rintro ⟨rfl, rfl⟩; exact ⟨rfl, rfl⟩
  · rintro ⟨rfl, h⟩
    refine ⟨rfl, ?_⟩
    cases t with | mk a => cases u with | mk b =>
    have : a = b := Array.toList_inj.1 h
    rw [this]

set_option maxHeartbeats 1000000 in
theorem eq_field (d : Nat) (f g : Fld) (w : World) : (Op.equalIn (d + 2) 60 (.agg #[.int .i64 f.n, .string f.t]) (.agg #[.int .i64 g.n, .string g.t])).run Try.prog w = .ok (decide (f = g)) w := by
  rw [run_equalIn_struct _ (d + 1) 60 _ _ (by kernel_rfl) (by kernel_rfl)]
  simp only [fld_ext]
  simp [go_sem, Try.underlying60]
  by_cases h1 : f.n = g.n <;> by_cases h2 : f.t.toList = g.t.toList <;> simp [h1, h2]

theorem eq_fields (d : Nat) (a b c e a' b' c' e' : Fld) (w : World) :
    (Op.equalIn (d + 3) 61 (.agg #[.int .i64 a.n, .string a.t, .int .i64 b.n, .string b.t, .int .i64 c.n, .string c.t, .int .i64 e.n, .string e.t]) (.agg #[.int .i64 a'.n, .string a'.t, .int .i64 b'.n, .string b'.t, .int .i64 c'.n, .string c'.t, .int .i64 e'.n, .string e'.t])).run Try.prog w
      = .ok (decide (a = a' ∧ b = b' ∧ c = c' ∧ e = e')) w := by
  obtain ⟨i, hi⟩ := Try.infoF
  rw [run_equalIn_array w (d + 2) _ _ Try.underlying61 hi, c_field]
  simp only [show List.range 4 = [0, 1, 2, 3] from rfl]
  simp [Op.eqItems, go_sem, eq_field]
  by_cases h1 : a = a' <;> by_cases h2 : b = b' <;> by_cases h3 : c = c' <;> by_cases h4 : e = e' <;> simp [h1, h2, h3, h4]
/-- .. as a struct's part, at the depth where the walk meets it. -/
theorem eq_fields_in (a b c e a' b' c' e' : Fld) (w : World) :
    (Op.equalIn 9999 61 (.agg #[.int .i64 a.n, .string a.t, .int .i64 b.n, .string b.t, .int .i64 c.n, .string c.t, .int .i64 e.n, .string e.t]) (.agg #[.int .i64 a'.n, .string a'.t, .int .i64 b'.n, .string b'.t, .int .i64 c'.n, .string c'.t, .int .i64 e'.n, .string e'.t])).run Try.prog w
      = .ok (decide (a = a' ∧ b = b' ∧ c = c' ∧ e = e')) w := eq_fields 9996 a b c e a' b' c' e' w
theorem eq_fields_same (x : Thg) (w : World) :
    (Op.equalIn 9999 61 (.agg #[.int .i64 x.a.n, .string x.a.t, .int .i64 x.b.n, .string x.b.t, .int .i64 x.c.n, .string x.c.t, .int .i64 x.d.n, .string x.d.t]) (.agg #[.int .i64 x.a.n, .string x.a.t, .int .i64 x.b.n, .string x.b.t, .int .i64 x.c.n, .string x.c.t, .int .i64 x.d.n, .string x.d.t])).run Try.prog w
      = .ok true w := by rw [eq_fields_in]; simp
end Go.Proofs.Ytggeehmcjndlgaa
