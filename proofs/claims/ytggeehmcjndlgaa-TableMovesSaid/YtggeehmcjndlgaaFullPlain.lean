/-
  A full table: two hundred things, one after another.
-/
import Derived.Test.YtggeehmcjndlgaaFew
namespace Go.Proofs.Ytggeehmcjndlgaa
open Go Go.RowKit Go.Sort Go.Shelf
set_option linter.unusedVariables false
set_option linter.unusedSimpArgs false
set_option linter.unnecessarySimpa false

theorem insT_end {x : Thg} : ∀ {M : Ths}, (∀ z ∈ M, z.id < x.id) → insT x M = M ++ [x]
  | [], _ => rfl
  | z :: l, h => by
    have h1 := h z (by simp)
    rw [insT, if_neg (by omega), insT_end fun y hy => h y (List.mem_cons_of_mem _ hy)]
    rfl
theorem wfI {n : Int} (h : -9223372036854775808 ≤ n) (h' : n ≤ 9223372036854775807) : (Lit.int .i64 n).wf = true := by
  have e1 : IntKind.i64.min = -9223372036854775808 := rfl
  have e2 : IntKind.i64.max = 9223372036854775807 := rfl
  simp [Lit.wf, e1, e2]
  omega
def tj (i : Nat) : Thg := ⟨3 * (i : Int), (i : Int) % 64, (i : Int) / 64, zeroF, zeroF, zeroF, zeroF⟩
def Mf (i : Nat) : Ths := (List.range i).map tj
theorem Mf_succ (i : Nat) : Mf (i + 1) = Mf i ++ [tj i] := by unfold Mf; rw [List.range_succ, List.map_append]; rfl
theorem Mf_len (i : Nat) : (Mf i).length = i := by simp [Mf]
theorem Mf_mem {i : Nat} {x : Thg} : x ∈ Mf i ↔ ∃ j, j < i ∧ tj j = x := by simp [Mf]
theorem Mf_no {i : Nat} {id : Int} (h : ∀ j : Nat, j < i → 3 * (j : Int) ≠ id) : hasT (Mf i) id = false := by
  cases hh : hasT (Mf i) id
  · rfl
  · obtain ⟨x, hx, e⟩ := hasT_iff.1 hh
    obtain ⟨j, hj, rfl⟩ := Mf_mem.1 hx
    exact absurd e (h j hj)
theorem Mf_yes {i j : Nat} (h : j < i) : hasT (Mf i) (3 * (j : Int)) = true := hasT_iff.2 ⟨tj j, Mf_mem.2 ⟨j, h, rfl⟩, rfl⟩
theorem zf : fldB zeroF = true := by decide
theorem thgB_z {id x y : Int} (h : 0 ≤ id) (h' : id ≤ 1000000) (hx : 0 ≤ x) (hx' : x < 64) (hy : 0 ≤ y) (hy' : y < 64) : thgB ⟨id, x, y, zeroF, zeroF, zeroF, zeroF⟩ = true :=
  thgB_iff.2 ⟨h, h', by unfold onB; exact decide_eq_true ⟨hx, hx', hy, hy'⟩, zf, zf, zf, zf⟩
theorem okZ {id x y : Int} : okT ⟨id, x, y, zeroF, zeroF, zeroF, zeroF⟩ := by
  have : okF zeroF := by unfold okF; decide
  exact ⟨this, this, this, this⟩
theorem Mf_putC {i : Nat} (h : i < 200) : tputC (Mf i) (tj i) = 0 := by
  unfold tputC
  rw [if_neg, if_neg]
  · rw [Mf_len]; omega
  · rintro (e | e)
    · have : thgB (tj i) = true := thgB_z (by omega) (by omega) (by omega) (by omega) (by omega) (by omega)
      rw [this] at e; cases e
    · rw [Mf_no (id := (tj i).id) (fun j hj e => by simp only [tj] at e; omega)] at e; cases e
theorem Mf_put {i : Nat} (h : i < 200) : tputT (Mf i) (tj i) = Mf (i + 1) := by
  have hn : hasT (Mf i) (tj i).id = false := Mf_no fun j hj e => by simp only [tj] at e; omega
  rw [tputT_yes (Mf_putC h), putT, delT_none hn, insT_end, Mf_succ]
  intro z hz
  obtain ⟨j, hj, rfl⟩ := Mf_mem.1 hz
  simp only [tj]; omega
def one : Thg := ⟨1, 0, 0, zeroF, zeroF, zeroF, zeroF⟩
theorem thgB_one : thgB one = true := thgB_z (by decide) (by decide) (by decide) (by decide) (by decide) (by decide)
theorem Mf_one : hasT (Mf 200) 1 = false := Mf_no fun j _ e => by omega
theorem full_C : tputC (Mf 200) one = 16 := by
  unfold tputC
  rw [if_neg, if_pos (by rw [Mf_len]; decide)]
  rintro (e | e)
  · rw [thgB_one] at e; cases e
  · rw [show one.id = 1 from rfl, Mf_one] at e; cases e
theorem full_T : tputT (Mf 200) one = Mf 200 := tputT_no (by rw [full_C]; decide)
def far (j : Nat) : Thg := ⟨3 * (j : Int), 63, 63, zeroF, zeroF, zeroF, zeroF⟩
theorem thgB_far {j : Nat} (h : j < 200) : thgB (far j) = true := thgB_z (by omega) (by omega) (by decide) (by decide) (by decide) (by decide)
theorem far_C {j : Nat} (h : j < 200) : tsetC (Mf 200) (far j) = 0 := by
  unfold tsetC
  rw [if_neg (by rw [thgB_far h]; decide), if_neg]
  rw [show (far j).id = 3 * (j : Int) from rfl, Mf_yes h]; decide
def Mg (j : Nat) : Ths := tsetT (Mf 200) (far j)
theorem Mg_eq {j : Nat} (h : j < 200) : Mg j = putT (far j) (Mf 200) := tsetT_yes (far_C h)
theorem Mg_len {j : Nat} (h : j < 200) (hs : SrtT (Mf 200)) : (Mg j).length = 200 := by rw [Mg_eq h, putT_len_has hs (Mf_yes h), Mf_len]
theorem Mg_has {j : Nat} (h : j < 200) : hasT (Mg j) (3 * (j : Int)) = true := hasT_iff.2 ⟨far j, by rw [Mg_eq h]; exact mem_putT.2 (.inl rfl), rfl⟩
theorem Mg_C {j : Nat} (h : j < 200) : tdropC (Mg j) (3 * (j : Int)) = 0 := by unfold tdropC; rw [Mg_has h]; rfl
def Mh (j : Nat) : Ths := delT (3 * (j : Int)) (Mg j)
theorem Mh_len {j : Nat} (h : j < 200) (hs : SrtT (Mf 200)) : (Mh j).length = 199 := by
  have h1 : SrtT (Mg j) := by rw [Mg_eq h]; exact hs.put _
  have := delT_len_has h1 (Mg_has h)
  have h2 := Mg_len h hs
  unfold Mh; omega
theorem Mh_no {j : Nat} (h : j < 200) : hasT (Mh j) 1 = false := by
  cases hh : hasT (Mh j) 1
  · rfl
  · obtain ⟨x, hx, e⟩ := hasT_iff.1 hh
    have hx := (mem_delT.1 hx).1
    rw [Mg_eq h] at hx
    rcases mem_putT.1 hx with rfl | ⟨hx, _⟩
    · simp only [far] at e; omega
    · have := hasT_iff.2 ⟨x, hx, e⟩
      rw [Mf_one] at this; cases this
theorem Mh_C {j : Nat} (h : j < 200) (hs : SrtT (Mf 200)) : tputC (Mh j) one = 0 := by
  unfold tputC
  rw [if_neg, if_neg (by rw [Mh_len h hs]; decide)]
  rintro (e | e)
  · rw [thgB_one] at e; cases e
  · rw [show one.id = 1 from rfl, Mh_no h] at e; cases e
theorem Mh_T {j : Nat} (h : j < 200) (hs : SrtT (Mf 200)) : (tputT (Mh j) one).length = 200 := by
  rw [tputT_yes (Mh_C h hs), putT_len_new (Mh_no h), Mh_len h hs]
end Go.Proofs.Ytggeehmcjndlgaa
