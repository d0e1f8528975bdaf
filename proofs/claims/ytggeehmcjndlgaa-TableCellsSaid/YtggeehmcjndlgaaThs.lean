/-
  Things as a list that rises by their numbers: putting, dropping, looking up; their points; those of a rectangle.
-/
import Derived.Test.YtggeehmcjndlgaaThing
import Derived.Test.YtggeehmcjndlgaaPts
import Derived.Test.YtggeehmcjndlgaaCopy
namespace Go.Proofs.Ytggeehmcjndlgaa
open Go Go.RowKit Go.Sort Go.Shelf
set_option linter.unusedVariables false
set_option linter.unusedSimpArgs false
set_option linter.unnecessarySimpa false

abbrev Ths := List Thg
def zeroF : Fld := ⟨0, ⟨#[]⟩⟩
def zeroT : Thg := ⟨0, 0, 0, zeroF, zeroF, zeroF, zeroF⟩
def ptsT (M : Ths) : Pts := M.map fun x => (x.id, x.x, x.y)
def entT (M : Ths) : Ents := M.map fun x => (x.id, x.val)
def insT (x : Thg) : Ths → Ths
  | [] => [x]
  | y :: r => if x.id < y.id then x :: y :: r else y :: insT x r
def delT (id : Int) (M : Ths) : Ths := M.filter fun x => !(x.id == id)
def putT (x : Thg) (M : Ths) : Ths := insT x (delT x.id M)
def hasT (M : Ths) (id : Int) : Bool := M.any fun x => x.id == id
def getT (M : Ths) (id : Int) : Thg := (M.find? fun x => x.id == id).getD zeroT
def SrtT (M : Ths) : Prop := M.Pairwise fun a b => a.id < b.id
def inT (M : Ths) (r : R4) : Ths := M.filter fun x => inB r x.x x.y

theorem entT_ins (x : Thg) : ∀ M : Ths, entT (insT x M) = insE (x.id, x.val) (entT M)
  | [] => rfl
  | y :: r => by
    simp only [insT, entT, List.map_cons, insE]
    by_cases h : x.id < y.id
    · rw [if_pos h, if_pos h]; rfl
    · rw [if_neg h, if_neg h]
      have := entT_ins x r
      simp only [entT] at this
      rw [List.map_cons, this]
theorem entT_del (id : Int) (M : Ths) : entT (delT id M) = delE id (entT M) := by
  simp only [entT, delT, delE, List.filter_map]
  rfl
theorem entT_put (x : Thg) (M : Ths) : entT (putT x M) = putE x.id x.val (entT M) := by
  simp only [putT, putE, entT_ins, entT_del]
theorem entT_len (M : Ths) : (entT M).length = M.length := by simp [entT]
theorem entT_has (M : Ths) (id : Int) : hasE (entT M) id = hasT M id := by
  simp only [hasE, hasT, entT, List.any_map]
  rfl
theorem entT_look (M : Ths) (id : Int) : (lookE (entT M) id).getD zeroT.val = (getT M id).val := by
  simp only [lookE, entT, List.find?_map, getT]
  have h : ((fun p : Int × Value => p.1 == id) ∘ fun x : Thg => (x.id, x.val)) = fun x => x.id == id := rfl
  rw [h]
  cases M.find? (fun x => x.id == id) <;> rfl
theorem entT_fst (M : Ths) : (entT M).map (·.1) = M.map (·.id) := by simp [entT, List.map_map]

theorem ptsT_ins (x : Thg) : ∀ M : Ths, ptsT (insT x M) = insP (x.id, x.x, x.y) (ptsT M)
  | [] => rfl
  | y :: r => by
    simp only [insT, ptsT, List.map_cons, insP]
    by_cases h : x.id < y.id
    · rw [if_pos h, if_pos h]; rfl
    · rw [if_neg h, if_neg h]
      have := ptsT_ins x r
      simp only [ptsT] at this
      rw [List.map_cons, this]
theorem ptsT_del (id : Int) (M : Ths) : ptsT (delT id M) = delP id (ptsT M) := by
  simp only [ptsT, delT, delP, List.filter_map]
  rfl
theorem ptsT_put (x : Thg) (M : Ths) : ptsT (putT x M) = putP x.id (x.x, x.y) (ptsT M) := by
  simp only [putT, putP, ptsT_ins, ptsT_del]
theorem ptsT_len (M : Ths) : (ptsT M).length = M.length := by simp [ptsT]
theorem ptsT_has (M : Ths) (id : Int) : hasP (ptsT M) id = hasT M id := by
  simp only [hasP, hasT, ptsT, List.any_map]
  rfl
theorem ptsT_srt {M : Ths} (h : SrtT M) : Srt (ptsT M) := List.pairwise_map.2 h
theorem ptsT_srt' {M : Ths} (h : Srt (ptsT M)) : SrtT M := by
  unfold Srt ptsT at h
  rw [List.pairwise_map] at h
  exact h
theorem ptsT_in (M : Ths) (r : R4) : inL (ptsT M) r = (inT M r).map (·.id) := by
  simp only [inL, inT, ptsT, List.filter_map, List.map_map]
  rfl

theorem mem_insT {x y : Thg} : ∀ {M : Ths}, y ∈ insT x M ↔ y = x ∨ y ∈ M
  | [] => by simp [insT]
  | z :: r => by
    simp only [insT]
    split
    · simp
    · simp only [List.mem_cons, mem_insT (M := r)]
      constructor
      · rintro (h | h | h) <;> simp [h]
      · rintro (h | h | h) <;> simp [h]
theorem mem_delT {y : Thg} {id : Int} {M : Ths} : y ∈ delT id M ↔ y ∈ M ∧ y.id ≠ id := by simp [delT]
theorem mem_putT {y x : Thg} {M : Ths} : y ∈ putT x M ↔ y = x ∨ (y ∈ M ∧ y.id ≠ x.id) := by rw [putT, mem_insT, mem_delT]
theorem hasT_iff {M : Ths} {id : Int} : hasT M id = true ↔ ∃ x ∈ M, x.id = id := by simp [hasT]
theorem SrtT.del {M : Ths} (h : SrtT M) (id : Int) : SrtT (delT id M) := List.Pairwise.filter _ h
theorem SrtT.put {M : Ths} (h : SrtT M) (x : Thg) : SrtT (putT x M) := ptsT_srt' (by rw [ptsT_put]; exact (ptsT_srt h).put _ _)
theorem SrtT.inT {M : Ths} (h : SrtT M) (r : R4) : SrtT (inT M r) := List.Pairwise.filter _ h
theorem find_memT : ∀ {M : Ths}, SrtT M → ∀ {x : Thg}, x ∈ M → (M.find? fun y => y.id == x.id) = some x
  | [], _, x, h => by cases h
  | z :: M, hs, x, h => by
    obtain ⟨h1, h2⟩ := List.pairwise_cons.1 hs
    rw [List.find?_cons]
    rcases List.mem_cons.1 h with rfl | h
    · simp
    · have := h1 x h
      have hne : (z.id == x.id) = false := beq_eq_false_iff_ne.2 (by omega)
      rw [hne]
      exact find_memT h2 h
theorem getT_mem {M : Ths} (hs : SrtT M) {x : Thg} (h : x ∈ M) : getT M x.id = x := by
  unfold getT
  rw [find_memT hs h]; rfl
theorem getT_has {M : Ths} {id : Int} (h : hasT M id = true) : getT M id ∈ M ∧ (getT M id).id = id := by
  unfold getT
  cases hf : M.find? (fun x => x.id == id) with
  | none =>
    rw [List.find?_eq_none] at hf
    obtain ⟨x, hx, e⟩ := hasT_iff.1 h
    exact absurd (by simpa using e) (hf x hx)
  | some x =>
    have h1 := List.mem_of_find?_eq_some hf
    have h2 := List.find?_some hf
    exact ⟨h1, by simpa using h2⟩
theorem getT_no {M : Ths} {id : Int} (h : hasT M id = false) : getT M id = zeroT := by
  unfold getT
  have : M.find? (fun x => x.id == id) = none := List.find?_eq_none.2 fun x hx hh => by
    have : hasT M id = true := List.any_eq_true.2 ⟨x, hx, hh⟩
    rw [h] at this; cases this
  rw [this]; rfl
theorem insT_len (x : Thg) (M : Ths) : (insT x M).length = M.length + 1 := by
  have := congrArg List.length (ptsT_ins x M)
  rw [ptsT_len, (ins_perm _ _).length_eq, List.length_cons, ptsT_len] at this
  exact this
theorem putT_len (x : Thg) (M : Ths) : (putT x M).length ≤ M.length + 1 := by
  have h2 : (delT x.id M).length ≤ M.length := List.length_filter_le _ _
  rw [putT, insT_len]; omega
theorem delT_len (id : Int) (M : Ths) : (delT id M).length ≤ M.length := List.length_filter_le _ _
theorem delT_none {M : Ths} {id : Int} (h : hasT M id = false) : delT id M = M := List.filter_eq_self.2 fun x hx => by
  have : x.id ≠ id := fun e => by rw [hasT_iff.2 ⟨x, hx, e⟩] at h; cases h
  simp [this]
theorem putT_len_new {x : Thg} {M : Ths} (h : hasT M x.id = false) : (putT x M).length = M.length + 1 := by rw [putT, insT_len, delT_none h]
theorem delT_len_has {M : Ths} (hs : SrtT M) {id : Int} (h : hasT M id = true) : (delT id M).length + 1 = M.length := by
  induction M with
  | nil => simp [hasT] at h
  | cons z M ih =>
    obtain ⟨h1, h2⟩ := List.pairwise_cons.1 hs
    by_cases hz : z.id = id
    · have hn : hasT M id = false := by
        cases h' : hasT M id
        · rfl
        · obtain ⟨x, hx, e⟩ := hasT_iff.1 h'
          have := h1 x hx
          omega
      have : delT id (z :: M) = delT id M := by simp [delT, List.filter_cons, hz]
      rw [this, delT_none hn]; rfl
    · have hh : hasT M id = true := by simpa [hasT, hz] using h
      have : delT id (z :: M) = z :: delT id M := by simp [delT, List.filter_cons, hz]
      rw [this, List.length_cons, ih h2 hh]; rfl
theorem putT_len_has {M : Ths} (hs : SrtT M) {x : Thg} (h : hasT M x.id = true) : (putT x M).length = M.length := by rw [putT, insT_len, delT_len_has hs h]
end Go.Proofs.Ytggeehmcjndlgaa
