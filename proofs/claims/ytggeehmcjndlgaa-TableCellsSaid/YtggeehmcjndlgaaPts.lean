/-
  Numbers with their points as a sorted list: putting, dropping, looking up; what a rectangle has, in order.
-/
import Derived.Test.YtggeehmcjndlgaaCan
namespace Go.Proofs.Ytggeehmcjndlgaa
open Go Go.RowKit Go.Sort Go.Shelf

abbrev Mark := Int × Int × Int
def insP (x : Mark) : Pts → Pts
  | [] => [x]
  | y :: r => if x.1 < y.1 then x :: y :: r else y :: insP x r
def delP (id : Int) (L : Pts) : Pts := L.filter fun e => !(e.1 == id)
def putP (id : Int) (p : Int × Int) (L : Pts) : Pts := insP (id, p) (delP id L)
def hasP (L : Pts) (id : Int) : Bool := L.any fun e => e.1 == id

theorem entP_ins (id : Int) (p : Int × Int) : ∀ L : Pts, entP (insP (id, p) L) = insE (id, encP p) (entP L)
  | [] => rfl
  | y :: r => by
    simp only [insP, entP, List.map_cons, insE]
    by_cases h : id < y.1
    · rw [if_pos h, if_pos h]; rfl
    · rw [if_neg h, if_neg h]
      have := entP_ins id p r
      simp only [entP] at this
      rw [List.map_cons, this]
theorem entP_del (id : Int) (L : Pts) : entP (delP id L) = delE id (entP L) := by
  simp only [entP, delP, delE, List.filter_map]
  rfl
theorem entP_put (id : Int) (p : Int × Int) (L : Pts) : entP (putP id p L) = putE id (encP p) (entP L) := by
  simp only [putP, putE, entP_ins, entP_del]
theorem entP_len (L : Pts) : (entP L).length = L.length := by simp [entP]
theorem entP_has (L : Pts) (id : Int) : hasE (entP L) id = hasP L id := by
  simp only [hasE, hasP, entP, List.any_map]
  rfl

theorem mem_ins {x y : Mark} : ∀ {L : Pts}, y ∈ insP x L ↔ y = x ∨ y ∈ L
  | [] => by simp [insP]
  | z :: r => by
    simp only [insP]
    split
    · simp
    · simp only [List.mem_cons, mem_ins (L := r)]
      constructor
      · rintro (h | h | h) <;> simp [h]
      · rintro (h | h | h) <;> simp [h]
theorem mem_del {y : Mark} {id : Int} {L : Pts} : y ∈ delP id L ↔ y ∈ L ∧ y.1 ≠ id := by simp [delP]
theorem mem_put {y : Mark} {id : Int} {p : Int × Int} {L : Pts} : y ∈ putP id p L ↔ y = (id, p) ∨ (y ∈ L ∧ y.1 ≠ id) := by rw [putP, mem_ins, mem_del]
theorem hasP_iff {L : Pts} {id : Int} : hasP L id = true ↔ ∃ p, (id, p) ∈ L := by
  simp only [hasP, List.any_eq_true, beq_iff_eq]
  constructor
  · rintro ⟨x, hx, rfl⟩; exact ⟨x.2, hx⟩
  · rintro ⟨p, hp⟩; exact ⟨_, hp, rfl⟩
theorem hasP_mem {L : Pts} {id : Int} : hasP L id = true ↔ id ∈ L.map (·.1) := by
  rw [hasP_iff, List.mem_map]
  constructor
  · rintro ⟨p, h⟩; exact ⟨_, h, rfl⟩
  · rintro ⟨x, h, rfl⟩; exact ⟨x.2, h⟩
theorem hasP_not {L : Pts} {id : Int} (h : hasP L id = false) : id ∉ L.map (·.1) := fun hm => by rw [hasP_mem.2 hm] at h; cases h

theorem ins_perm (x : Mark) : ∀ L : Pts, (insP x L).Perm (x :: L)
  | [] => List.Perm.refl _
  | y :: r => by
    simp only [insP]
    split
    · exact List.Perm.refl _
    · exact ((ins_perm x r).cons y).trans (List.Perm.swap x y r)

theorem Srt.del {L : Pts} (h : Srt L) (id : Int) : Srt (delP id L) := List.Pairwise.filter _ h
theorem Srt.ins : ∀ {L : Pts} (_ : Srt L) {x : Mark} (_ : ∀ e ∈ L, e.1 ≠ x.1), Srt (insP x L)
  | [], _, x, _ => by simp [insP, Srt]
  | y :: r, h, x, hn => by
    obtain ⟨h1, h2⟩ := List.pairwise_cons.1 h
    have hy := hn y (by simp)
    simp only [insP]
    split
    · rename_i hlt
      refine List.pairwise_cons.2 ⟨fun e he => ?_, h⟩
      rcases List.mem_cons.1 he with rfl | he
      · exact hlt
      · have := h1 e he; omega
    · refine List.pairwise_cons.2 ⟨fun e he => ?_, Srt.ins h2 fun e he => hn e (by simp [he])⟩
      rcases mem_ins.1 he with rfl | he
      · omega
      · exact h1 e he
theorem Srt.put {L : Pts} (h : Srt L) (id : Int) (p : Int × Int) : Srt (putP id p L) := (h.del id).ins fun _ he => (mem_del.1 he).2
theorem Srt.nodup {L : Pts} (h : Srt L) : (L.map (·.1)).Nodup := by
  refine List.pairwise_map.2 (h.imp fun h => ?_)
  omega

theorem at_put {L : Pts} (h : Srt L) (id : Int) (p : Int × Int) : atP (putP id p L) id = p := at_mem (h.put id p) (e := (id, p)) (mem_put.2 (.inl rfl))
theorem at_put_other {L : Pts} (h : Srt L) {id x : Int} (p : Int × Int) (hx : x ∈ L.map (·.1)) (hne : x ≠ id) : atP (putP id p L) x = atP L x := by
  obtain ⟨e, he, rfl⟩ := List.mem_map.1 hx
  rw [at_mem h he, at_mem (h.put id p) (mem_put.2 (.inr ⟨he, hne⟩))]
theorem at_del_other {L : Pts} (h : Srt L) {id x : Int} (hx : x ∈ L.map (·.1)) (hne : x ≠ id) : atP (delP id L) x = atP L x := by
  obtain ⟨e, he, rfl⟩ := List.mem_map.1 hx
  rw [at_mem h he, at_mem (h.del id) (mem_del.2 ⟨he, hne⟩)]

theorem del_ids (id : Int) (L : Pts) : (delP id L).map (·.1) = (L.map (·.1)).filter fun x => !(x == id) := by
  simp only [delP, List.filter_map]
  rfl
theorem del_none {L : Pts} {id : Int} (h : hasP L id = false) : delP id L = L := List.filter_eq_self.2 fun e he => by
  have : e.1 ≠ id := fun e' => hasP_not h (e' ▸ List.mem_map_of_mem he)
  simp [this]
theorem put_ids (id : Int) (p : Int × Int) (L : Pts) : ((putP id p L).map (·.1)).Perm (id :: (L.map (·.1)).filter fun x => !(x == id)) := by
  have := (ins_perm (id, p) (delP id L)).map (·.1)
  rw [List.map_cons, del_ids] at this
  exact this
theorem put_len_new {L : Pts} {id : Int} (h : hasP L id = false) (p : Int × Int) : (putP id p L).length = L.length + 1 := by
  have := (ins_perm (id, p) (delP id L)).length_eq
  rw [del_none h] at this
  rw [putP, del_none h, this]; rfl
theorem put_len (id : Int) (p : Int × Int) (L : Pts) : (putP id p L).length ≤ L.length + 1 := by
  have := (ins_perm (id, p) (delP id L)).length_eq
  have h2 : (delP id L).length ≤ L.length := List.length_filter_le _ _
  unfold putP
  rw [this, List.length_cons]
  omega

theorem inL_srt {L : Pts} (h : Srt L) (r : R4) : (inL L r).Pairwise (· < ·) := List.pairwise_map.2 (List.Pairwise.filter _ h)

/-- What the rectangle has, in whatever order, put in order. -/
theorem sort_inL {L : Pts} (h : Srt L) (r : R4) {l : List Int} (hp : l.Perm (L.map (·.1))) : ((l.filter (ptIn L r)).mergeSort fun x y => decide (x ≤ y)) = inL L r := by
  refine List.Perm.eq_of_pairwise (le := fun x y => x ≤ y) (fun a b _ _ h1 h2 => by omega) ?_ ((inL_srt h r).imp (fun h => by omega)) ?_
  · refine (List.pairwise_mergeSort (fun a b c h1 h2 => ?_) (fun a b => ?_) _).imp (fun h => ?_)
    · simp only [decide_eq_true_eq] at *; omega
    · simp only [Bool.or_eq_true, decide_eq_true_eq]; omega
    · simpa using h
  · refine (List.mergeSort_perm _ _).trans ?_
    rw [inL_eq h]
    exact hp.filter _
end Go.Proofs.Ytggeehmcjndlgaa
