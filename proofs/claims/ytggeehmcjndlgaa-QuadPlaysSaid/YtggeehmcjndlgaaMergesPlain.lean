/-
  QuadMerges, plainly: what was put and dropped leaves the list as it was; how deep the map is split meanwhile.
-/
import Derived.Test.YtggeehmcjndlgaaCopy
namespace Go.Proofs.Ytggeehmcjndlgaa
open Go Go.RowKit Go.Sort Go.Shelf

/-- Puts, one after the other. -/
def after (g : Nat → Int × (Int × Int)) (L : Pts) : Nat → Pts
  | 0 => L
  | j + 1 => putL (after g L j) (g j).1 (g j).2
def drops (g : Nat → Int) (L : Pts) : Nat → Pts
  | 0 => L
  | j + 1 => drpL (drops g L j) (g j)

theorem putL_cases (L : Pts) (id : Int) (p : Int × Int) : (putC L id p = 0 ∧ putL L id p = putP id p L ∧ hasP L id = false ∧ onB p.1 p.2 = true ∧ 0 ≤ id ∧ L.length < 200) ∨ (putC L id p ≠ 0 ∧ putL L id p = L) := by
  by_cases h : putC L id p = 0
  · left
    have hl : putL L id p = putP id p L := by unfold putL; rw [if_pos h]
    refine ⟨h, hl, ?_⟩
    unfold putC at h
    split at h
    · cases h
    split at h
    · cases h
    split at h
    · cases h
    split at h
    · cases h
    rename_i h1 h2 h3 h4
    exact ⟨by simpa using h3, by simpa using h2, by omega, by omega⟩
  · right
    exact ⟨h, by unfold putL; rw [if_neg h]⟩

theorem putC_ok {L : Pts} {id : Int} {p : Int × Int} (h1 : 0 ≤ id) (h2 : onB p.1 p.2 = true) (h3 : hasP L id = false) (h4 : L.length < 200) : putC L id p = 0 := by
  unfold putC
  rw [if_neg (by omega), if_neg (by simp [h2]), if_neg (by simp [h3]), if_neg (by omega)]
theorem putC_off {L : Pts} {id : Int} {p : Int × Int} (h : onB p.1 p.2 = false) : putC L id p ≠ 0 := by
  unfold putC
  split
  · decide
  · simp

theorem lt_hasP {L : Pts} {id : Int} (h : ∀ x ∈ L, x.1 < id) : hasP L id = false := by
  cases hh : hasP L id
  · rfl
  · obtain ⟨p, hp⟩ := hasP_iff.1 hh
    have := h _ hp
    simp at this

theorem after_lt {g : Nat → Int × (Int × Int)} {L : Pts} {b : Int} : ∀ j, (∀ x ∈ L, x.1 < b) → (∀ i, i < j → (g i).1 < b) → ∀ x ∈ after g L j, x.1 < b
  | 0, hL, _, x, hx => hL x hx
  | j + 1, hL, hg, x, hx => by
    simp only [after] at hx
    rcases putL_cases (after g L j) (g j).1 (g j).2 with ⟨_, e, _⟩ | ⟨_, e⟩
    · rw [e] at hx
      rcases mem_put.1 hx with rfl | ⟨hx, _⟩
      · exact hg j (by omega)
      · exact after_lt j hL (fun i hi => hg i (by omega)) x hx
    · rw [e] at hx
      exact after_lt j hL (fun i hi => hg i (by omega)) x hx
theorem after_len {g : Nat → Int × (Int × Int)} {L : Pts} : ∀ j, (after g L j).length ≤ L.length + j
  | 0 => by simp [after]
  | j + 1 => by
    have := after_len (g := g) (L := L) j
    simp only [after]
    rcases putL_cases (after g L j) (g j).1 (g j).2 with ⟨_, e, _⟩ | ⟨_, e⟩
    · rw [e]; have := put_len (g j).1 (g j).2 (after g L j); omega
    · rw [e]; omega

/-- Rising numbers at one place. -/
def rowAt (b n : Nat) (p : Int × Int) : Pts := (List.range n).map fun i => (((b + i : Nat) : Int), p)
theorem after_row {L : Pts} {p : Int × Int} (b : Nat) (hL : ∀ x ∈ L, x.1 < b) (hon : onB p.1 p.2 = true) : ∀ n, L.length + n ≤ 200 → after (fun i => ((b + i : Nat), p)) L n = L ++ rowAt b n p
  | 0, _ => by simp [after, rowAt]
  | n + 1, hl => by
    have ih := after_row (p := p) b hL hon n (by omega)
    have hlt : ∀ x ∈ after (fun i => ((b + i : Nat), p)) L n, x.1 < ((b + n : Nat) : Int) := after_lt n (fun x hx => by have := hL x hx; omega) (fun i hi => by simp only; omega)
    have hlen := after_len (g := fun i => (((b + i : Nat) : Int), p)) (L := L) n
    simp only [after]
    have hc := putC_ok (L := after (fun i => ((b + i : Nat), p)) L n) (id := ((b + n : Nat) : Int)) (p := p) (by omega) hon (lt_hasP hlt) (by omega)
    unfold putL
    rw [if_pos hc, put_last (e := (((b + n : Nat) : Int), p)) hlt, ih, rowAt, rowAt, List.range_succ]
    simp
theorem after_off {L : Pts} {p : Int × Int} {g : Nat → Int} (h : onB p.1 p.2 = false) : ∀ n, after (fun i => (g i, p)) L n = L
  | 0 => rfl
  | n + 1 => by
    simp only [after]
    rw [after_off h n]
    unfold putL
    rw [if_neg (putC_off h)]

theorem drpL_none {L : Pts} {id : Int} (h : hasP L id = false) : drpL L id = L := by
  unfold drpL drpC
  rw [if_pos h]; rfl
theorem drpL_has {L : Pts} {id : Int} (h : hasP L id = true) : drpL L id = delP id L := by
  unfold drpL drpC
  rw [h]; rfl
theorem drpL_del (L : Pts) (id : Int) : drpL L id = delP id L := by
  cases h : hasP L id
  · rw [drpL_none h, del_none h]
  · exact drpL_has h

theorem drops_filter (g : Nat → Int) (L : Pts) : ∀ n, drops g L n = L.filter fun e => (List.range n).all fun i => !(e.1 == g i)
  | 0 => (List.filter_eq_self.2 fun _ _ => rfl).symm
  | n + 1 => by
    simp only [drops]
    rw [drpL_del, drops_filter g L n, delP, List.filter_filter]
    refine List.filter_congr fun e _ => ?_
    rw [List.range_succ, List.all_append]
    simp [Bool.and_comm]

theorem merges_list {L : Pts} {p : Int × Int} (b n : Nat) (hL : ∀ x ∈ L, x.1 < b) (hl : L.length + n ≤ 200) : drops (fun i => ((b + i : Nat) : Int)) (after (fun i => ((b + i : Nat), p)) L n) n = L := by
  rw [drops_filter]
  have hself : L.filter (fun e => (List.range n).all fun i => !(e.1 == ((b + i : Nat) : Int))) = L := List.filter_eq_self.2 fun e he => by
    simp only [List.all_eq_true, List.mem_range, Bool.not_eq_true', beq_eq_false_iff_ne]
    intro i _
    have := hL e he
    omega
  cases hon : onB p.1 p.2
  · rw [after_off hon]
    exact hself
  · rw [after_row b hL hon n hl, List.filter_append, hself, List.filter_eq_nil_iff.2, List.append_nil]
    intro e he
    obtain ⟨i, hi, rfl⟩ := List.mem_map.1 he
    intro hh
    have := List.all_eq_true.1 hh i hi
    simp at this

theorem inL_mono {L M : Pts} (h : L.Sublist M) (r : R4) : (inL L r).length ≤ (inL M r).length := by
  unfold inL
  rw [List.length_map, List.length_map]
  exact (h.filter _).length_le
theorem deepR_mono {L M : Pts} (h : L.Sublist M) : ∀ n r, deepR L n r ≤ deepR M n r
  | 0, _ => Nat.le_refl _
  | n + 1, r => by
    have hl := inL_mono h r
    have h0 := deepR_mono h n (qtr r 0)
    have h1 := deepR_mono h n (qtr r 1)
    have h2 := deepR_mono h n (qtr r 2)
    have h3 := deepR_mono h n (qtr r 3)
    simp only [deepR]
    split
    · omega
    · rw [if_neg (by omega)]
      omega
theorem deepR_le (L : Pts) : ∀ n r, deepR L n r ≤ n
  | 0, _ => Nat.le_refl _
  | n + 1, r => by
    have h0 := deepR_le L n (qtr r 0)
    have h1 := deepR_le L n (qtr r 1)
    have h2 := deepR_le L n (qtr r 2)
    have h3 := deepR_le L n (qtr r 3)
    simp only [deepR]
    split <;> omega
theorem deepR_full {L : Pts} {p : Int × Int} (h : 4 < (L.filter fun e => e.2 == p).length) : ∀ n r, r.pw n → inB r p.1 p.2 = true → deepR L n r = n
  | 0, _, _, _ => rfl
  | n + 1, r, hp, hi => by
    have hc : (L.filter fun e => e.2 == p).length ≤ (inL L r).length := by
      unfold inL
      rw [List.length_map]
      have : (L.filter fun e => e.2 == p) = (L.filter fun e => inB r e.2.1 e.2.2).filter fun e => e.2 == p := by
        rw [List.filter_filter]
        refine List.filter_congr fun e _ => ?_
        cases he : e.2 == p
        · rfl
        · rw [beq_iff_eq] at he
          rw [he, hi]; rfl
      rw [this]
      exact List.length_filter_le _ _
    have hw := whch_lt r p.1 p.2
    have hk := deepR_full h n (qtr r (whch r p.1 p.2)) (hp.qtr hw) ((qtr_in hp hw _ _).2 ⟨hi, rfl⟩)
    have h0 := deepR_le L n (qtr r 0)
    have h1 := deepR_le L n (qtr r 1)
    have h2 := deepR_le L n (qtr r 2)
    have h3 := deepR_le L n (qtr r 3)
    simp only [deepR]
    rw [if_neg (by omega)]
    generalize whch r p.1 p.2 = k at *
    have : k = 0 ∨ k = 1 ∨ k = 2 ∨ k = 3 := by omega
    rcases this with rfl | rfl | rfl | rfl <;> omega

theorem merges_deep {L : Pts} {p : Int × Int} (b n : Nat) (hL : ∀ x ∈ L, x.1 < b) (hl : L.length + n ≤ 200) :
    deepR L 4 whole ≤ deepR (after (fun i => ((b + i : Nat), p)) L n) 4 whole ∧ (onB p.1 p.2 = true → 4 < n → deepR (after (fun i => ((b + i : Nat), p)) L n) 4 whole = 4) := by
  cases hon : onB p.1 p.2
  · rw [after_off hon]
    exact ⟨Nat.le_refl _, fun h => by cases h⟩
  · rw [after_row b hL hon n hl]
    refine ⟨deepR_mono (List.sublist_append_left _ _) _ _, fun _ hn => deepR_full (p := p) ?_ 4 whole whole_pw (by rw [on_whole]; exact hon)⟩
    rw [List.filter_append, List.length_append]
    have : ((rowAt b n p).filter fun e => e.2 == p) = rowAt b n p := List.filter_eq_self.2 fun e he => by
      obtain ⟨i, _, rfl⟩ := List.mem_map.1 he
      simp
    rw [this]
    simp [rowAt]
    omega
end Go.Proofs.Ytggeehmcjndlgaa
