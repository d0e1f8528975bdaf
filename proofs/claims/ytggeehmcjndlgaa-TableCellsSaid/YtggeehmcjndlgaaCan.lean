/-
  The tree of squares is what its points make it: where each number is, how deep it is split.
-/
import Derived.Test.YtggeehmcjndlgaaSqAdd
namespace Go.Proofs.Ytggeehmcjndlgaa
open Go Go.RowKit Go.Sort Go.Shelf

def ptIn (L : Pts) (r : R4) (x : Int) : Bool := inB r (atP L x).1 (atP L x).2
/-- A square's side is 4 * 2^n. -/
def R4.pw (r : R4) (n : Nat) : Prop := r.x1 - r.x0 = 4 * 2 ^ n ∧ r.y1 - r.y0 = 4 * 2 ^ n
theorem whole_pw : whole.pw 4 := by constructor <;> rfl

theorem pw_half {r : R4} {n : Nat} (h : r.pw (n + 1)) : ∃ m : Int, 0 < m ∧ m = 4 * 2 ^ n ∧ r.x1 = r.x0 + 2 * m ∧ r.y1 = r.y0 + 2 * m := by
  refine ⟨4 * 2 ^ n, by have : (0 : Int) < 2 ^ n := Int.pow_pos (by decide); omega, rfl, ?_, ?_⟩
  · have := h.1; rw [Int.pow_succ] at this; omega
  · have := h.2; rw [Int.pow_succ] at this; omega

theorem four_cases {P : Nat → Prop} {k : Nat} (hk : k < 4) (h0 : P 0) (h1 : P 1) (h2 : P 2) (h3 : P 3) : P k := by
  have : k = 0 ∨ k = 1 ∨ k = 2 ∨ k = 3 := by omega
  rcases this with rfl | rfl | rfl | rfl <;> assumption

theorem R4.pw.qtr {r : R4} {n k : Nat} (h : r.pw (n + 1)) (hk : k < 4) : (qtr r k).pw n := by
  obtain ⟨m, h0, h1, h2, h3⟩ := pw_half h
  unfold R4.pw
  rw [← h1]
  refine four_cases (P := fun k => (Go.Proofs.Ytggeehmcjndlgaa.qtr r k).x1 - (Go.Proofs.Ytggeehmcjndlgaa.qtr r k).x0 = m ∧ (Go.Proofs.Ytggeehmcjndlgaa.qtr r k).y1 - (Go.Proofs.Ytggeehmcjndlgaa.qtr r k).y0 = m) hk ?_ ?_ ?_ ?_ <;> (simp only [Go.Proofs.Ytggeehmcjndlgaa.qtr]; omega)

theorem qtr_in {r : R4} {n k : Nat} (h : r.pw (n + 1)) (hk : k < 4) (x y : Int) : inB (qtr r k) x y = true ↔ inB r x y = true ∧ whch r x y = k := by
  obtain ⟨m, h0, h1, h2, h3⟩ := pw_half h
  have hh : (r.x1 - r.x0) / 2 = m := by omega
  have hx : (r.x0 + r.x1) / 2 = r.x0 + m := by omega
  have hy : (r.y0 + r.y1) / 2 = r.y0 + m := by omega
  refine four_cases (P := fun k => inB (qtr r k) x y = true ↔ inB r x y = true ∧ whch r x y = k) hk ?_ ?_ ?_ ?_ <;>
    (simp only [inB, qtr, whch, hh, hx, hy, decide_eq_true_eq]; (repeat' split) <;> simp <;> omega)

theorem ptIn_qtr {L : Pts} {r : R4} {n k : Nat} (h : r.pw (n + 1)) (hk : k < 4) (x : Int) : ptIn L (qtr r k) x = true ↔ ptIn L r x = true ∧ whch r (atP L x).1 (atP L x).2 = k := qtr_in h hk _ _

def Can (L : Pts) : PT → Nat → R4 → Prop
  | .leaf ids, n, r => (∀ x ∈ ids, ptIn L r x = true) ∧ (n = 0 ∨ ids.length ≤ 4)
  | .node a b c d, n, r => 1 ≤ n ∧ 4 < (PT.node a b c d).ids.length ∧ Can L a (n - 1) (qtr r 0) ∧ Can L b (n - 1) (qtr r 1) ∧ Can L c (n - 1) (qtr r 2) ∧ Can L d (n - 1) (qtr r 3)
def Kids (L : Pts) (t : PT) (n : Nat) (r : R4) : Prop := match t with
  | .leaf _ => False
  | .node a b c d => Can L a n (qtr r 0) ∧ Can L b n (qtr r 1) ∧ Can L c n (qtr r 2) ∧ Can L d n (qtr r 3)

theorem Can.dep {L : Pts} : ∀ {P : PT} {n : Nat} {r : R4}, Can L P n r → P.dep ≤ n
  | .leaf _, _, _, _ => Nat.zero_le _
  | .node a b c d, n, r, ⟨h1, _, ha, hb, hc, hd⟩ => by
    have := ha.dep; have := hb.dep; have := hc.dep; have := hd.dep
    simp only [PT.dep]
    omega

theorem Can.inr {L : Pts} : ∀ {P : PT} {n : Nat} {r : R4}, Can L P n r → r.pw n → ∀ x ∈ P.ids, ptIn L r x = true
  | .leaf _, _, _, h, _, x, hx => h.1 x hx
  | .node a b c d, 0, r, ⟨h1, _, _⟩, _, x, hx => by omega
  | .node a b c d, n + 1, r, ⟨h1, _, ha, hb, hc, hd⟩, hp, x, hx => by
    simp only [PT.ids, List.mem_append] at hx
    rcases hx with ((h | h) | h) | h
    · exact ((ptIn_qtr hp (by omega) x).1 (ha.inr (hp.qtr (by omega)) x h)).1
    · exact ((ptIn_qtr hp (by omega) x).1 (hb.inr (hp.qtr (by omega)) x h)).1
    · exact ((ptIn_qtr hp (by omega) x).1 (hc.inr (hp.qtr (by omega)) x h)).1
    · exact ((ptIn_qtr hp (by omega) x).1 (hd.inr (hp.qtr (by omega)) x h)).1

theorem Can.congr {L L' : Pts} : ∀ {P : PT} {n : Nat} {r : R4}, Can L P n r → (∀ x ∈ P.ids, atP L' x = atP L x) → Can L' P n r
  | .leaf ids, n, r, ⟨h1, h2⟩, he => ⟨fun x hx => by have := h1 x hx; unfold ptIn at this ⊢; rw [he x hx]; exact this, h2⟩
  | .node a b c d, n, r, ⟨h1, h2, ha, hb, hc, hd⟩, he => by
    simp only [PT.ids, List.mem_append] at he
    exact ⟨h1, h2, ha.congr fun x hx => he x (by simp [hx]), hb.congr fun x hx => he x (by simp [hx]), hc.congr fun x hx => he x (by simp [hx]), hd.congr fun x hx => he x (by simp [hx])⟩

theorem kidStep_kids {L : Pts} {n : Nat} {f : R4 → Int → PT → PT} (hf : ∀ r x t, Can L t n r → r.pw n → ptIn L r x = true → Can L (f r x t) n r) {r : R4} (hp : r.pw (n + 1)) {x : Int} (hx : ptIn L r x = true) {t : PT} (h : Kids L t n r) : Kids L (kidStep L f r x t) n r := by
  cases t with
  | leaf ids => exact h.elim
  | node a b c d =>
    obtain ⟨ha, hb, hc, hd⟩ := h
    have hw := fun k hk => (ptIn_qtr (L := L) (k := k) hp hk x).2
    simp only [kidStep, Kids]
    refine ⟨?_, ?_, ?_, ?_⟩ <;> split
    · exact hf _ _ _ ha (hp.qtr (by omega)) (hw 0 (by omega) ⟨hx, by assumption⟩)
    · exact ha
    · exact hf _ _ _ hb (hp.qtr (by omega)) (hw 1 (by omega) ⟨hx, by assumption⟩)
    · exact hb
    · exact hf _ _ _ hc (hp.qtr (by omega)) (hw 2 (by omega) ⟨hx, by assumption⟩)
    · exact hc
    · exact hf _ _ _ hd (hp.qtr (by omega)) (hw 3 (by omega) ⟨hx, by assumption⟩)
    · exact hd

theorem kidFold_kids {L : Pts} {n : Nat} {f : R4 → Int → PT → PT} (hf : ∀ r x t, Can L t n r → r.pw n → ptIn L r x = true → Can L (f r x t) n r) {r : R4} (hp : r.pw (n + 1)) : ∀ (l : List Int) (t : PT), (∀ x ∈ l, ptIn L r x = true) → Kids L t n r → Kids L (l.foldl (fun t x => kidStep L f r x t) t) n r
  | [], _, _, h => h
  | x :: l, t, hl, h => kidFold_kids hf hp l _ (fun y hy => hl y (by simp [hy])) (kidStep_kids hf hp (hl x (by simp)) h)

theorem Kids.can {L : Pts} {n : Nat} {r : R4} {t : PT} (h : Kids L t n r) (hl : 4 < t.ids.length) : Can L t (n + 1) r := by
  cases t with
  | leaf ids => exact h.elim
  | node a b c d => exact ⟨by omega, hl, h⟩
theorem Can.kids {L : Pts} {n : Nat} {r : R4} {a b c d : PT} (h : Can L (.node a b c d) (n + 1) r) : Kids L (.node a b c d) n r := h.2.2

theorem emp4_kids (L : Pts) (n : Nat) (r : R4) : Kids L emp4 n r := by
  refine ⟨?_, ?_, ?_, ?_⟩ <;> exact ⟨fun x hx => by simp at hx, .inr (by simp)⟩

/-- One more, where it belongs. -/
theorem add_can (L : Pts) : ∀ (n : Nat) (r : R4) (id : Int) (t : PT), Can L t n r → r.pw n → ptIn L r id = true → Can L (addPT L n r id t) n r
  | 0, r, id, .leaf ids, h, _, hi => by
    simp only [addPT]
    exact ⟨fun x hx => by rcases List.mem_append.1 hx with e | e; exact h.1 x e; rw [List.mem_singleton.1 e]; exact hi, .inl rfl⟩
  | 0, r, id, .node a b c d, h, _, _ => by have := h.1; omega
  | n + 1, r, id, .leaf ids, h, hp, hi => by
    simp only [addPT]
    have hall : ∀ x ∈ ids ++ [id], ptIn L r x = true := fun x hx => by rcases List.mem_append.1 hx with e | e; exact h.1 x e; rw [List.mem_singleton.1 e]; exact hi
    split
    · exact ⟨hall, .inr (by simp; omega)⟩
    · refine (kidFold_kids (fun r x t h hp hx => add_can L n r x t h hp hx) hp _ _ hall (emp4_kids L n r)).can ?_
      have := (kidFold_spec L n (addPT L n) (fun r x t h => addPT_spec L n r x t h) r (ids ++ [id]) emp4 ⟨_, _, _, _, rfl⟩ (by simp [emp4, PT.dep])).1.length_eq
      rw [this]
      simp
      omega
  | n + 1, r, id, .node a b c d, h, hp, hi => by
    simp only [addPT]
    refine (kidStep_kids (fun r x t h hp hx => add_can L n r x t h hp hx) hp hi h.kids).can ?_
    have := (kidStep_spec L n (addPT L n) (fun r x t h => addPT_spec L n r x t h) r id a b c d h.dep).1.length_eq
    rw [this]
    have := h.2.1
    simp
    omega

theorem filter_notin {l : List Int} {id : Int} (h : id ∉ l) : (l.filter fun x => !(x == id)) = l := List.filter_eq_self.2 fun x hx => by
  have : x ≠ id := fun e => h (e ▸ hx)
  simp [this]

/-- One less. -/
theorem rem_can (L : Pts) : ∀ (P : PT) (n : Nat) (r : R4) (id : Int), Can L P n r → r.pw n → id ∈ P.ids → Goes L P r id ∧ Can L (remPT L P r id) n r ∧ (remPT L P r id).ids.Perm (P.ids.filter fun x => !(x == id))
  | .leaf ids, n, r, id, h, _, hm => ⟨hm, ⟨fun x hx => h.1 x (List.mem_filter.1 hx).1, h.2.imp (fun h => h) (fun h' => Nat.le_trans (List.length_filter_le _ _) h')⟩, List.Perm.refl _⟩
  | .node a b c d, 0, r, id, h, _, _ => by have := h.1; omega
  | .node a b c d, n + 1, r, id, h, hp, hm => by
    obtain ⟨h1, hlen, ha, hb, hc, hd⟩ := h
    have hq := fun k (hk : k < 4) => hp.qtr hk
    have hw := fun k (hk : k < 4) => (ptIn_qtr (L := L) (k := k) hp hk id)
    have ka : id ∈ a.ids → whch r (atP L id).1 (atP L id).2 = 0 := fun h => ((hw 0 (by omega)).1 (ha.inr (hq 0 (by omega)) id h)).2
    have kb : id ∈ b.ids → whch r (atP L id).1 (atP L id).2 = 1 := fun h => ((hw 1 (by omega)).1 (hb.inr (hq 1 (by omega)) id h)).2
    have kc : id ∈ c.ids → whch r (atP L id).1 (atP L id).2 = 2 := fun h => ((hw 2 (by omega)).1 (hc.inr (hq 2 (by omega)) id h)).2
    have kd : id ∈ d.ids → whch r (atP L id).1 (atP L id).2 = 3 := fun h => ((hw 3 (by omega)).1 (hd.inr (hq 3 (by omega)) id h)).2
    have fin : ∀ a' b' c' d', Kids L (.node a' b' c' d') n r → (PT.node a' b' c' d').ids.Perm ((PT.node a b c d).ids.filter fun x => !(x == id)) → Can L (fin4 a' b' c' d') (n + 1) r ∧ (fin4 a' b' c' d').ids.Perm ((PT.node a b c d).ids.filter fun x => !(x == id)) := fun a' b' c' d' hk hpm => by
      refine ⟨?_, by rw [fin4_ids]; exact hpm⟩
      unfold fin4
      split
      · refine ⟨fun x hx => ?_, .inr (by assumption)⟩
        have hx' := (List.mem_filter.1 (hpm.mem_iff.1 hx)).1
        exact Can.inr (P := .node a b c d) ⟨h1, hlen, ha, hb, hc, hd⟩ hp x hx'
      · exact hk.can (by omega)
    simp only [PT.ids, List.mem_append] at hm
    simp only [remPT, Goes]
    rcases hm with ((hm | hm) | hm) | hm
    · have e := ka hm
      obtain ⟨g1, g2, g3⟩ := rem_can L a n (qtr r 0) id ha (hq 0 (by omega)) hm
      have nb : id ∉ b.ids := fun h => by have := kb h; omega
      have nc : id ∉ c.ids := fun h => by have := kc h; omega
      have nd : id ∉ d.ids := fun h => by have := kd h; omega
      simp only [e, if_true, show ¬ (0 = 1) by omega, show ¬ (0 = 2) by omega, show ¬ (0 = 3) by omega, if_false]
      refine ⟨g1, fin _ _ _ _ ⟨g2, hb, hc, hd⟩ ?_⟩
      simp only [PT.ids, List.filter_append, filter_notin nb, filter_notin nc, filter_notin nd]
      exact ((g3.append_right _).append_right _).append_right _
    · have e := kb hm
      obtain ⟨g1, g2, g3⟩ := rem_can L b n (qtr r 1) id hb (hq 1 (by omega)) hm
      have na : id ∉ a.ids := fun h => by have := ka h; omega
      have nc : id ∉ c.ids := fun h => by have := kc h; omega
      have nd : id ∉ d.ids := fun h => by have := kd h; omega
      simp only [e, if_true, show ¬ (1 = 0) by omega, show ¬ (1 = 2) by omega, show ¬ (1 = 3) by omega, if_false]
      refine ⟨g1, fin _ _ _ _ ⟨ha, g2, hc, hd⟩ ?_⟩
      simp only [PT.ids, List.filter_append, filter_notin na, filter_notin nc, filter_notin nd]
      exact ((g3.append_left _).append_right _).append_right _
    · have e := kc hm
      obtain ⟨g1, g2, g3⟩ := rem_can L c n (qtr r 2) id hc (hq 2 (by omega)) hm
      have na : id ∉ a.ids := fun h => by have := ka h; omega
      have nb : id ∉ b.ids := fun h => by have := kb h; omega
      have nd : id ∉ d.ids := fun h => by have := kd h; omega
      simp only [e, if_true, show ¬ (2 = 0) by omega, show ¬ (2 = 1) by omega, show ¬ (2 = 3) by omega, if_false]
      refine ⟨g1, fin _ _ _ _ ⟨ha, hb, g2, hd⟩ ?_⟩
      simp only [PT.ids, List.filter_append, filter_notin na, filter_notin nb, filter_notin nd]
      exact (g3.append_left _).append_right _
    · have e := kd hm
      obtain ⟨g1, g2, g3⟩ := rem_can L d n (qtr r 3) id hd (hq 3 (by omega)) hm
      have na : id ∉ a.ids := fun h => by have := ka h; omega
      have nb : id ∉ b.ids := fun h => by have := kb h; omega
      have nc : id ∉ c.ids := fun h => by have := kc h; omega
      simp only [e, if_true, show ¬ (3 = 0) by omega, show ¬ (3 = 1) by omega, show ¬ (3 = 2) by omega, if_false]
      refine ⟨g1, fin _ _ _ _ ⟨ha, hb, hc, g2⟩ ?_⟩
      simp only [PT.ids, List.filter_append, filter_notin na, filter_notin nb, filter_notin nc]
      exact g3.append_left _

theorem meet_in (a b : R4) (x y : Int) (h1 : inB a x y = true) (h2 : inB b x y = true) : emptyB (meet a b) = false := by
  simp only [inB, decide_eq_true_eq] at h1 h2
  have h : emptyB ⟨max a.x0 b.x0, max a.y0 b.y0, min a.x1 b.x1, min a.y1 b.y1⟩ = false := by
    simp only [emptyB, decide_eq_false_iff_not]
    omega
  unfold meet tidy
  rw [h]
  simpa using h

/-- 'in' finds what is in the rectangle. -/
theorem in_can (L : Pts) (q : R4) : ∀ (S : Sq) (n : Nat) (r : R4), S.Ok → Can L S.pt n r → r.pw n → inSq L S r q = S.ids.filter (ptIn L q)
  | .leaf v ids, n, r, _, h, hp => by
    simp only [inSq, Sq.ids]
    split
    · rename_i he
      rcases he with he | he
      · rw [List.eq_nil_of_length_eq_zero he]; rfl
      · refine (List.filter_eq_nil_iff.2 fun x hx h2 => ?_).symm
        have := meet_in r q _ _ (h.1 x hx) h2
        rw [he] at this
        cases this
    · rfl
  | .node kb m a b c d, 0, r, _, h, hp => by have := h.1; omega
  | .node kb m a b c d, n + 1, r, ⟨hm, oa, ob, oc, od⟩, h, hp => by
    have hall := Can.inr (P := (Sq.node kb m a b c d).pt) h hp
    rw [Sq.pt_ids] at hall
    obtain ⟨_, _, ha, hb, hc, hd⟩ := h
    simp only [inSq]
    split
    · rename_i he
      rcases he with he | he
      · have : (Sq.node kb m a b c d).ids = [] := List.eq_nil_of_length_eq_zero (by simp only [Sq.ids]; omega)
        rw [this]; rfl
      · refine (List.filter_eq_nil_iff.2 fun x hx h2 => ?_).symm
        have := meet_in r q _ _ (hall x hx) h2
        rw [he] at this
        cases this
    · rw [in_can L q a n _ oa ha (hp.qtr (by omega)), in_can L q b n _ ob hb (hp.qtr (by omega)), in_can L q c n _ oc hc (hp.qtr (by omega)), in_can L q d n _ od hd (hp.qtr (by omega))]
      simp only [Sq.ids, List.filter_append]

/-- What the rectangle has. -/
def inL (L : Pts) (r : R4) : List Int := (L.filter fun e => inB r e.2.1 e.2.2).map (·.1)
/-- How deep the map is split. -/
def deepR (L : Pts) : Nat → R4 → Nat
  | 0, _ => 0
  | n + 1, r => if (inL L r).length ≤ 4 then 0 else 1 + max (max (deepR L n (qtr r 0)) (deepR L n (qtr r 1))) (max (deepR L n (qtr r 2)) (deepR L n (qtr r 3)))

def Srt (L : Pts) : Prop := L.Pairwise fun a b => a.1 < b.1
theorem find_mem : ∀ {L : Pts}, Srt L → ∀ {e : Int × Int × Int}, e ∈ L → findP L e.1 = some e.2
  | [], _, e, h => by simp at h
  | x :: L, hs, e, h => by
    obtain ⟨h1, h2⟩ := List.pairwise_cons.1 hs
    unfold findP
    rw [List.find?_cons]
    rcases List.mem_cons.1 h with rfl | h
    · simp
    · have hlt := h1 e h
      have : (x.1 == e.1) = false := by rw [beq_eq_false_iff_ne]; omega
      rw [this]
      exact find_mem h2 h
theorem at_mem {L : Pts} (hs : Srt L) {e : Int × Int × Int} (h : e ∈ L) : atP L e.1 = e.2 := by
  unfold atP
  rw [find_mem hs h]
  rfl

theorem inL_eq {L : Pts} (hs : Srt L) (r : R4) : inL L r = (L.map (·.1)).filter (ptIn L r) := by
  unfold inL
  rw [List.filter_map]
  congr 1
  refine List.filter_congr fun e he => ?_
  simp only [Function.comp, ptIn, at_mem hs he]

theorem inL_qtr {L : Pts} (hs : Srt L) {r : R4} {n k : Nat} (hp : r.pw (n + 1)) (hk : k < 4) : inL L (qtr r k) = (inL L r).filter (ptIn L (qtr r k)) := by
  rw [inL_eq hs, inL_eq hs, List.filter_filter]
  refine List.filter_congr fun x _ => ?_
  cases h : ptIn L (qtr r k) x
  · rfl
  · rw [((ptIn_qtr hp hk x).1 h).1]; rfl

theorem kid_filter {L : Pts} {r : R4} {n k j : Nat} (hp : r.pw (n + 1)) (hk : k < 4) (hj : j < 4) {P : PT} (h : Can L P n (qtr r j)) : P.ids.filter (ptIn L (qtr r k)) = if j = k then P.ids else [] := by
  have hin := h.inr (hp.qtr hj)
  split
  · rename_i e; subst e
    exact List.filter_eq_self.2 hin
  · rename_i e
    refine List.filter_eq_nil_iff.2 fun x hx h2 => e ?_
    have h3 := ((ptIn_qtr hp hj x).1 (hin x hx)).2
    have h4 := ((ptIn_qtr hp hk x).1 h2).2
    omega

theorem dep_can {L : Pts} (hs : Srt L) : ∀ (P : PT) (n : Nat) (r : R4), Can L P n r → r.pw n → P.ids.Perm (inL L r) → P.dep = deepR L n r
  | .leaf ids, 0, r, _, _, _ => rfl
  | .leaf ids, n + 1, r, h, _, hpm => by
    have := hpm.length_eq
    simp only [PT.dep, deepR]
    rw [if_pos]
    rcases h.2 with h | h
    · omega
    · simp only [PT.ids] at this; omega
  | .node a b c d, 0, r, h, _, _ => by have := h.1; omega
  | .node a b c d, n + 1, r, ⟨_, hl, ha, hb, hc, hd⟩, hp, hpm => by
    have hle := hpm.length_eq
    simp only [PT.dep, deepR]
    rw [if_neg (by omega)]
    have key : ∀ k, k < 4 → ((PT.node a b c d).ids.filter (ptIn L (qtr r k))).Perm (inL L (qtr r k)) := fun k hk => by
      rw [inL_qtr hs hp hk]
      exact hpm.filter _
    have f := fun k (hk : k < 4) => And.intro (kid_filter (k := k) (j := 0) hp hk (by omega) ha) (And.intro (kid_filter (k := k) (j := 1) hp hk (by omega) hb) (And.intro (kid_filter (k := k) (j := 2) hp hk (by omega) hc) (kid_filter (k := k) (j := 3) hp hk (by omega) hd)))
    have k0 := key 0 (by omega)
    have k1 := key 1 (by omega)
    have k2 := key 2 (by omega)
    have k3 := key 3 (by omega)
    simp only [PT.ids, List.filter_append] at k0 k1 k2 k3
    rw [(f 0 (by omega)).1, (f 0 (by omega)).2.1, (f 0 (by omega)).2.2.1, (f 0 (by omega)).2.2.2] at k0
    rw [(f 1 (by omega)).1, (f 1 (by omega)).2.1, (f 1 (by omega)).2.2.1, (f 1 (by omega)).2.2.2] at k1
    rw [(f 2 (by omega)).1, (f 2 (by omega)).2.1, (f 2 (by omega)).2.2.1, (f 2 (by omega)).2.2.2] at k2
    rw [(f 3 (by omega)).1, (f 3 (by omega)).2.1, (f 3 (by omega)).2.2.1, (f 3 (by omega)).2.2.2] at k3
    simp only [if_true, Nat.reduceEqDiff, if_false, List.append_nil, List.nil_append, Nat.zero_ne_one, Nat.succ_ne_self] at k0 k1 k2 k3
    rw [dep_can hs a n _ ha (hp.qtr (by omega)) k0, dep_can hs b n _ hb (hp.qtr (by omega)) k1, dep_can hs c n _ hc (hp.qtr (by omega)) k2, dep_can hs d n _ hd (hp.qtr (by omega)) k3]
end Go.Proofs.Ytggeehmcjndlgaa
