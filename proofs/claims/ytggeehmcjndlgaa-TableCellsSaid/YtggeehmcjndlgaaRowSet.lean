/-
  An element of a row of the call's own written anew, cell by cell.
-/
import Derived.Test.YtggeehmcjndlgaaRow
import Derived.Test.YtggeehmcjndlgaaSqRem
namespace Go.Proofs.Ytggeehmcjndlgaa
open Go Go.RowKit Go.Sort

/-- What a cell of a known block holds. -/
theorem cells_of_cell {w : World} {b o : Nat} {cs : Array Value} {t : TypeId} {fr : Nat × Nat} {v : Value} (h : w.heap[b]? = some (.cells cs t fr)) (hc : w.cell? ⟨b, o, none⟩ = some v) : cs[o]? = some v := by
  simpa [World.cell?, h] using hc

section
variable {α : Type} {enc : α → List Value} {k : Nat} {e : TypeId} {w w' : World} {base : Nat} {v : Value} {L : List α}

/-- The block of a row that isn't empty. -/
theorem RowOf.block (h : RowOf enc k e w base v L) (hne : L ≠ []) : ∃ g cap cur, v = .slice (some ⟨g, 0, none⟩) L.length cap ∧ base ≤ g ∧ w.heap[g]? = some (.cells cur e (0, 0)) := by
  rcases h.2 with ⟨rfl, hn⟩ | ⟨g, cap, cur, rfl, hb, hh, hnc, hm, hs, ht⟩
  · exact absurd (by simpa using hn) hne
  · exact ⟨g, cap, cur, rfl, hb, hh⟩

theorem flat_div (hk : ∀ x, (enc x).length = k) (hk0 : 0 < k) (L : List α) (o : Nat) : (L.flatMap enc)[o]? = (L[o / k]?).bind fun x => (enc x)[o % k]? := by
  have ho : o / k * k + o % k = o := by rw [Nat.mul_comm]; exact Nat.div_add_mod o k
  cases hx : L[o / k]? with
  | some x =>
    have := flat_get hk L (o / k) (o % k) x hx (Nat.mod_lt _ hk0)
    rw [ho] at this
    rw [this]; rfl
  | none =>
    have h1 : L.length ≤ o / k := List.getElem?_eq_none_iff.1 hx
    rw [List.getElem?_eq_none]
    · rfl
    · rw [flat_len hk]
      have := Nat.mul_le_mul_right k h1
      omega

theorem RowOf.upd {g n cap : Nat} {cur cur' : Array Value} (h : RowOf enc k e w base (.slice (some ⟨g, 0, none⟩) n cap) L) (hk : ∀ x, (enc x).length = k) (hk0 : 0 < k) (hcur : w.heap[g]? = some (.cells cur e (0, 0))) (hcur' : w'.heap[g]? = some (.cells cur' e (0, 0)))
    (hsz : cur'.size = cur.size) {j : Nat} (hj : j < L.length) {z : α} (hin : ∀ i u, (enc z)[i]? = some u → cur'[j * k + i]? = some u) (hout : ∀ o, o / k ≠ j → cur'[o]? = cur[o]?) :
    RowOf enc k e w' base (.slice (some ⟨g, 0, none⟩) n cap) (L.set j z) := by
  obtain ⟨h1, h2⟩ := h
  rcases h2 with ⟨h2, _⟩ | ⟨g', cap', cur0, h2, hb, hh, hnc, hm, hs, ht⟩
  · cases h2
  · simp only [Value.slice.injEq, Option.some.injEq, Addr.mk.injEq, and_true] at h2
    obtain ⟨rfl, rfl, rfl⟩ := h2
    rw [hcur] at hh
    simp only [Option.some.injEq, Obj.cells.injEq, and_true] at hh
    obtain ⟨rfl, _⟩ := hh
    have hll : (L.set j z).length = L.length := by simp
    refine ⟨by rw [flat_len hk], .inr ⟨g, cap, cur', by rw [hll], hb, by rw [hcur'], by rw [hll]; exact hnc, hm, by rw [hsz]; exact hs, ?_⟩⟩
    rw [hll]
    apply List.ext_getElem?
    intro o
    rcases Nat.lt_or_ge o (L.length * k) with ho | ho
    · have ht' := congrArg (·[o]?) ht
      simp only [List.getElem?_take_of_lt ho, Array.getElem?_toList] at ht'
      rw [List.getElem?_take_of_lt ho, Array.getElem?_toList, flat_div hk hk0]
      rw [flat_div hk hk0] at ht'
      by_cases hq : o / k = j
      · rw [hq, List.getElem?_set_self hj]
        have hz : (enc z)[o % k]? = some ((enc z)[o % k]'(by rw [hk]; exact Nat.mod_lt _ hk0)) := List.getElem?_eq_getElem _
        have := hin _ _ hz
        have ho' : j * k + o % k = o := by rw [← hq, Nat.mul_comm]; exact Nat.div_add_mod o k
        rw [ho'] at this
        rw [this, Option.bind_some, hz]
      · rw [List.getElem?_set_ne (fun h => hq h.symm), hout o hq, ht']
    · rw [List.getElem?_eq_none (by simp; omega), List.getElem?_eq_none (by rw [flat_len hk, hll]; omega)]
end
end Go.Proofs.Ytggeehmcjndlgaa
