/-
  Fields and things: as values in memory; what may stand on the map (fields.IsField, thing.Is, and the document's).
-/
import Derived.Test.YtggeehmcjndlgaaRef3
import Derived.Test.YtggeehmcjndlgaaRowSet
import Derived.Deep.RegionHeld3
namespace Go.Proofs.Ytggeehmcjndlgaa
open Go Go.RowKit Go.Sort Go.Shelf
set_option linter.unusedVariables false
set_option linter.unusedSimpArgs false
set_option linter.unnecessarySimpa false

/-- A field: a number, a text. -/
structure Fld where
  n : Int
  t : ByteArray
deriving DecidableEq
/-- A thing: its number, where it is, its fields. -/
structure Thg where
  id : Int
  x : Int
  y : Int
  a : Fld
  b : Fld
  c : Fld
  d : Fld
deriving DecidableEq
def encF (f : Fld) : List Value := [.int .i64 f.n, .string f.t]
def encT (x : Thg) : List Value := [.int .i64 x.id, .int .i64 x.x, .int .i64 x.y, .int .i64 x.a.n, .string x.a.t, .int .i64 x.b.n, .string x.b.t, .int .i64 x.c.n, .string x.c.t, .int .i64 x.d.n, .string x.d.t]
def Thg.val (x : Thg) : Value := .agg #[.int .i64 x.id, .int .i64 x.x, .int .i64 x.y, .int .i64 x.a.n, .string x.a.t, .int .i64 x.b.n, .string x.b.t, .int .i64 x.c.n, .string x.c.t, .int .i64 x.d.n, .string x.d.t]

def fldB (f : Fld) : Bool := decide ((f.n = 0 ∨ f.t.size = 0) ∧ f.t.size ≤ 12)
def Thg.fs (x : Thg) : List Fld := [x.a, x.b, x.c, x.d]
def thgB (x : Thg) : Bool := decide (0 ≤ x.id) && (decide (x.id ≤ 1000000) && (onB x.x x.y && !(x.fs.any fun f => !fldB f)))

theorem ba_nil (s : ByteArray) : s.toList = [] ↔ s.size = 0 := by
  rw [ByteArray.toList_eq, List.eq_nil_iff_length_eq_zero, Array.length_toList]
  rfl
def okF (f : Fld) : Prop := f.t.size ≤ 9223372036854775807

set_option maxHeartbeats 1000000 in
theorem fields_IsField (f : Fld) (w : World) (hs : okF f) : Calls Try.prog 117 #[.agg #[.int .i64 f.n, .string f.t]] w fun e w' => e = .returned (.bool (fldB f)) ∧ Below w.heap.size w w' := by
  unfold okF at hs
  go_enter Try.func117, Try.ntmps117
  go_wp2
  all_goals (go_ret; refine ⟨ret_bool ?_, (by (repeat (first | exact Below.refl _ _ | assumption | refine Below.alloc ?_ (by first | omega | (simp; done) | (simp; omega)) _ | refine Below.setCell ?_ (by first | omega | (simp; done) | (simp; omega)) _ | refine Below.drew ?_ | refine Below.draws ?_ _ | refine Below.via (by assumption) (by first | omega | (simp; done) | (simp; omega)) ?_)))⟩; unfold fldB; have hb := ba_nil f.t; simp_all <;> omega)
set_option maxHeartbeats 1000000 in
theorem ref6_IsField (f : Fld) (w : World) (hs : okF f) : Calls Try.prog 89 #[.agg #[.int .i64 f.n, .string f.t]] w fun e w' => e = .returned (.bool (fldB f)) ∧ Below w.heap.size w w' := by
  unfold okF at hs
  go_enter Try.func89, Try.ntmps89
  go_wp2
  all_goals (go_ret; refine ⟨ret_bool ?_, (by (repeat (first | exact Below.refl _ _ | assumption | refine Below.alloc ?_ (by first | omega | (simp; done) | (simp; omega)) _ | refine Below.setCell ?_ (by first | omega | (simp; done) | (simp; omega)) _ | refine Below.drew ?_ | refine Below.draws ?_ _ | refine Below.via (by assumption) (by first | omega | (simp; done) | (simp; omega)) ?_)))⟩; unfold fldB; have hb := ba_nil f.t; simp_all <;> omega)

set_option maxHeartbeats 1000000 in
/-- thing.Is's closure. -/
theorem thing_Is1 (f : Fld) (w : World) (hs : okF f) : Calls Try.prog 116 #[.agg #[.int .i64 f.n, .string f.t]] w fun e w' => e = .returned (.bool (!fldB f)) ∧ Below w.heap.size w w' := by
  have h := fields_IsField f
  cases hb : fldB f <;> rw [hb] at h
  all_goals
    go_enter Try.func116, Try.ntmps116
    go_wp2_with fail
    refine Calls.mono (h _ hs) ?_
    rintro e w1 ⟨rfl, hb1⟩
    go_wp2_with fail
    go_ret
    exact ⟨rfl, (by (repeat (first | exact Below.refl _ _ | assumption | refine Below.alloc ?_ (by first | omega | (simp; done) | (simp; omega)) _ | refine Below.setCell ?_ (by first | omega | (simp; done) | (simp; omega)) _ | refine Below.drew ?_ | refine Below.draws ?_ _ | refine Below.via (by assumption) (by first | omega | (simp; done) | (simp; omega)) ?_)))⟩

def HasBad (l : List Fld) (w : World) (e : Ending) (w' : World) : Prop := ∃ j : Int, e = .returned (.int .i64 j) ∧ decide (0 ≤ j) = (l.any fun f => !fldB f) ∧ Below w.heap.size w w'

set_option maxHeartbeats 2000000 in
theorem flds_IndexFunc (w : World) (v : Value) (l : List Fld) (h : Reads encF w v l) (hl : l.length ≤ 1000) (hs : ∀ f ∈ l, okF f) :
    Calls Try.prog 142 #[v, .func (.func 116) #[] #[]] w (HasBad l w) := by
  obtain ⟨ao, cap, hv⟩ := h.len
  subst hv
  have HS := Lib.hid hs
  have H := Lib.hid h
  clear h hs
  go_enter Try.func142, Try.ntmps142
  go_wp2_with fail
  go_loopw [5, 8] (fun _ i wl => ∃ k : Nat, k ≤ l.length ∧ i = .int .i64 k ∧ ((l.take k).any fun f => !fldB f) = false ∧ Below w.heap.size w wl) (fun _ i _ => l.length - (intOf i).toNat)
  case atStart => exact ⟨0, Nat.zero_le _, rfl, by simp, Below.refl _ _⟩
  case round =>
    obtain ⟨k, hk, rfl, hno, hb⟩ := hrel
    rcases Nat.lt_or_ge k l.length with hlt | hge
    · have hcur : l[k]? = some l[k] := List.getElem?_eq_getElem hlt
      have hmem := HS.out _ (List.getElem_mem hlt)
      have hnext : ((l.take (k + 1)).any fun f => !fldB f) = (((l.take k).any fun f => !fldB f) || !fldB l[k]) := by rw [List.take_succ_eq_append_getElem hlt, List.any_append]; simp
      have hall : (!fldB l[k]) = true → (l.any fun f => !fldB f) = true := fun h => List.any_eq_true.2 ⟨_, List.getElem_mem hlt, h⟩
      obtain ⟨b, off, hao, hc⟩ := H.out.cell (k := 2) (fun _ => rfl) rfl hcur
      subst hao
      generalize l[k] = f at *
      have c0 := hc 0 _ rfl
      have c1 := hc 1 _ rfl
      rw [Nat.add_zero] at c0
      have c0 := (hb.cell (p := ⟨b, off + k * 2, none⟩) (World.block_lt_of_cell? w _ c0)).trans c0
      have c1 := (hb.cell (p := ⟨b, off + k * 2 + 1, none⟩) (World.block_lt_of_cell? w _ c1)).trans c1
      have HN := Lib.hid hnext
      have HNO := Lib.hid hno
      have HALL := Lib.hid hall
      have HC := Lib.hid (fun w' => thing_Is1 f w' hmem)
      have hlt' : (k : Int) < l.length := by omega
      clear hc hcur hnext hno hall hmem
      cases hf : fldB f
      · rw [hf] at HC
        go_wp2_with fail
        refine Calls.mono (HC.out _) ?_
        rintro e w1 ⟨rfl, hb1⟩
        go_wp2_with fail
        go_ret
        exact ⟨k, rfl, by rw [HALL.out (by rw [hf]; rfl)]; simp, hb1.via hb.size hb⟩
      · rw [hf] at HC
        go_wp2_with fail
        refine Calls.mono (HC.out _) ?_
        rintro e w1 ⟨rfl, hb1⟩
        go_wp2_with fail
        go_roundw
        case rel => exact ⟨k + 1, by omega, by go_num, by rw [HN.out, HNO.out, hf]; rfl, hb1.via hb.size hb⟩
        case measure => simp [intOf]; omega
    · have hke : k = l.length := by omega
      subst hke
      rw [List.take_length] at hno
      have HNO := Lib.hid hno
      clear hno
      go_wp2_with fail
      go_ret
      exact ⟨-1, rfl, by rw [HNO.out]; rfl, hb⟩

set_option maxHeartbeats 1000000 in
theorem flds_ContainsFunc (w : World) (v : Value) (l : List Fld) (h : Reads encF w v l) (hl : l.length ≤ 1000) (hs : ∀ f ∈ l, okF f) :
    Calls Try.prog 115 #[v, .func (.func 116) #[] #[]] w fun e w' => e = .returned (.bool (l.any fun f => !fldB f)) ∧ Below w.heap.size w w' := by
  have HI := Lib.hid (flds_IndexFunc w v l h hl hs)
  go_enter Try.func115, Try.ntmps115
  go_wp2_with fail
  refine Calls.mono HI.out ?_
  rintro e w1 ⟨j, rfl, hj, hb⟩
  have HJ := Lib.hid hj
  clear hj
  go_wp2_with fail
  go_ret
  exact ⟨ret_bool HJ.out, hb⟩

def okT (x : Thg) : Prop := okF x.a ∧ okF x.b ∧ okF x.c ∧ okF x.d
theorem thgB_iff {x : Thg} : thgB x = true ↔ 0 ≤ x.id ∧ x.id ≤ 1000000 ∧ onB x.x x.y = true ∧ fldB x.a = true ∧ fldB x.b = true ∧ fldB x.c = true ∧ fldB x.d = true := by
  simp [thgB, Thg.fs]
theorem okT.all {x : Thg} (h : okT x) : ∀ f ∈ x.fs, okF f := by
  intro f hf
  simp only [Thg.fs, List.mem_cons, List.not_mem_nil, or_false] at hf
  rcases hf with rfl | rfl | rfl | rfl
  · exact h.1
  · exact h.2.1
  · exact h.2.2.1
  · exact h.2.2.2
/-- The four fields of a thing's box. -/
theorem fs_reads {w : World} {b : Nat} {x : Thg} {cs : Array Value} {t : TypeId} (h : w.heap[b]? = some (.cells cs t (0, 0))) (hc : cs = (encT x).toArray) : Reads encF w (.slice (some ⟨b, 3, none⟩) 4 4) x.fs := by
  subst hc
  refine ⟨some ⟨b, 3, none⟩, 4, rfl, Nat.le_refl _, fun e => (by cases e), fun b' off' sp' e => ?_⟩
  cases e
  refine ⟨rfl, fun j u hj => ?_⟩
  have hj8 : j < 8 := (List.getElem?_eq_some_iff.1 hj).1
  refine cellAt h ?_
  rw [← hj]
  match j, hj8 with
  | 0, _ => rfl
  | 1, _ => rfl
  | 2, _ => rfl
  | 3, _ => rfl
  | 4, _ => rfl
  | 5, _ => rfl
  | 6, _ => rfl
  | 7, _ => rfl

/-- The box of a thing. -/
def Thg.obj (x : Thg) : Obj := .cells #[.int .i64 x.id, .int .i64 x.x, .int .i64 x.y, .int .i64 x.a.n, .string x.a.t, .int .i64 x.b.n, .string x.b.t, .int .i64 x.c.n, .string x.c.t, .int .i64 x.d.n, .string x.d.t] 63 (0, 0)

set_option maxHeartbeats 4000000 in
theorem thing_Is (x : Thg) (w : World) (hx : okT x) : Calls Try.prog 87 #[x.val] w fun e w' => e = .returned (.bool (thgB x)) ∧ Below w.heap.size w w' := by
  obtain ⟨W, hWd⟩ : ∃ W, W = w.alloc (.cells #[.int .i64 x.id, .int .i64 x.x, .int .i64 x.y, .int .i64 x.a.n, .string x.a.t, .int .i64 x.b.n, .string x.b.t, .int .i64 x.c.n, .string x.c.t, .int .i64 x.d.n, .string x.d.t] 63) := ⟨_, rfl⟩
  have hW : Below w.heap.size w W := by rw [hWd]; exact (Below.refl _ w).alloc (Nat.le_refl _) _
  have hbox : W.heap[w.heap.size]? = some x.obj := by rw [hWd]; exact heap_alloc_new _ _
  have HF := Lib.hid (fun W' (hb : Below W.heap.size W W') => flds_ContainsFunc W' _ x.fs (fs_reads ((hb.block _ (lt_of_block hbox)).trans hbox) rfl) (by simp [Thg.fs]) hx.all)
  unfold thgB
  unfold Thg.val
  by_cases h1 : 0 ≤ x.id
  · by_cases h2 : x.id ≤ 1000000
    · have hON := geom_On x.x x.y
      cases hon : onB x.x x.y
      · rw [hon] at hON
        go_enter Try.func87, Try.ntmps87
        go_wp2_with fail
        refine Calls.mono (hON _) ?_
        rintro e w1 ⟨rfl, hb1⟩
        go_wp2_with fail
        go_ret
        exact ⟨ret_bool (by simp [h1, h2]), (by (repeat (first | exact Below.refl _ _ | assumption | refine Below.alloc ?_ (by first | omega | (simp; done) | (simp; omega)) _ | refine Below.setCell ?_ (by first | omega | (simp; done) | (simp; omega)) _ | refine Below.drew ?_ | refine Below.draws ?_ _ | refine Below.via (by assumption) (by first | omega | (simp; done) | (simp; omega)) ?_)))⟩
      · rw [hon] at hON
        generalize (x.fs.any fun f => !fldB f) = z at *
        go_enter Try.func87, Try.ntmps87
        go_wp2_with fail
        rw [← hWd]
        clear hWd
        refine Calls.mono (hON _) ?_
        rintro e w1 ⟨rfl, hb1⟩
        go_wp2_with fail
        refine Calls.mono (HF.out _ hb1) ?_
        rintro e w2 ⟨rfl, hb2⟩
        have hB := hb2.via (Nat.le_trans hW.size hb1.size) (hb1.via hW.size hW)
        go_wp2_with fail
        go_ret
        exact ⟨ret_bool (by simp [h1, h2]), hB⟩
    · go_enter Try.func87, Try.ntmps87
      go_wp2_with fail
      go_ret
      exact ⟨ret_bool (by simp; intros; omega), (by (repeat (first | exact Below.refl _ _ | assumption | refine Below.alloc ?_ (by first | omega | (simp; done) | (simp; omega)) _ | refine Below.setCell ?_ (by first | omega | (simp; done) | (simp; omega)) _ | refine Below.drew ?_ | refine Below.draws ?_ _ | refine Below.via (by assumption) (by first | omega | (simp; done) | (simp; omega)) ?_)))⟩
  · go_enter Try.func87, Try.ntmps87
    go_wp2_with fail
    go_ret
    exact ⟨ret_bool (by simp; intros; omega), (by (repeat (first | exact Below.refl _ _ | assumption | refine Below.alloc ?_ (by first | omega | (simp; done) | (simp; omega)) _ | refine Below.setCell ?_ (by first | omega | (simp; done) | (simp; omega)) _ | refine Below.drew ?_ | refine Below.draws ?_ _ | refine Below.via (by assumption) (by first | omega | (simp; done) | (simp; omega)) ?_)))⟩
end Go.Proofs.Ytggeehmcjndlgaa
