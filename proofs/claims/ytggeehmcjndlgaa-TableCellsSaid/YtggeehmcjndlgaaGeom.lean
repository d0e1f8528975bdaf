/-
  The contracts of geom's and quad's functions on points and rectangles: each answers what it says, and lays new blocks alone.
-/
import Derived.Test.YtggeehmcjndlgaaRegion
import Derived.Test.YtggeehmcjndlgaaRows
namespace Go.Proofs.Ytggeehmcjndlgaa
open Go Go.RowKit Go.Sort

/-- A rectangle. -/
structure R4 where
  x0 : Int
  y0 : Int
  x1 : Int
  y1 : Int
  deriving DecidableEq, Inhabited

def R4.val (r : R4) : Value := .agg #[.int .i64 r.x0, .int .i64 r.y0, .int .i64 r.x1, .int .i64 r.y1]

def onB (px py : Int) : Bool := decide (0 ≤ px ∧ px < 64 ∧ 0 ≤ py ∧ py < 64)
def inB (r : R4) (px py : Int) : Bool := decide (r.x0 ≤ px ∧ px < r.x1 ∧ r.y0 ≤ py ∧ py < r.y1)
def emptyB (r : R4) : Bool := decide (r.x1 ≤ r.x0 ∨ r.y1 ≤ r.y0)
def tidy (r : R4) : R4 := if emptyB r then ⟨0, 0, 0, 0⟩ else r
def meet (a b : R4) : R4 := tidy ⟨max a.x0 b.x0, max a.y0 b.y0, min a.x1 b.x1, min a.y1 b.y1⟩
def whole : R4 := ⟨0, 0, 64, 64⟩
def qtr (r : R4) (i : Nat) : R4 :=
  let h := (r.x1 - r.x0) / 2
  ⟨r.x0 + h * (i % 2 : Nat), r.y0 + h * (i / 2 : Nat), r.x0 + h * (i % 2 : Nat) + h, r.y0 + h * (i / 2 : Nat) + h⟩
def whch (r : R4) (px py : Int) : Nat := (if (r.x0 + r.x1) / 2 ≤ px then 1 else 0) + (if (r.y0 + r.y1) / 2 ≤ py then 2 else 0)

/-- A square of the map. -/
def R4.sq (r : R4) : Prop := 0 ≤ r.x0 ∧ r.x0 ≤ r.x1 ∧ r.x1 ≤ 64 ∧ 0 ≤ r.y0 ∧ r.y1 ≤ 64 ∧ r.x1 - r.x0 = r.y1 - r.y0
/-- A rectangle of the map. -/
def R4.ok (r : R4) : Prop := 0 ≤ r.x0 ∧ r.x0 ≤ r.x1 ∧ r.x1 ≤ 64 ∧ 0 ≤ r.y0 ∧ r.y0 ≤ r.y1 ∧ r.y1 ≤ 64
theorem R4.sq.ok {r : R4} (h : r.sq) : r.ok := by obtain ⟨h1, h2, h3, h4, h5, h6⟩ := h; exact ⟨h1, h2, h3, h4, by omega, h5⟩
theorem R4.sq.qtr {r : R4} (h : r.sq) {i : Nat} (hi : i < 4) : (qtr r i).sq := by
  obtain ⟨h1, h2, h3, h4, h5, h6⟩ := h
  have : i = 0 ∨ i = 1 ∨ i = 2 ∨ i = 3 := by omega
  rcases this with rfl | rfl | rfl | rfl <;> (refine ⟨?_, ?_, ?_, ?_, ?_, ?_⟩ <;> simp [Go.Proofs.Ytggeehmcjndlgaa.qtr] <;> omega)
theorem whole_sq : whole.sq := by refine ⟨?_, ?_, ?_, ?_, ?_, ?_⟩ <;> simp [whole]
theorem whch_lt (r : R4) (px py : Int) : whch r px py < 4 := by unfold whch; (repeat' split) <;> omega

set_option maxHeartbeats 400000 in
theorem geom_On (px py : Int) (w : World) :
    Calls Try.prog 74 #[.agg #[.int .i64 px, .int .i64 py]] w fun e w' => e = .returned (.bool (onB px py)) ∧ Below w.heap.size w w' := by
  go_enter Try.func74, Try.ntmps74
  go_wp2
  all_goals (go_ret; exact ⟨by first | (simp [onB]; done) | (simp [onB, *]; done) | (simp [onB, *]; omega), (by (repeat (first | exact Below.refl _ _ | assumption | refine Below.alloc ?_ (by first | omega | (simp; done) | (simp; omega)) _ | refine Below.setCell ?_ (by first | omega | (simp; done) | (simp; omega)) _ | refine Below.drew ?_ | refine Below.draws ?_ _ | refine Below.via (by assumption) (by first | omega | (simp; done) | (simp; omega)) ?_)))⟩)

set_option maxHeartbeats 400000 in
theorem geom_In (r : R4) (px py : Int) (w : World) :
    Calls Try.prog 111 #[.agg #[.int .i64 r.x0, .int .i64 r.y0, .int .i64 r.x1, .int .i64 r.y1], .agg #[.int .i64 px, .int .i64 py]] w fun e w' => e = .returned (.bool (inB r px py)) ∧ Below w.heap.size w w' := by
  go_enter Try.func111, Try.ntmps111
  go_wp2
  all_goals (go_ret; exact ⟨by first | (simp [inB]; done) | (simp [inB, *]; done) | (simp [inB, *]; omega), (by (repeat (first | exact Below.refl _ _ | assumption | refine Below.alloc ?_ (by first | omega | (simp; done) | (simp; omega)) _ | refine Below.setCell ?_ (by first | omega | (simp; done) | (simp; omega)) _ | refine Below.drew ?_ | refine Below.draws ?_ _ | refine Below.via (by assumption) (by first | omega | (simp; done) | (simp; omega)) ?_)))⟩)

set_option maxHeartbeats 400000 in
theorem geom_Empty (r : R4) (w : World) :
    Calls Try.prog 109 #[.agg #[.int .i64 r.x0, .int .i64 r.y0, .int .i64 r.x1, .int .i64 r.y1]] w fun e w' => e = .returned (.bool (emptyB r)) ∧ Below w.heap.size w w' := by
  go_enter Try.func109, Try.ntmps109
  go_wp2
  all_goals (go_ret; exact ⟨by first | (simp [emptyB]; done) | (simp [emptyB, *]; done) | (simp [emptyB, *]; omega), (by (repeat (first | exact Below.refl _ _ | assumption | refine Below.alloc ?_ (by first | omega | (simp; done) | (simp; omega)) _ | refine Below.setCell ?_ (by first | omega | (simp; done) | (simp; omega)) _ | refine Below.drew ?_ | refine Below.draws ?_ _ | refine Below.via (by assumption) (by first | omega | (simp; done) | (simp; omega)) ?_)))⟩)

set_option maxHeartbeats 400000 in
theorem quad_whole (w : World) :
    Calls Try.prog 77 #[] w fun e w' => e = .returned whole.val ∧ Below w.heap.size w w' := by
  go_enter Try.func77, Try.ntmps77
  go_wp2
  exact bodyPost_ret (v := whole.val) (by simp [results, Try.results77, go_sem, R4.val, whole]) rfl ⟨rfl, (by (repeat (first | exact Below.refl _ _ | assumption | refine Below.alloc ?_ (by first | omega | (simp; done) | (simp; omega)) _ | refine Below.setCell ?_ (by first | omega | (simp; done) | (simp; omega)) _ | refine Below.drew ?_ | refine Below.draws ?_ _ | refine Below.via (by assumption) (by first | omega | (simp; done) | (simp; omega)) ?_)))⟩

set_option maxHeartbeats 400000 in
theorem quad_which (r : R4) (px py : Int) (w : World) (h : r.ok) :
    Calls Try.prog 106 #[.agg #[.int .i64 r.x0, .int .i64 r.y0, .int .i64 r.x1, .int .i64 r.y1], .agg #[.int .i64 px, .int .i64 py]] w fun e w' => e = .returned (.int .i64 (whch r px py)) ∧ Below w.heap.size w w' := by
  obtain ⟨h1, h2, h3, h4, h5, h6⟩ := h
  have h7 : r.x0 + r.x1 ≤ 128 := by omega
  go_enter Try.func106, Try.ntmps106
  go_wp2
  all_goals (go_ret; exact ⟨ret_i64 (by unfold whch; (repeat' split) <;> first | rfl | (exfalso; omega)), (by (repeat (first | exact Below.refl _ _ | assumption | refine Below.alloc ?_ (by first | omega | (simp; done) | (simp; omega)) _ | refine Below.setCell ?_ (by first | omega | (simp; done) | (simp; omega)) _ | refine Below.drew ?_ | refine Below.draws ?_ _ | refine Below.via (by assumption) (by first | omega | (simp; done) | (simp; omega)) ?_)))⟩)

set_option maxHeartbeats 400000 in
theorem geom_tidy (r : R4) (w : World) :
    Calls Try.prog 130 #[.agg #[.int .i64 r.x0, .int .i64 r.y0, .int .i64 r.x1, .int .i64 r.y1]] w fun e w' => e = .returned (tidy r).val ∧ Below w.heap.size w w' := by
  cases he : emptyB r
  all_goals
    have h1 := fun w => geom_Empty r w
    rw [he] at h1
    go_enter Try.func130, Try.ntmps130
    go_wp2_with (go_at_call 109; refine (h1 _).mono ?_; rintro e w1 ⟨rfl, hb⟩; obtain ⟨hc, hf⟩ := bcell hb)
    exact bodyPost_ret (v := (tidy r).val) (by simp [results, Try.results130, go_sem, R4.val, tidy, he, hc, World.cell?_setCell_same', World.cell?_setCell_other]) rfl ⟨rfl, (by (repeat (first | exact Below.refl _ _ | assumption | refine Below.alloc ?_ (by first | omega | (simp; done) | (simp; omega)) _ | refine Below.setCell ?_ (by first | omega | (simp; done) | (simp; omega)) _ | refine Below.drew ?_ | refine Below.draws ?_ _ | refine Below.via (by assumption) (by first | omega | (simp; done) | (simp; omega)) ?_)))⟩

set_option maxHeartbeats 400000 in
theorem quad_quarter (r : R4) (i : Nat) (w : World) (h : r.ok) (hi : i < 4) :
    Calls Try.prog 107 #[.agg #[.int .i64 r.x0, .int .i64 r.y0, .int .i64 r.x1, .int .i64 r.y1], .int .i64 i] w fun e w' => e = .returned (qtr r i).val ∧ Below w.heap.size w w' := by
  obtain ⟨h1, h2, h3, h4, h5, h6⟩ := h
  go_enter Try.func107, Try.ntmps107
  go_wp2
  go_quiet (fail)
  go_wp2
  exact bodyPost_ret (v := (qtr r i).val) (by
    have hi' : i = 0 ∨ i = 1 ∨ i = 2 ∨ i = 3 := by omega
    have hm : 0 ≤ (r.x1 - r.x0) / 2 ∧ (r.x1 - r.x0) / 2 ≤ 32 := by omega
    rcases hi' with rfl | rfl | rfl | rfl <;> simp [results, Try.results107, go_sem, R4.val, qtr] <;> unfold wrap64 <;> omega) rfl ⟨rfl, (by (repeat (first | exact Below.refl _ _ | assumption | refine Below.alloc ?_ (by first | omega | (simp; done) | (simp; omega)) _ | refine Below.setCell ?_ (by first | omega | (simp; done) | (simp; omega)) _ | refine Below.drew ?_ | refine Below.draws ?_ _ | refine Below.via (by assumption) (by first | omega | (simp; done) | (simp; omega)) ?_)))⟩

theorem meet_pre (a b : R4) : meet a b = tidy ⟨max a.x0 b.x0, max a.y0 b.y0, min a.x1 b.x1, min a.y1 b.y1⟩ := rfl
theorem run_mx (ts : Array TypeId) (t : TypeId) (x y : Int) (w : World) : (Builtin.max_ ts t #[.int .i64 x, .int .i64 y]).run Try.prog w = .ok (.int .i64 (max x y)) w := by
  simp [Builtin.max_, Builtin.max2]; split <;> omega
theorem run_mn (ts : Array TypeId) (t : TypeId) (x y : Int) (w : World) : (Builtin.min_ ts t #[.int .i64 x, .int .i64 y]).run Try.prog w = .ok (.int .i64 (min x y)) w := by
  simp [Builtin.min_, Builtin.min2]; split <;> omega

set_option maxHeartbeats 400000 in
theorem geom_Meet (a b : R4) (w : World) :
    Calls Try.prog 110 #[.agg #[.int .i64 a.x0, .int .i64 a.y0, .int .i64 a.x1, .int .i64 a.y1], .agg #[.int .i64 b.x0, .int .i64 b.y0, .int .i64 b.x1, .int .i64 b.y1]] w fun e w' => e = .returned (meet a b).val ∧ Below w.heap.size w w' := by
  have h1 := geom_tidy ⟨max a.x0 b.x0, max a.y0 b.y0, min a.x1 b.x1, min a.y1 b.y1⟩
  rw [← meet_pre] at h1
  generalize meet a b = m at h1 ⊢
  simp only [R4.val] at h1
  have hmx := run_mx
  have hmn := run_mn
  go_enter Try.func110, Try.ntmps110
  go_wp2_with (go_at_call 130; refine (h1 _).mono ?_; rintro e w1 ⟨rfl, hb⟩; obtain ⟨hc, hf⟩ := bcell hb)
  exact bodyPost_ret (v := m.val) (by simp [results, Try.results110, go_sem, R4.val, hc, World.cell?_setCell_same', World.cell?_setCell_other]) rfl ⟨rfl, (by (repeat (first | exact Below.refl _ _ | assumption | refine Below.alloc ?_ (by first | omega | (simp; done) | (simp; omega)) _ | refine Below.setCell ?_ (by first | omega | (simp; done) | (simp; omega)) _ | refine Below.drew ?_ | refine Below.draws ?_ _ | refine Below.via (by assumption) (by first | omega | (simp; done) | (simp; omega)) ?_)))⟩
end Go.Proofs.Ytggeehmcjndlgaa
