/-
  cells: a cell's rectangle, a point's cell.
-/
import Derived.Test.YtggeehmcjndlgaaApart
namespace Go.Proofs.Ytggeehmcjndlgaa
open Go Go.RowKit Go.Sort Go.Shelf
set_option linter.unusedVariables false
set_option linter.unusedSimpArgs false
set_option linter.unnecessarySimpa false

def gA (n : Int) : Int := bits .and .u32 n 1431655765
def gB (n : Int) : Int := bits .and .u32 (bits .or .u32 (gA n) (gA n / 2)) 858993459
def gC (n : Int) : Int := bits .and .u32 (bits .or .u32 (gB n) (gB n / 4)) 252645135
def gD (n : Int) : Int := bits .and .u32 (bits .or .u32 (gC n) (gC n / 16)) 16711935
def gE (n : Int) : Int := bits .and .u32 (bits .or .u32 (gD n) (gD n / 256)) 65535
set_option maxRecDepth 1000000 in
set_option maxHeartbeats 4000000 in
theorem morton_gather (n : Int) (w : World) : Calls Try.prog 151 #[.int .u32 n] w fun e w' => e = .returned (.int .u32 (gE n)) ∧ Below w.heap.size w w' := by
  have i0 : ∀ w, (Instr.index 194 (.agg #[.int .u64 1, .int .u32 858993459, .int .u64 2, .int .u32 252645135, .int .u64 4, .int .u32 16711935, .int .u64 8, .int .u32 65535]) (.int .i64 0)).run Try.prog w = .ok (.agg #[.int .u64 1, .int .u32 858993459]) w := fun _ => by kernel_rfl
  have i1 : ∀ w, (Instr.index 194 (.agg #[.int .u64 1, .int .u32 858993459, .int .u64 2, .int .u32 252645135, .int .u64 4, .int .u32 16711935, .int .u64 8, .int .u32 65535]) (.int .i64 1)).run Try.prog w = .ok (.agg #[.int .u64 2, .int .u32 252645135]) w := fun _ => by kernel_rfl
  have i2 : ∀ w, (Instr.index 194 (.agg #[.int .u64 1, .int .u32 858993459, .int .u64 2, .int .u32 252645135, .int .u64 4, .int .u32 16711935, .int .u64 8, .int .u32 65535]) (.int .i64 2)).run Try.prog w = .ok (.agg #[.int .u64 4, .int .u32 16711935]) w := fun _ => by kernel_rfl
  have i3 : ∀ w, (Instr.index 194 (.agg #[.int .u64 1, .int .u32 858993459, .int .u64 2, .int .u32 252645135, .int .u64 4, .int .u32 16711935, .int .u64 8, .int .u32 65535]) (.int .i64 3)).run Try.prog w = .ok (.agg #[.int .u64 8, .int .u32 65535]) w := fun _ => by kernel_rfl
  go_enter Try.func151, Try.ntmps151
  go_wp2_with fail
  refine wp_loop_rounds 5 ?_
  rw [rounds_succ]
  go_wp2_with fail
  rw [rounds_succ]
  go_wp2_with fail
  rw [rounds_succ]
  go_wp2_with fail
  rw [rounds_succ]
  go_wp2_with fail
  rw [rounds_succ]
  go_wp2_with fail
  go_ret
  exact ⟨rfl, (by (repeat (first | exact Below.refl _ _ | assumption | refine Below.alloc ?_ (by first | omega | (simp; done) | (simp; omega)) _ | refine Below.setCell ?_ (by first | omega | (simp; done) | (simp; omega)) _ | refine Below.drew ?_ | refine Below.draws ?_ _ | refine Below.via (by assumption) (by first | omega | (simp; done) | (simp; omega)) ?_)))⟩
theorem gE_small : ∀ n : Fin 16, gE (n.val : Int) = ((n.val % 2 + n.val / 4 % 2 * 2 : Nat) : Int) := by decide +kernel

def sA (n : Int) : Int := bits .and .u32 (bits .or .u32 n (n * 256 % 4294967296)) 16711935
def sB (n : Int) : Int := bits .and .u32 (bits .or .u32 (sA n) (sA n * 16 % 4294967296)) 252645135
def sC (n : Int) : Int := bits .and .u32 (bits .or .u32 (sB n) (sB n * 4 % 4294967296)) 858993459
def sD (n : Int) : Int := bits .and .u32 (bits .or .u32 (sC n) (sC n * 2 % 4294967296)) 1431655765
set_option maxRecDepth 1000000 in
set_option maxHeartbeats 4000000 in
theorem morton_spread (n : Int) (w : World) : Calls Try.prog 152 #[.int .u32 n] w fun e w' => e = .returned (.int .u32 (sD n)) ∧ Below w.heap.size w w' := by
  have i0 : ∀ w, (Instr.index 194 (.agg #[.int .u64 8, .int .u32 16711935, .int .u64 4, .int .u32 252645135, .int .u64 2, .int .u32 858993459, .int .u64 1, .int .u32 1431655765]) (.int .i64 0)).run Try.prog w = .ok (.agg #[.int .u64 8, .int .u32 16711935]) w := fun _ => by kernel_rfl
  have i1 : ∀ w, (Instr.index 194 (.agg #[.int .u64 8, .int .u32 16711935, .int .u64 4, .int .u32 252645135, .int .u64 2, .int .u32 858993459, .int .u64 1, .int .u32 1431655765]) (.int .i64 1)).run Try.prog w = .ok (.agg #[.int .u64 4, .int .u32 252645135]) w := fun _ => by kernel_rfl
  have i2 : ∀ w, (Instr.index 194 (.agg #[.int .u64 8, .int .u32 16711935, .int .u64 4, .int .u32 252645135, .int .u64 2, .int .u32 858993459, .int .u64 1, .int .u32 1431655765]) (.int .i64 2)).run Try.prog w = .ok (.agg #[.int .u64 2, .int .u32 858993459]) w := fun _ => by kernel_rfl
  have i3 : ∀ w, (Instr.index 194 (.agg #[.int .u64 8, .int .u32 16711935, .int .u64 4, .int .u32 252645135, .int .u64 2, .int .u32 858993459, .int .u64 1, .int .u32 1431655765]) (.int .i64 3)).run Try.prog w = .ok (.agg #[.int .u64 1, .int .u32 1431655765]) w := fun _ => by kernel_rfl
  go_enter Try.func152, Try.ntmps152
  go_wp2_with fail
  refine wp_loop_rounds 5 ?_
  rw [rounds_succ]
  go_wp2_with fail
  rw [rounds_succ]
  go_wp2_with fail
  rw [rounds_succ]
  go_wp2_with fail
  rw [rounds_succ]
  go_wp2_with fail
  rw [rounds_succ]
  go_wp2_with fail
  go_ret
  exact ⟨rfl, (by (repeat (first | exact Below.refl _ _ | assumption | refine Below.alloc ?_ (by first | omega | (simp; done) | (simp; omega)) _ | refine Below.setCell ?_ (by first | omega | (simp; done) | (simp; omega)) _ | refine Below.drew ?_ | refine Below.draws ?_ _ | refine Below.via (by assumption) (by first | omega | (simp; done) | (simp; omega)) ?_)))⟩

def rX0 (_n : Int) : Int := 0
def rX1 (n : Int) : Int := bits .or .u16 (rX0 n) (IntKind.u16.wrap (IntKind.u16.wrap (bits .and .u32 n 1)))
def rX2 (n : Int) : Int := bits .or .u16 (rX1 n) (IntKind.u16.wrap (IntKind.u16.wrap (bits .and .u32 (n / 4) 1) * 2))
def rX3 (n : Int) : Int := bits .or .u16 (rX2 n) (IntKind.u16.wrap (IntKind.u16.wrap (bits .and .u32 (n / 16) 1) * 4))
def rX4 (n : Int) : Int := bits .or .u16 (rX3 n) (IntKind.u16.wrap (IntKind.u16.wrap (bits .and .u32 (n / 64) 1) * 8))
def rX5 (n : Int) : Int := bits .or .u16 (rX4 n) (IntKind.u16.wrap (IntKind.u16.wrap (bits .and .u32 (n / 256) 1) * 16))
def rX6 (n : Int) : Int := bits .or .u16 (rX5 n) (IntKind.u16.wrap (IntKind.u16.wrap (bits .and .u32 (n / 1024) 1) * 32))
def rX7 (n : Int) : Int := bits .or .u16 (rX6 n) (IntKind.u16.wrap (IntKind.u16.wrap (bits .and .u32 (n / 4096) 1) * 64))
def rX8 (n : Int) : Int := bits .or .u16 (rX7 n) (IntKind.u16.wrap (IntKind.u16.wrap (bits .and .u32 (n / 16384) 1) * 128))
def rX9 (n : Int) : Int := bits .or .u16 (rX8 n) (IntKind.u16.wrap (IntKind.u16.wrap (bits .and .u32 (n / 65536) 1) * 256))
def rX10 (n : Int) : Int := bits .or .u16 (rX9 n) (IntKind.u16.wrap (IntKind.u16.wrap (bits .and .u32 (n / 262144) 1) * 512))
def rX11 (n : Int) : Int := bits .or .u16 (rX10 n) (IntKind.u16.wrap (IntKind.u16.wrap (bits .and .u32 (n / 1048576) 1) * 1024))
def rX12 (n : Int) : Int := bits .or .u16 (rX11 n) (IntKind.u16.wrap (IntKind.u16.wrap (bits .and .u32 (n / 4194304) 1) * 2048))
def rX13 (n : Int) : Int := bits .or .u16 (rX12 n) (IntKind.u16.wrap (IntKind.u16.wrap (bits .and .u32 (n / 16777216) 1) * 4096))
def rX14 (n : Int) : Int := bits .or .u16 (rX13 n) (IntKind.u16.wrap (IntKind.u16.wrap (bits .and .u32 (n / 67108864) 1) * 8192))
def rX15 (n : Int) : Int := bits .or .u16 (rX14 n) (IntKind.u16.wrap (IntKind.u16.wrap (bits .and .u32 (n / 268435456) 1) * 16384))
def rX16 (n : Int) : Int := bits .or .u16 (rX15 n) (IntKind.u16.wrap (IntKind.u16.wrap (bits .and .u32 (n / 1073741824) 1) * 32768))
def rY0 (_n : Int) : Int := 0
def rY1 (n : Int) : Int := bits .or .u16 (rY0 n) (IntKind.u16.wrap (IntKind.u16.wrap (bits .and .u32 (n / 2) 1)))
def rY2 (n : Int) : Int := bits .or .u16 (rY1 n) (IntKind.u16.wrap (IntKind.u16.wrap (bits .and .u32 (n / 8) 1) * 2))
def rY3 (n : Int) : Int := bits .or .u16 (rY2 n) (IntKind.u16.wrap (IntKind.u16.wrap (bits .and .u32 (n / 32) 1) * 4))
def rY4 (n : Int) : Int := bits .or .u16 (rY3 n) (IntKind.u16.wrap (IntKind.u16.wrap (bits .and .u32 (n / 128) 1) * 8))
def rY5 (n : Int) : Int := bits .or .u16 (rY4 n) (IntKind.u16.wrap (IntKind.u16.wrap (bits .and .u32 (n / 512) 1) * 16))
def rY6 (n : Int) : Int := bits .or .u16 (rY5 n) (IntKind.u16.wrap (IntKind.u16.wrap (bits .and .u32 (n / 2048) 1) * 32))
def rY7 (n : Int) : Int := bits .or .u16 (rY6 n) (IntKind.u16.wrap (IntKind.u16.wrap (bits .and .u32 (n / 8192) 1) * 64))
def rY8 (n : Int) : Int := bits .or .u16 (rY7 n) (IntKind.u16.wrap (IntKind.u16.wrap (bits .and .u32 (n / 32768) 1) * 128))
def rY9 (n : Int) : Int := bits .or .u16 (rY8 n) (IntKind.u16.wrap (IntKind.u16.wrap (bits .and .u32 (n / 131072) 1) * 256))
def rY10 (n : Int) : Int := bits .or .u16 (rY9 n) (IntKind.u16.wrap (IntKind.u16.wrap (bits .and .u32 (n / 524288) 1) * 512))
def rY11 (n : Int) : Int := bits .or .u16 (rY10 n) (IntKind.u16.wrap (IntKind.u16.wrap (bits .and .u32 (n / 2097152) 1) * 1024))
def rY12 (n : Int) : Int := bits .or .u16 (rY11 n) (IntKind.u16.wrap (IntKind.u16.wrap (bits .and .u32 (n / 8388608) 1) * 2048))
def rY13 (n : Int) : Int := bits .or .u16 (rY12 n) (IntKind.u16.wrap (IntKind.u16.wrap (bits .and .u32 (n / 33554432) 1) * 4096))
def rY14 (n : Int) : Int := bits .or .u16 (rY13 n) (IntKind.u16.wrap (IntKind.u16.wrap (bits .and .u32 (n / 134217728) 1) * 8192))
def rY15 (n : Int) : Int := bits .or .u16 (rY14 n) (IntKind.u16.wrap (IntKind.u16.wrap (bits .and .u32 (n / 536870912) 1) * 16384))
def rY16 (n : Int) : Int := bits .or .u16 (rY15 n) (IntKind.u16.wrap (IntKind.u16.wrap (bits .and .u32 (n / 2147483648) 1) * 32768))

set_option maxRecDepth 1000000 in
set_option maxHeartbeats 8000000 in
theorem ref3_Split (n : Int) (w : World) : Calls Try.prog 119 #[.int .u32 n] w fun e w' => e = .returned (.tuple #[.int .u16 (rX16 n), .int .u16 (rY16 n)]) ∧ w' = w := by
  go_enter Try.func119, Try.ntmps119
  go_wp2_with fail
  refine wp_loop_rounds 17 ?_
  rw [rounds_succ]
  go_wp2_with fail
  rw [rounds_succ]
  go_wp2_with fail
  rw [rounds_succ]
  go_wp2_with fail
  rw [rounds_succ]
  go_wp2_with fail
  rw [rounds_succ]
  go_wp2_with fail
  rw [rounds_succ]
  go_wp2_with fail
  rw [rounds_succ]
  go_wp2_with fail
  rw [rounds_succ]
  go_wp2_with fail
  rw [rounds_succ]
  go_wp2_with fail
  rw [rounds_succ]
  go_wp2_with fail
  rw [rounds_succ]
  go_wp2_with fail
  rw [rounds_succ]
  go_wp2_with fail
  rw [rounds_succ]
  go_wp2_with fail
  rw [rounds_succ]
  go_wp2_with fail
  rw [rounds_succ]
  go_wp2_with fail
  rw [rounds_succ]
  go_wp2_with fail
  rw [rounds_succ]
  go_wp2_with fail
  go_ret2
  exact ⟨rfl, rfl⟩
theorem rX_small : ∀ n : Fin 16, rX16 (n.val : Int) = ((n.val % 2 + n.val / 4 % 2 * 2 : Nat) : Int) := by decide +kernel
theorem rY_small : ∀ n : Fin 16, rY16 (n.val : Int) = ((n.val / 2 % 2 + n.val / 8 % 2 * 2 : Nat) : Int) := by decide +kernel

/-- A cell's rectangle. -/
def cellX (c : Nat) : Nat := c % 2 + c / 4 % 2 * 2
def cellY (c : Nat) : Nat := c / 2 % 2 + c / 8 % 2 * 2
def cellR (c : Nat) : R4 := ⟨(cellX c : Int) * 16, (cellY c : Int) * 16, ((cellX c : Int) + 1) * 16, ((cellY c : Int) + 1) * 16⟩
theorem cellX_lt (c : Nat) : cellX c < 4 := by unfold cellX; omega
theorem cellY_lt (c : Nat) : cellY c < 4 := by unfold cellY; omega

set_option maxHeartbeats 1000000 in
theorem cells_Is (c : Int) (w : World) : Calls Try.prog 121 #[.int .i64 c] w fun e w' => e = .returned (.bool (decide (0 ≤ c ∧ c < 16))) ∧ w' = w := by
  go_enter Try.func121, Try.ntmps121
  go_wp2
  all_goals (go_ret; exact ⟨ret_bool (by simp_all <;> omega), rfl⟩)
set_option maxHeartbeats 1000000 in
theorem ref3_IsCell (c : Int) (w : World) : Calls Try.prog 118 #[.int .i64 c] w fun e w' => e = .returned (.bool (decide (0 ≤ c ∧ c < 16))) ∧ w' = w := by
  go_enter Try.func118, Try.ntmps118
  go_wp2
  all_goals (go_ret; exact ⟨ret_bool (by simp_all <;> omega), rfl⟩)

set_option maxHeartbeats 1000000 in
theorem morton_Split (n : Int) (w : World) : Calls Try.prog 143 #[.int .u32 n] w fun e w' => e = .returned (.tuple #[.int .u16 (IntKind.u16.wrap (gE n)), .int .u16 (IntKind.u16.wrap (gE (n / 2)))]) ∧ Below w.heap.size w w' := by
  go_enter Try.func143, Try.ntmps143
  go_wp2_with fail
  refine Calls.mono (morton_gather _ _) ?_
  rintro e w1 ⟨rfl, hb1⟩
  go_wp2_with fail
  refine Calls.mono (morton_gather _ _) ?_
  rintro e w2 ⟨rfl, hb2⟩
  go_wp2_with fail
  go_ret2
  exact ⟨rfl, hb2.via hb1.size hb1⟩
theorem gX_small : ∀ n : Fin 16, IntKind.u16.wrap (gE (n.val : Int)) = (cellX n.val : Int) := by decide +kernel
theorem gY_small : ∀ n : Fin 16, IntKind.u16.wrap (gE ((n.val : Int) / 2)) = (cellY n.val : Int) := by decide +kernel

theorem u32_small : ∀ n : Fin 16, IntKind.u32.wrap (n.val : Int) = (n.val : Int) := by decide +kernel

set_option maxHeartbeats 1000000 in
theorem cells_place (c : Nat) (hc : c < 16) (w : World) : Calls Try.prog 122 #[.int .i64 c] w fun e w' => e = .returned (.tuple #[.int .i64 (cellX c), .int .i64 (cellY c)]) ∧ Below w.heap.size w w' := by
  have hX := gX_small ⟨c, hc⟩
  have hY := gY_small ⟨c, hc⟩
  have hlx := cellX_lt c
  have hly := cellY_lt c
  have HS := Lib.hid (morton_Split (c : Int) w)
  simp only at hX hY
  rw [hX, hY] at HS
  have hcc : (c : Int) < 16 := by omega
  generalize cellX c = a at *
  generalize cellY c = b at *
  have hw : IntKind.u32.wrap (c : Int) = c := u32_small ⟨c, hc⟩
  clear hX hY
  go_enter Try.func122, Try.ntmps122
  go_wp2_with fail
  refine Calls.mono HS.out ?_
  rintro e w1 ⟨rfl, hb1⟩
  go_wp2_with fail
  go_ret2
  exact ⟨rfl, hb1⟩

def rectC (c : Int) : R4 := if 0 ≤ c ∧ c < 16 then cellR c.toNat else ⟨0, 0, 0, 0⟩
def isC (c : Int) : Bool := decide (0 ≤ c ∧ c < 16)
theorem rectC_no {c : Int} (h : ¬ (0 ≤ c ∧ c < 16)) : rectC c = ⟨0, 0, 0, 0⟩ := if_neg h
theorem rectC_yes {c : Nat} (h : c < 16) : rectC c = cellR c := if_pos ⟨by omega, by omega⟩

set_option maxHeartbeats 1000000 in
theorem cells_Rect (c : Int) (w : World) : Calls Try.prog 94 #[.int .i64 c] w fun e w' => e = .returned (.tuple #[.agg #[.int .i64 (rectC c).x0, .int .i64 (rectC c).y0, .int .i64 (rectC c).x1, .int .i64 (rectC c).y1], .bool (isC c)]) ∧ Below w.heap.size w w' := by
  have HI := Lib.hid (fun w' => cells_Is c w')
  unfold isC
  by_cases hc : 0 ≤ c ∧ c < 16
  · rw [decide_eq_true hc] at HI ⊢
    obtain ⟨k, rfl⟩ : ∃ k : Nat, c = k := ⟨c.toNat, by omega⟩
    have hk : k < 16 := by omega
    have HP := Lib.hid (fun w' => cells_place k hk w')
    rw [rectC_yes hk]
    have hlx := cellX_lt k
    have hly := cellY_lt k
    simp only [cellR]
    generalize cellX k = a at *
    generalize cellY k = b at *
    clear hc
    go_enter Try.func94, Try.ntmps94
    go_wp2_with fail
    refine Calls.mono (HI.out _) ?_
    rintro e w1 ⟨rfl, rfl⟩
    go_wp2_with fail
    refine Calls.mono (HP.out _) ?_
    rintro e w2 ⟨rfl, hb2⟩
    obtain ⟨hc2, hf2⟩ := bcell hb2
    have hs2 := hb2.size
    simp only [World.size_alloc] at hs2
    go_wp2_with fail
    exact bodyPost_ret (v := .tuple #[.agg #[.int .i64 ((a : Int) * 16), .int .i64 ((b : Int) * 16), .int .i64 (((a : Int) + 1) * 16), .int .i64 (((b : Int) + 1) * 16)], .bool true]) (by simp [results, Try.results94, go_sem, hc2, World.cell?_setCell_same', World.cell?_setCell_other]) rfl ⟨rfl, (by (repeat (first | exact Below.refl _ _ | assumption | refine Below.alloc ?_ (by first | omega | (simp; done) | (simp; omega)) _ | refine Below.setCell ?_ (by first | omega | (simp; done) | (simp; omega)) _ | refine Below.drew ?_ | refine Below.draws ?_ _ | refine Below.via (by assumption) (by first | omega | (simp; done) | (simp; omega)) ?_)))⟩
  · rw [decide_eq_false hc] at HI ⊢
    rw [rectC_no hc]
    clear hc
    go_enter Try.func94, Try.ntmps94
    go_wp2_with fail
    refine Calls.mono (HI.out _) ?_
    rintro e w1 ⟨rfl, rfl⟩
    go_wp2_with fail
    exact bodyPost_ret (v := .tuple #[.agg #[.int .i64 0, .int .i64 0, .int .i64 0, .int .i64 0], .bool false]) (by simp [results, Try.results94, go_sem]) rfl ⟨rfl, (by (repeat (first | exact Below.refl _ _ | assumption | refine Below.alloc ?_ (by first | omega | (simp; done) | (simp; omega)) _ | refine Below.setCell ?_ (by first | omega | (simp; done) | (simp; omega)) _ | refine Below.drew ?_ | refine Below.draws ?_ _ | refine Below.via (by assumption) (by first | omega | (simp; done) | (simp; omega)) ?_)))⟩

set_option maxHeartbeats 1000000 in
theorem ref3_Rect (c : Int) (w : World) : Calls Try.prog 90 #[.int .i64 c] w fun e w' => e = .returned (.tuple #[.agg #[.int .i64 (rectC c).x0, .int .i64 (rectC c).y0, .int .i64 (rectC c).x1, .int .i64 (rectC c).y1], .bool (isC c)]) ∧ Below w.heap.size w w' := by
  have HI := Lib.hid (fun w' => ref3_IsCell c w')
  unfold isC
  by_cases hc : 0 ≤ c ∧ c < 16
  · rw [decide_eq_true hc] at HI ⊢
    obtain ⟨k, rfl⟩ : ∃ k : Nat, c = k := ⟨c.toNat, by omega⟩
    have hk : k < 16 := by omega
    have hX := rX_small ⟨k, hk⟩
    have hY := rY_small ⟨k, hk⟩
    simp only at hX hY
    have HP := Lib.hid (fun w' => ref3_Split (k : Int) w')
    rw [hX, hY] at HP
    rw [rectC_yes hk]
    have hlx := cellX_lt k
    have hly := cellY_lt k
    simp only [cellR]
    have hw : IntKind.u32.wrap (k : Int) = k := u32_small ⟨k, hk⟩
    change Hid (∀ w', Calls _ _ _ _ fun e w'' => e = .returned (.tuple #[.int .u16 (cellX k : Nat), .int .u16 (cellY k : Nat)]) ∧ _) at HP
    generalize cellX k = a at *
    generalize cellY k = b at *
    have ha : ((a : Int) + 1) * 16 = a * 16 + 16 := by omega
    have hb : ((b : Int) + 1) * 16 = b * 16 + 16 := by omega
    rw [ha, hb]
    clear hc hX hY ha hb
    go_enter Try.func90, Try.ntmps90
    go_wp2_with fail
    refine Calls.mono (HI.out _) ?_
    rintro e w1 ⟨rfl, rfl⟩
    go_wp2_with fail
    refine Calls.mono (HP.out _) ?_
    rintro e w2 ⟨rfl, rfl⟩
    go_wp2_with fail
    exact bodyPost_ret (v := .tuple #[.agg #[.int .i64 ((a : Int) * 16), .int .i64 ((b : Int) * 16), .int .i64 ((a : Int) * 16 + 16), .int .i64 ((b : Int) * 16 + 16)], .bool true]) (by simp [results, Try.results90, go_sem, World.cell?_setCell_same', World.cell?_setCell_other]) rfl ⟨rfl, (by (repeat (first | exact Below.refl _ _ | assumption | refine Below.alloc ?_ (by first | omega | (simp; done) | (simp; omega)) _ | refine Below.setCell ?_ (by first | omega | (simp; done) | (simp; omega)) _ | refine Below.drew ?_ | refine Below.draws ?_ _ | refine Below.via (by assumption) (by first | omega | (simp; done) | (simp; omega)) ?_)))⟩
  · rw [decide_eq_false hc] at HI ⊢
    rw [rectC_no hc]
    clear hc
    go_enter Try.func90, Try.ntmps90
    go_wp2_with fail
    refine Calls.mono (HI.out _) ?_
    rintro e w1 ⟨rfl, rfl⟩
    go_wp2_with fail
    exact bodyPost_ret (v := .tuple #[.agg #[.int .i64 0, .int .i64 0, .int .i64 0, .int .i64 0], .bool false]) (by simp [results, Try.results90, go_sem]) rfl ⟨rfl, (by (repeat (first | exact Below.refl _ _ | assumption | refine Below.alloc ?_ (by first | omega | (simp; done) | (simp; omega)) _ | refine Below.setCell ?_ (by first | omega | (simp; done) | (simp; omega)) _ | refine Below.drew ?_ | refine Below.draws ?_ _ | refine Below.via (by assumption) (by first | omega | (simp; done) | (simp; omega)) ?_)))⟩

def cellT (M : Ths) (c : Int) : Ths := if isC c then inT M (rectC c) else []
set_option maxHeartbeats 2000000 in
theorem table_Cell (w : World) (t : Nat) (M : Ths) (F : List Nat) (c : Int) (h : Tbl w t M F) :
    Calls Try.prog 53 #[.pointer (some ⟨t, 0, none⟩), .int .i64 c] w fun e w' => ∃ v', e = .returned v' ∧ RowOf encT 11 63 w' w.heap.size v' (cellT M c) ∧ Below w.heap.size w w' := by
  have HR := Lib.hid (cells_Rect c w)
  have HIN := Lib.hid (fun W' (hb : Below w.heap.size w W') => table_In W' t M F (rectC c) (h.below hb))
  unfold cellT
  clear h
  cases hc : isC c
  · rw [hc] at HR
    generalize rectC c = r at *
    go_enter Try.func53, Try.ntmps53
    go_wp2_with fail
    refine Calls.mono HR.out ?_
    rintro e w1 ⟨rfl, hb1⟩
    have hs := hb1.size
    go_wp2_with fail
    go_ret
    exact ⟨_, rfl, RowOf.nil _ _ _, (by (repeat (first | exact Below.refl _ _ | assumption | refine Below.alloc ?_ (by first | omega | (simp; done) | (simp; omega)) _ | refine Below.setCell ?_ (by first | omega | (simp; done) | (simp; omega)) _ | refine Below.drew ?_ | refine Below.draws ?_ _ | refine Below.via (by assumption) (by first | omega | (simp; done) | (simp; omega)) ?_)))⟩
  · rw [hc] at HR
    generalize rectC c = r at *
    go_enter Try.func53, Try.ntmps53
    go_wp2_with fail
    refine Calls.mono HR.out ?_
    rintro e w1 ⟨rfl, hb1⟩
    have hs := hb1.size
    go_wp2_with fail
    refine Calls.mono (HIN.out _ (by (repeat (first | exact Below.refl _ _ | assumption | refine Below.alloc ?_ (by first | omega | (simp; done) | (simp; omega)) _ | refine Below.setCell ?_ (by first | omega | (simp; done) | (simp; omega)) _ | refine Below.drew ?_ | refine Below.draws ?_ _ | refine Below.via (by assumption) (by first | omega | (simp; done) | (simp; omega)) ?_)))) ?_
    rintro e w2 ⟨v2, rfl, hr2, hb2⟩
    obtain ⟨ao, cap, hv⟩ := hr2.reads.len
    have hb2' : Below w.heap.size w w2 := hb2.via (by simp; omega) (by (repeat (first | exact Below.refl _ _ | assumption | refine Below.alloc ?_ (by first | omega | (simp; done) | (simp; omega)) _ | refine Below.setCell ?_ (by first | omega | (simp; done) | (simp; omega)) _ | refine Below.drew ?_ | refine Below.draws ?_ _ | refine Below.via (by assumption) (by first | omega | (simp; done) | (simp; omega)) ?_)))
    have hr2' := hr2.base_le (base' := w.heap.size) (by simp; omega)
    have H2 := Lib.hid hr2'
    subst hv
    clear hr2 hr2'
    go_wp2_with fail
    go_ret
    exact ⟨_, rfl, H2.out, hb2'⟩
end Go.Proofs.Ytggeehmcjndlgaa
