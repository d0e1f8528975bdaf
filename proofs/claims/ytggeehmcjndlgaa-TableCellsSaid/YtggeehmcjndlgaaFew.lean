/-
  What may stand, by the document (Is); the laws' bounds on text; a table of a row of things.
-/
import Derived.Test.YtggeehmcjndlgaaWith6
import Derived.Test.YtggeehmcjndlgaaIn
namespace Go.Proofs.Ytggeehmcjndlgaa
open Go Go.RowKit Go.Sort Go.Shelf
set_option linter.unusedVariables false
set_option linter.unusedSimpArgs false
set_option linter.unnecessarySimpa false

theorem thgB_all (x : Thg) : thgB x = ((decide (0 ≤ x.id) && (decide (x.id ≤ 1000000) && onB x.x x.y)) && x.fs.all fldB) := by
  unfold thgB
  rw [List.all_eq_not_any_not]
  simp only [Bool.and_assoc]

set_option maxHeartbeats 4000000 in
set_option maxRecDepth 100000 in
theorem ref6_Is (x : Thg) (w : World) (hx : okT x) : Calls Try.prog 43 #[x.val] w fun e w' => e = .returned (.bool (thgB x)) ∧ Below w.heap.size w w' := by
  obtain ⟨W, hWd⟩ : ∃ W, W = w.alloc (.cells #[.int .i64 x.id, .int .i64 x.x, .int .i64 x.y, .int .i64 x.a.n, .string x.a.t, .int .i64 x.b.n, .string x.b.t, .int .i64 x.c.n, .string x.c.t, .int .i64 x.d.n, .string x.d.t] 63) := ⟨_, rfl⟩
  have hW : Below w.heap.size w W := by rw [hWd]; exact (Below.refl _ w).alloc (Nat.le_refl _) _
  have hbox : W.heap[w.heap.size]? = some x.obj := by rw [hWd]; exact heap_alloc_new _ _
  obtain ⟨n, hn⟩ : ∃ n, n = w.heap.size := ⟨_, rfl⟩
  rw [← hn] at hbox
  have HF := Lib.hid (fun W' (hb : Below W.heap.size W W') => fs_reads ((hb.block _ (lt_of_block hbox)).trans hbox) rfl)
  have hfl : x.fs.length = 4 := rfl
  have hok := hx.all
  have HOK := Lib.hid hok
  have HTB := Lib.hid (thgB_all x)
  obtain ⟨base, hbase⟩ : ∃ base, base = (decide (0 ≤ x.id) && (decide (x.id ≤ 1000000) && onB x.x x.y)) := ⟨_, rfl⟩
  rw [← hbase] at HTB
  have hloop : ∀ (w1 : World), Below W.heap.size W w1 → True := fun _ _ => trivial
  clear hbox hok hloop
  unfold Thg.val
  generalize hfs : x.fs = fl at *
  have HL : Hid (fl.length = 4) := Lib.hid hfl
  have hcore : ∀ (b : Bool) (k : Nat), k < 4 → (b && (fl.take (k + 1)).all fldB) = ((b && (fl.take k).all fldB) && fldB (fl.getD k ⟨0, ⟨#[]⟩⟩)) := fun b k hk => by
    have hlt : k < fl.length := by omega
    rw [List.take_succ_eq_append_getElem hlt, List.all_append, List.getD_eq_getElem?_getD, List.getElem?_eq_getElem hlt]
    simp [Bool.and_assoc]
  have HCORE := Lib.hid hcore
  clear hfl hcore
  by_cases h1 : 0 ≤ x.id
  · by_cases h2 : x.id ≤ 1000000
    · have hON := ref3_On x.x x.y
      have hb0 : base = onB x.x x.y := by rw [hbase]; simp [h1, h2]
      rw [← hb0] at hON
      have HON := Lib.hid (fun w' => hON w')
      clear hON hb0 hbase
      go_enter Try.func43, Try.ntmps43
      go_wp2_with fail
      rw [← hWd, ← hn]
      clear hWd hn
      refine Calls.mono (HON.out _) ?_
      rintro e w1 ⟨rfl, hb1⟩
      go_wp2_with fail
      go_loopw [3, 4] (fun ok i wl => ∃ k : Nat, k ≤ 4 ∧ i = .int .i64 k ∧ ok = .bool (base && (fl.take k).all fldB) ∧ Below W.heap.size W wl) (fun _ i _ => 4 - (intOf i).toNat)
      case atStart => exact ⟨0, by omega, rfl, by simp, hb1⟩
      case round =>
        obtain ⟨k, hk, rfl, rfl, hb⟩ := hrel
        rcases Nat.lt_or_ge k 4 with hlt | hge
        · have hkl : k < fl.length := by have := HL.out; omega
          have hcur : fl[k]? = some fl[k] := List.getElem?_eq_getElem hkl
          have hstep := HCORE.out base k hlt
          have hget : fl.getD k ⟨0, ⟨#[]⟩⟩ = fl[k] := by rw [List.getD_eq_getElem?_getD, hcur]; rfl
          rw [hget] at hstep
          have hfo := HOK.out _ (List.getElem_mem hkl)
          obtain ⟨b', off', hao, hc⟩ := (HF.out _ hb).cell (k := 2) (fun _ => rfl) (n := 4) (cap := 4) rfl hcur
          simp only [Option.some.injEq, Addr.mk.injEq, and_true] at hao
          obtain ⟨rfl, rfl⟩ := hao
          have c0 := hc 0 _ rfl
          have c1 := hc 1 _ rfl
          rw [Nat.add_zero] at c0
          generalize fl[k] = f at *
          generalize (base && (fl.take k).all fldB) = z at *
          have HST := Lib.hid hstep
          have HC := Lib.hid (fun w' => ref6_IsField f w' hfo)
          have hlt' : (k : Int) < 4 := by omega
          clear hc hcur hstep hget hfo
          cases z
          · go_wp2_with fail
            go_roundw
            case rel => exact ⟨k + 1, by omega, by go_num, by rw [HST.out]; rfl, hb⟩
            case measure => simp [intOf]; omega
          · go_wp2_with fail
            refine Calls.mono (HC.out _) ?_
            rintro e w2 ⟨rfl, hb2⟩
            go_wp2_with fail
            go_roundw
            case rel => exact ⟨k + 1, by omega, by go_num, by rw [HST.out]; rfl, hb2.via hb.size hb⟩
            case measure => simp [intOf]; omega
        · have hke : k = 4 := by omega
          subst hke
          have hta : fl.take 4 = fl := List.take_of_length_le (by have := HL.out; omega)
          rw [hta]
          have HTA := Lib.hid HTB.out
          go_wp2_with fail
          go_ret
          exact ⟨ret_bool HTA.out.symm, hb.via hW.size hW⟩
    · have hb0 : base = false := by rw [hbase]; simp [h2]
      subst hb0
      have h2' : 1000000 < x.id := by omega
      clear hbase
      go_enter Try.func43, Try.ntmps43
      go_wp2_with fail
      rw [← hWd, ← hn]
      clear hWd hn
      have hb1 : Below W.heap.size W W := Below.refl _ _
      go_loopw [3, 4] (fun ok i wl => ∃ k : Nat, k ≤ 4 ∧ i = .int .i64 k ∧ ok = .bool (false && (fl.take k).all fldB) ∧ Below W.heap.size W wl) (fun _ i _ => 4 - (intOf i).toNat)
      case atStart => exact ⟨0, by omega, rfl, by simp, hb1⟩
      case round =>
        obtain ⟨k, hk, rfl, rfl, hb⟩ := hrel
        rcases Nat.lt_or_ge k 4 with hlt | hge
        · have hkl : k < fl.length := by have := HL.out; omega
          have hcur : fl[k]? = some fl[k] := List.getElem?_eq_getElem hkl
          have hstep := HCORE.out false k hlt
          have hget : fl.getD k ⟨0, ⟨#[]⟩⟩ = fl[k] := by rw [List.getD_eq_getElem?_getD, hcur]; rfl
          rw [hget] at hstep
          have hfo := HOK.out _ (List.getElem_mem hkl)
          obtain ⟨b', off', hao, hc⟩ := (HF.out _ hb).cell (k := 2) (fun _ => rfl) (n := 4) (cap := 4) rfl hcur
          simp only [Option.some.injEq, Addr.mk.injEq, and_true] at hao
          obtain ⟨rfl, rfl⟩ := hao
          have c0 := hc 0 _ rfl
          have c1 := hc 1 _ rfl
          rw [Nat.add_zero] at c0
          generalize fl[k] = f at *
          generalize (false && (fl.take k).all fldB) = z at *
          have HST := Lib.hid hstep
          have HC := Lib.hid (fun w' => ref6_IsField f w' hfo)
          have hlt' : (k : Int) < 4 := by omega
          clear hc hcur hstep hget hfo
          cases z
          · go_wp2_with fail
            go_roundw
            case rel => exact ⟨k + 1, by omega, by go_num, by rw [HST.out]; rfl, hb⟩
            case measure => simp [intOf]; omega
          · go_wp2_with fail
            refine Calls.mono (HC.out _) ?_
            rintro e w2 ⟨rfl, hb2⟩
            go_wp2_with fail
            go_roundw
            case rel => exact ⟨k + 1, by omega, by go_num, by rw [HST.out]; rfl, hb2.via hb.size hb⟩
            case measure => simp [intOf]; omega
        · have hke : k = 4 := by omega
          subst hke
          have hta : fl.take 4 = fl := List.take_of_length_le (by have := HL.out; omega)
          rw [hta]
          have HTA := Lib.hid HTB.out
          go_wp2_with fail
          go_ret
          exact ⟨ret_bool HTA.out.symm, hb.via hW.size hW⟩
  · have hb0 : base = false := by rw [hbase]; simp [h1]
    subst hb0
    have h1' : x.id < 0 := by omega
    clear hbase
    go_enter Try.func43, Try.ntmps43
    go_wp2_with fail
    rw [← hWd, ← hn]
    clear hWd hn
    have hb1 : Below W.heap.size W W := Below.refl _ _
    go_loopw [3, 4] (fun ok i wl => ∃ k : Nat, k ≤ 4 ∧ i = .int .i64 k ∧ ok = .bool (false && (fl.take k).all fldB) ∧ Below W.heap.size W wl) (fun _ i _ => 4 - (intOf i).toNat)
    case atStart => exact ⟨0, by omega, rfl, by simp, hb1⟩
    case round =>
      obtain ⟨k, hk, rfl, rfl, hb⟩ := hrel
      rcases Nat.lt_or_ge k 4 with hlt | hge
      · have hkl : k < fl.length := by have := HL.out; omega
        have hcur : fl[k]? = some fl[k] := List.getElem?_eq_getElem hkl
        have hstep := HCORE.out false k hlt
        have hget : fl.getD k ⟨0, ⟨#[]⟩⟩ = fl[k] := by rw [List.getD_eq_getElem?_getD, hcur]; rfl
        rw [hget] at hstep
        have hfo := HOK.out _ (List.getElem_mem hkl)
        obtain ⟨b', off', hao, hc⟩ := (HF.out _ hb).cell (k := 2) (fun _ => rfl) (n := 4) (cap := 4) rfl hcur
        simp only [Option.some.injEq, Addr.mk.injEq, and_true] at hao
        obtain ⟨rfl, rfl⟩ := hao
        have c0 := hc 0 _ rfl
        have c1 := hc 1 _ rfl
        rw [Nat.add_zero] at c0
        generalize fl[k] = f at *
        generalize (false && (fl.take k).all fldB) = z at *
        have HST := Lib.hid hstep
        have HC := Lib.hid (fun w' => ref6_IsField f w' hfo)
        have hlt' : (k : Int) < 4 := by omega
        clear hc hcur hstep hget hfo
        cases z
        · go_wp2_with fail
          go_roundw
          case rel => exact ⟨k + 1, by omega, by go_num, by rw [HST.out]; rfl, hb⟩
          case measure => simp [intOf]; omega
        · go_wp2_with fail
          refine Calls.mono (HC.out _) ?_
          rintro e w2 ⟨rfl, hb2⟩
          go_wp2_with fail
          go_roundw
          case rel => exact ⟨k + 1, by omega, by go_num, by rw [HST.out]; rfl, hb2.via hb.size hb⟩
          case measure => simp [intOf]; omega
      · have hke : k = 4 := by omega
        subst hke
        have hta : fl.take 4 = fl := List.take_of_length_le (by have := HL.out; omega)
        rw [hta]
        have HTA := Lib.hid HTB.out
        go_wp2_with fail
        go_ret
        exact ⟨ret_bool HTA.out.symm, hb.via hW.size hW⟩


def fewF (f : Fld) : Bool := decide (f.t.size ≤ 40)
def fewT (x : Thg) : Bool := x.fs.all fewF

set_option maxHeartbeats 1000000 in
theorem law9_fewField (f : Fld) (w : World) (hs : okF f) : Calls Try.prog 85 #[.agg #[.int .i64 f.n, .string f.t]] w fun e w' => e = .returned (.bool (fewF f)) ∧ Below w.heap.size w w' := by
  unfold okF at hs
  go_enter Try.func85, Try.ntmps85
  go_wp2
  go_ret
  exact ⟨ret_bool (by unfold fewF; congr 1; simp; omega), (by (repeat (first | exact Below.refl _ _ | assumption | refine Below.alloc ?_ (by first | omega | (simp; done) | (simp; omega)) _ | refine Below.setCell ?_ (by first | omega | (simp; done) | (simp; omega)) _ | refine Below.drew ?_ | refine Below.draws ?_ _ | refine Below.via (by assumption) (by first | omega | (simp; done) | (simp; omega)) ?_)))⟩

set_option maxHeartbeats 2000000 in
theorem law9_fewThing (x : Thg) (w : World) (hx : okT x) : Calls Try.prog 39 #[x.val] w fun e w' => e = .returned (.bool (fewT x)) ∧ Below w.heap.size w w' := by
  obtain ⟨W, hWd⟩ : ∃ W, W = w.alloc (.cells #[.int .i64 x.id, .int .i64 x.x, .int .i64 x.y, .int .i64 x.a.n, .string x.a.t, .int .i64 x.b.n, .string x.b.t, .int .i64 x.c.n, .string x.c.t, .int .i64 x.d.n, .string x.d.t] 63) := ⟨_, rfl⟩
  have hW : Below w.heap.size w W := by rw [hWd]; exact (Below.refl _ w).alloc (Nat.le_refl _) _
  have hbox : W.heap[w.heap.size]? = some x.obj := by rw [hWd]; exact heap_alloc_new _ _
  obtain ⟨n, hn⟩ : ∃ n, n = w.heap.size := ⟨_, rfl⟩
  rw [← hn] at hbox
  have HF := Lib.hid (fun W' (hb : Below W.heap.size W W') => fs_reads ((hb.block _ (lt_of_block hbox)).trans hbox) rfl)
  have hfl : x.fs.length = 4 := rfl
  have HOK : Hid (∀ f ∈ x.fs, okF f) := Lib.hid hx.all
  clear hbox
  unfold Thg.val fewT
  generalize hfs : x.fs = fl at *
  have HL : Hid (fl.length = 4) := Lib.hid hfl
  have hcore : ∀ (k : Nat) (hk : k < fl.length), (fl.take (k + 1)).all fewF = ((fl.take k).all fewF && fewF fl[k]) := fun k hk => by
    rw [List.take_succ_eq_append_getElem hk, List.all_append]; simp
  have hbad : ∀ f ∈ fl, fewF f = false → fl.all fewF = false := fun f hf h => by
    cases h' : fl.all fewF
    · rfl
    · rw [List.all_eq_true.1 h' f hf] at h; cases h
  have HCORE := Lib.hid hcore
  have HBAD := Lib.hid hbad
  clear hfl hcore hbad
  go_enter Try.func39, Try.ntmps39
  go_wp2_with fail
  rw [← hWd, ← hn]
  clear hWd hn
  go_loopw [3] (fun i wl => ∃ k : Nat, k ≤ 4 ∧ i = .int .i64 k ∧ (fl.take k).all fewF = true ∧ Below W.heap.size W wl) (fun i _ => 4 - (intOf i).toNat)
  case atStart => exact ⟨0, by omega, rfl, by simp, Below.refl _ _⟩
  case round =>
    obtain ⟨k, hk, rfl, hyes, hb⟩ := hrel
    rcases Nat.lt_or_ge k 4 with hlt | hge
    · have hkl : k < fl.length := by have := HL.out; omega
      have hcur : fl[k]? = some fl[k] := List.getElem?_eq_getElem hkl
      have hstep := HCORE.out k hkl
      rw [hyes, Bool.true_and] at hstep
      have hmem : fl[k] ∈ fl := List.getElem_mem hkl
      have hfo := HOK.out _ hmem
      have hbd := HBAD.out _ hmem
      obtain ⟨b', off', hao, hc⟩ := (HF.out _ hb).cell (k := 2) (fun _ => rfl) (n := 4) (cap := 4) rfl hcur
      simp only [Option.some.injEq, Addr.mk.injEq, and_true] at hao
      obtain ⟨rfl, rfl⟩ := hao
      have c0 := hc 0 _ rfl
      have c1 := hc 1 _ rfl
      rw [Nat.add_zero] at c0
      generalize fl[k] = f at *
      have HST := Lib.hid hstep
      have HBD := Lib.hid hbd
      have HC := Lib.hid (fun w' => law9_fewField f w' hfo)
      have hlt' : (k : Int) < 4 := by omega
      clear hc hcur hstep hfo hbd hmem hyes
      cases hf : fewF f
      · rw [hf] at HC
        have HR := Lib.hid (HBD.out hf)
        go_wp2_with fail
        refine Calls.mono (HC.out _) ?_
        rintro e w2 ⟨rfl, hb2⟩
        go_wp2_with fail
        go_ret
        exact ⟨ret_bool HR.out.symm, (hb2.via hb.size hb).via hW.size hW⟩
      · rw [hf] at HC
        have HR : Hid ((fl.take (k + 1)).all fewF = true) := Lib.hid (by rw [HST.out, hf])
        go_wp2_with fail
        refine Calls.mono (HC.out _) ?_
        rintro e w2 ⟨rfl, hb2⟩
        go_wp2_with fail
        go_roundw
        case rel => exact ⟨k + 1, by omega, by go_num, HR.out, hb2.via hb.size hb⟩
        case measure => simp [intOf]; omega
    · have hke : k = 4 := by omega
      subst hke
      have hta : fl.take 4 = fl := List.take_of_length_le (by have := HL.out; omega)
      rw [hta] at hyes
      have HTA := Lib.hid hyes
      clear hyes hta
      go_wp2_with fail
      go_ret
      exact ⟨ret_bool HTA.out.symm, hb.via hW.size hW⟩

set_option maxHeartbeats 2000000 in
theorem law9_fewThings (w : World) (v : Value) (l : Ths) (h : InRow encT 11 w v l) (hok : ∀ x ∈ l, okT x) (hlc : (l.length : Int) ≤ 9223372036854775807) : Calls Try.prog 52 #[v] w fun e w' => e = .returned (.bool (l.all fewT && decide (l.length ≤ 30))) ∧ Below w.heap.size w w' := by
  obtain ⟨ao, cap, hv⟩ := h.len
  subst hv
  have HR := Lib.hid h
  have HOK := Lib.hid hok
  have hcore : ∀ (k : Nat) (hk : k < l.length), (l.take (k + 1)).all fewT = ((l.take k).all fewT && fewT l[k]) := fun k hk => by
    rw [List.take_succ_eq_append_getElem hk, List.all_append]; simp
  have hbad : ∀ f ∈ l, fewT f = false → l.all fewT = false := fun f hf h => by
    cases h' : l.all fewT
    · rfl
    · rw [List.all_eq_true.1 h' f hf] at h; cases h
  have HCORE := Lib.hid hcore
  have HBAD := Lib.hid hbad
  clear h hok hcore hbad
  go_enter Try.func52, Try.ntmps52
  go_wp2_with fail
  go_loopw [3] (fun i wl => ∃ k : Nat, k ≤ l.length ∧ i = .int .i64 k ∧ (l.take k).all fewT = true ∧ Below w.heap.size w wl) (fun i _ => l.length - (intOf i).toNat)
  case atStart => exact ⟨0, Nat.zero_le _, rfl, by simp, Below.refl _ _⟩
  case round =>
    obtain ⟨k, hk, rfl, hyes, hb⟩ := hrel
    rcases Nat.lt_or_ge k l.length with hlt | hge
    · have hcur : l[k]? = some l[k] := List.getElem?_eq_getElem hlt
      have hstep := HCORE.out k hlt
      rw [hyes, Bool.true_and] at hstep
      have hmem : l[k] ∈ l := List.getElem_mem hlt
      have hfo := HOK.out _ hmem
      have hbd := HBAD.out _ hmem
      obtain ⟨b, off, hao, hc⟩ := HR.out.cell rfl hcur
      subst hao
      generalize l[k] = y at *
      have c0 := (hb.cell (p := ⟨b, off + k * 11, none⟩) (World.block_lt_of_cell? w _ (hc 0 _ rfl))).trans (hc 0 _ rfl)
      have c1 := (hb.cell (p := ⟨b, off + k * 11 + 1, none⟩) (World.block_lt_of_cell? w _ (hc 1 _ rfl))).trans (hc 1 _ rfl)
      have c2 := (hb.cell (p := ⟨b, off + k * 11 + 2, none⟩) (World.block_lt_of_cell? w _ (hc 2 _ rfl))).trans (hc 2 _ rfl)
      have c3 := (hb.cell (p := ⟨b, off + k * 11 + 3, none⟩) (World.block_lt_of_cell? w _ (hc 3 _ rfl))).trans (hc 3 _ rfl)
      have c4 := (hb.cell (p := ⟨b, off + k * 11 + 4, none⟩) (World.block_lt_of_cell? w _ (hc 4 _ rfl))).trans (hc 4 _ rfl)
      have c5 := (hb.cell (p := ⟨b, off + k * 11 + 5, none⟩) (World.block_lt_of_cell? w _ (hc 5 _ rfl))).trans (hc 5 _ rfl)
      have c6 := (hb.cell (p := ⟨b, off + k * 11 + 6, none⟩) (World.block_lt_of_cell? w _ (hc 6 _ rfl))).trans (hc 6 _ rfl)
      have c7 := (hb.cell (p := ⟨b, off + k * 11 + 7, none⟩) (World.block_lt_of_cell? w _ (hc 7 _ rfl))).trans (hc 7 _ rfl)
      have c8 := (hb.cell (p := ⟨b, off + k * 11 + 8, none⟩) (World.block_lt_of_cell? w _ (hc 8 _ rfl))).trans (hc 8 _ rfl)
      have c9 := (hb.cell (p := ⟨b, off + k * 11 + 9, none⟩) (World.block_lt_of_cell? w _ (hc 9 _ rfl))).trans (hc 9 _ rfl)
      have c10 := (hb.cell (p := ⟨b, off + k * 11 + 10, none⟩) (World.block_lt_of_cell? w _ (hc 10 _ rfl))).trans (hc 10 _ rfl)
      have HST := Lib.hid hstep
      have HBD := Lib.hid hbd
      have HC := Lib.hid (fun w' => law9_fewThing y w' hfo)
      unfold Thg.val at HC
      have hlt' : (k : Int) < l.length := by omega
      clear hc hcur hstep hfo hbd hmem hyes
      cases hf : fewT y
      · rw [hf] at HC
        have HR2 := Lib.hid (HBD.out hf)
        go_wp2_with fail
        refine Calls.mono (HC.out _) ?_
        rintro e w2 ⟨rfl, hb2⟩
        go_wp2_with fail
        go_ret
        exact ⟨ret_bool (by rw [HR2.out]; rfl), hb2.via hb.size hb⟩
      · rw [hf] at HC
        have HR2 : Hid ((l.take (k + 1)).all fewT = true) := Lib.hid (by rw [HST.out, hf])
        go_wp2_with fail
        refine Calls.mono (HC.out _) ?_
        rintro e w2 ⟨rfl, hb2⟩
        go_wp2_with fail
        go_roundw
        case rel => exact ⟨k + 1, by omega, by go_num, HR2.out, hb2.via hb.size hb⟩
        case measure => simp [intOf]; omega
    · have hke : k = l.length := by omega
      subst hke
      rw [List.take_length] at hyes
      have HTA := Lib.hid hyes
      clear hyes
      go_wp2_with fail
      go_ret
      exact ⟨ret_bool (by rw [HTA.out, Bool.true_and]; congr 1; simp; omega), hb⟩

set_option maxHeartbeats 1000000 in
theorem law11_fewField (f : Fld) (w : World) (hs : okF f) : Calls Try.prog 126 #[.agg #[.int .i64 f.n, .string f.t]] w fun e w' => e = .returned (.bool (fewF f)) ∧ Below w.heap.size w w' := by
  unfold okF at hs
  go_enter Try.func126, Try.ntmps126
  go_wp2
  go_ret
  exact ⟨ret_bool (by unfold fewF; congr 1; simp; omega), (by (repeat (first | exact Below.refl _ _ | assumption | refine Below.alloc ?_ (by first | omega | (simp; done) | (simp; omega)) _ | refine Below.setCell ?_ (by first | omega | (simp; done) | (simp; omega)) _ | refine Below.drew ?_ | refine Below.draws ?_ _ | refine Below.via (by assumption) (by first | omega | (simp; done) | (simp; omega)) ?_)))⟩

set_option maxHeartbeats 2000000 in
theorem law11_fewThing (x : Thg) (w : World) (hx : okT x) : Calls Try.prog 100 #[x.val] w fun e w' => e = .returned (.bool (fewT x)) ∧ Below w.heap.size w w' := by
  obtain ⟨W, hWd⟩ : ∃ W, W = w.alloc (.cells #[.int .i64 x.id, .int .i64 x.x, .int .i64 x.y, .int .i64 x.a.n, .string x.a.t, .int .i64 x.b.n, .string x.b.t, .int .i64 x.c.n, .string x.c.t, .int .i64 x.d.n, .string x.d.t] 63) := ⟨_, rfl⟩
  have hW : Below w.heap.size w W := by rw [hWd]; exact (Below.refl _ w).alloc (Nat.le_refl _) _
  have hbox : W.heap[w.heap.size]? = some x.obj := by rw [hWd]; exact heap_alloc_new _ _
  obtain ⟨n, hn⟩ : ∃ n, n = w.heap.size := ⟨_, rfl⟩
  rw [← hn] at hbox
  have HF := Lib.hid (fun W' (hb : Below W.heap.size W W') => fs_reads ((hb.block _ (lt_of_block hbox)).trans hbox) rfl)
  have hfl : x.fs.length = 4 := rfl
  have HOK : Hid (∀ f ∈ x.fs, okF f) := Lib.hid hx.all
  clear hbox
  unfold Thg.val fewT
  generalize hfs : x.fs = fl at *
  have HL : Hid (fl.length = 4) := Lib.hid hfl
  have hcore : ∀ (k : Nat) (hk : k < fl.length), (fl.take (k + 1)).all fewF = ((fl.take k).all fewF && fewF fl[k]) := fun k hk => by
    rw [List.take_succ_eq_append_getElem hk, List.all_append]; simp
  have hbad : ∀ f ∈ fl, fewF f = false → fl.all fewF = false := fun f hf h => by
    cases h' : fl.all fewF
    · rfl
    · rw [List.all_eq_true.1 h' f hf] at h; cases h
  have HCORE := Lib.hid hcore
  have HBAD := Lib.hid hbad
  clear hfl hcore hbad
  go_enter Try.func100, Try.ntmps100
  go_wp2_with fail
  rw [← hWd, ← hn]
  clear hWd hn
  go_loopw [3] (fun i wl => ∃ k : Nat, k ≤ 4 ∧ i = .int .i64 k ∧ (fl.take k).all fewF = true ∧ Below W.heap.size W wl) (fun i _ => 4 - (intOf i).toNat)
  case atStart => exact ⟨0, by omega, rfl, by simp, Below.refl _ _⟩
  case round =>
    obtain ⟨k, hk, rfl, hyes, hb⟩ := hrel
    rcases Nat.lt_or_ge k 4 with hlt | hge
    · have hkl : k < fl.length := by have := HL.out; omega
      have hcur : fl[k]? = some fl[k] := List.getElem?_eq_getElem hkl
      have hstep := HCORE.out k hkl
      rw [hyes, Bool.true_and] at hstep
      have hmem : fl[k] ∈ fl := List.getElem_mem hkl
      have hfo := HOK.out _ hmem
      have hbd := HBAD.out _ hmem
      obtain ⟨b', off', hao, hc⟩ := (HF.out _ hb).cell (k := 2) (fun _ => rfl) (n := 4) (cap := 4) rfl hcur
      simp only [Option.some.injEq, Addr.mk.injEq, and_true] at hao
      obtain ⟨rfl, rfl⟩ := hao
      have c0 := hc 0 _ rfl
      have c1 := hc 1 _ rfl
      rw [Nat.add_zero] at c0
      generalize fl[k] = f at *
      have HST := Lib.hid hstep
      have HBD := Lib.hid hbd
      have HC := Lib.hid (fun w' => law11_fewField f w' hfo)
      have hlt' : (k : Int) < 4 := by omega
      clear hc hcur hstep hfo hbd hmem hyes
      cases hf : fewF f
      · rw [hf] at HC
        have HR := Lib.hid (HBD.out hf)
        go_wp2_with fail
        refine Calls.mono (HC.out _) ?_
        rintro e w2 ⟨rfl, hb2⟩
        go_wp2_with fail
        go_ret
        exact ⟨ret_bool HR.out.symm, (hb2.via hb.size hb).via hW.size hW⟩
      · rw [hf] at HC
        have HR : Hid ((fl.take (k + 1)).all fewF = true) := Lib.hid (by rw [HST.out, hf])
        go_wp2_with fail
        refine Calls.mono (HC.out _) ?_
        rintro e w2 ⟨rfl, hb2⟩
        go_wp2_with fail
        go_roundw
        case rel => exact ⟨k + 1, by omega, by go_num, HR.out, hb2.via hb.size hb⟩
        case measure => simp [intOf]; omega
    · have hke : k = 4 := by omega
      subst hke
      have hta : fl.take 4 = fl := List.take_of_length_le (by have := HL.out; omega)
      rw [hta] at hyes
      have HTA := Lib.hid hyes
      clear hyes hta
      go_wp2_with fail
      go_ret
      exact ⟨ret_bool HTA.out.symm, hb.via hW.size hW⟩

set_option maxHeartbeats 2000000 in
theorem law11_fewThings (w : World) (v : Value) (l : Ths) (h : InRow encT 11 w v l) (hok : ∀ x ∈ l, okT x) (hlc : (l.length : Int) ≤ 9223372036854775807) : Calls Try.prog 60 #[v] w fun e w' => e = .returned (.bool (l.all fewT && decide (l.length ≤ 30))) ∧ Below w.heap.size w w' := by
  obtain ⟨ao, cap, hv⟩ := h.len
  subst hv
  have HR := Lib.hid h
  have HOK := Lib.hid hok
  have hcore : ∀ (k : Nat) (hk : k < l.length), (l.take (k + 1)).all fewT = ((l.take k).all fewT && fewT l[k]) := fun k hk => by
    rw [List.take_succ_eq_append_getElem hk, List.all_append]; simp
  have hbad : ∀ f ∈ l, fewT f = false → l.all fewT = false := fun f hf h => by
    cases h' : l.all fewT
    · rfl
    · rw [List.all_eq_true.1 h' f hf] at h; cases h
  have HCORE := Lib.hid hcore
  have HBAD := Lib.hid hbad
  clear h hok hcore hbad
  go_enter Try.func60, Try.ntmps60
  go_wp2_with fail
  go_loopw [3] (fun i wl => ∃ k : Nat, k ≤ l.length ∧ i = .int .i64 k ∧ (l.take k).all fewT = true ∧ Below w.heap.size w wl) (fun i _ => l.length - (intOf i).toNat)
  case atStart => exact ⟨0, Nat.zero_le _, rfl, by simp, Below.refl _ _⟩
  case round =>
    obtain ⟨k, hk, rfl, hyes, hb⟩ := hrel
    rcases Nat.lt_or_ge k l.length with hlt | hge
    · have hcur : l[k]? = some l[k] := List.getElem?_eq_getElem hlt
      have hstep := HCORE.out k hlt
      rw [hyes, Bool.true_and] at hstep
      have hmem : l[k] ∈ l := List.getElem_mem hlt
      have hfo := HOK.out _ hmem
      have hbd := HBAD.out _ hmem
      obtain ⟨b, off, hao, hc⟩ := HR.out.cell rfl hcur
      subst hao
      generalize l[k] = y at *
      have c0 := (hb.cell (p := ⟨b, off + k * 11, none⟩) (World.block_lt_of_cell? w _ (hc 0 _ rfl))).trans (hc 0 _ rfl)
      have c1 := (hb.cell (p := ⟨b, off + k * 11 + 1, none⟩) (World.block_lt_of_cell? w _ (hc 1 _ rfl))).trans (hc 1 _ rfl)
      have c2 := (hb.cell (p := ⟨b, off + k * 11 + 2, none⟩) (World.block_lt_of_cell? w _ (hc 2 _ rfl))).trans (hc 2 _ rfl)
      have c3 := (hb.cell (p := ⟨b, off + k * 11 + 3, none⟩) (World.block_lt_of_cell? w _ (hc 3 _ rfl))).trans (hc 3 _ rfl)
      have c4 := (hb.cell (p := ⟨b, off + k * 11 + 4, none⟩) (World.block_lt_of_cell? w _ (hc 4 _ rfl))).trans (hc 4 _ rfl)
      have c5 := (hb.cell (p := ⟨b, off + k * 11 + 5, none⟩) (World.block_lt_of_cell? w _ (hc 5 _ rfl))).trans (hc 5 _ rfl)
      have c6 := (hb.cell (p := ⟨b, off + k * 11 + 6, none⟩) (World.block_lt_of_cell? w _ (hc 6 _ rfl))).trans (hc 6 _ rfl)
      have c7 := (hb.cell (p := ⟨b, off + k * 11 + 7, none⟩) (World.block_lt_of_cell? w _ (hc 7 _ rfl))).trans (hc 7 _ rfl)
      have c8 := (hb.cell (p := ⟨b, off + k * 11 + 8, none⟩) (World.block_lt_of_cell? w _ (hc 8 _ rfl))).trans (hc 8 _ rfl)
      have c9 := (hb.cell (p := ⟨b, off + k * 11 + 9, none⟩) (World.block_lt_of_cell? w _ (hc 9 _ rfl))).trans (hc 9 _ rfl)
      have c10 := (hb.cell (p := ⟨b, off + k * 11 + 10, none⟩) (World.block_lt_of_cell? w _ (hc 10 _ rfl))).trans (hc 10 _ rfl)
      have HST := Lib.hid hstep
      have HBD := Lib.hid hbd
      have HC := Lib.hid (fun w' => law11_fewThing y w' hfo)
      unfold Thg.val at HC
      have hlt' : (k : Int) < l.length := by omega
      clear hc hcur hstep hfo hbd hmem hyes
      cases hf : fewT y
      · rw [hf] at HC
        have HR2 := Lib.hid (HBD.out hf)
        go_wp2_with fail
        refine Calls.mono (HC.out _) ?_
        rintro e w2 ⟨rfl, hb2⟩
        go_wp2_with fail
        go_ret
        exact ⟨ret_bool (by rw [HR2.out]; rfl), hb2.via hb.size hb⟩
      · rw [hf] at HC
        have HR2 : Hid ((l.take (k + 1)).all fewT = true) := Lib.hid (by rw [HST.out, hf])
        go_wp2_with fail
        refine Calls.mono (HC.out _) ?_
        rintro e w2 ⟨rfl, hb2⟩
        go_wp2_with fail
        go_roundw
        case rel => exact ⟨k + 1, by omega, by go_num, HR2.out, hb2.via hb.size hb⟩
        case measure => simp [intOf]; omega
    · have hke : k = l.length := by omega
      subst hke
      rw [List.take_length] at hyes
      have HTA := Lib.hid hyes
      clear hyes
      go_wp2_with fail
      go_ret
      exact ⟨ret_bool (by rw [HTA.out, Bool.true_and]; congr 1; simp; omega), hb⟩

/-- What Of makes: each put in turn, those that err passed over. -/
def ofT (l : Ths) : Ths := l.foldl tputT []
theorem tputT_len (M : Ths) (x : Thg) : (tputT M x).length ≤ M.length + 1 := by
  unfold tputT
  split
  · exact putT_len x M
  · omega
theorem ofT_len : ∀ (l M : Ths), (l.foldl tputT M).length ≤ M.length + l.length
  | [], M => by simp
  | x :: l, M => by
    rw [List.foldl_cons]
    have := ofT_len l (tputT M x)
    have h2 := tputT_len M x
    simp only [List.length_cons]
    omega
theorem Reads.inrow {α : Type} {enc : α → List Value} {k : Nat} (hk : ∀ x, (enc x).length = k) {w : World} {v : Value} {l : List α} (h : Reads enc w v l) : InRow enc k w v l := by
  obtain ⟨ao, cap, hv⟩ := h.len
  refine ⟨ao, cap, hv, fun j x hj => ?_⟩
  obtain ⟨b, off, hao, hc⟩ := h.cell hk hv hj
  exact ⟨b, off, hao, hc⟩

set_option maxHeartbeats 4000000 in
set_option maxRecDepth 100000 in
theorem table_Of (w : World) (v : Value) (l : Ths) (h : InRow encT 11 w v l) (hl : (l.length : Int) ≤ 9223372036854775807) (hwf : ∀ x ∈ l, (Lit.int .i64 x.id).wf = true ∧ okT x) {B : Nat} {K : Nat → Prop} {w0 : World} (hb0 : Below B w0 w) (hB : B ≤ w.heap.size) (hK : ∀ k, K k → k < w.heap.size) :
    Calls Try.prog 50 #[v] w fun e w' => ∃ t, e = .returned (.pointer (some ⟨t, 0, none⟩)) ∧ TL t (ofT l) B K w0 w' ∧ Below w.heap.size w w' := by
  obtain ⟨ao, cap, hv⟩ := h.len
  subst hv
  have HR := Lib.hid h
  have HWF := Lib.hid hwf
  clear h hwf
  go_enter Try.func50, Try.ntmps50
  go_wp2_with fail
  refine Calls.mono (tl_New (B := w.heap.size) (K := K) (w0 := w) (Below.refl _ _) (Nat.le_refl _) hK) ?_
  rintro e w1 ⟨t, rfl, h1, _⟩
  go_wp2_with fail
  go_loopw [5, 9] (fun _ i wl => ∃ k : Nat, k ≤ l.length ∧ i = .int .i64 k ∧ TL t ((l.take k).foldl tputT []) w.heap.size K w wl) (fun _ i _ => l.length - (intOf i).toNat)
  case atStart => exact ⟨0, Nat.zero_le _, rfl, h1⟩
  case round =>
    obtain ⟨k, hk, rfl, hT⟩ := hrel
    rcases Nat.lt_or_ge k l.length with hlt | hge
    · have hcur : l[k]? = some l[k] := List.getElem?_eq_getElem hlt
      have hnext : (l.take (k + 1)).foldl tputT [] = tputT ((l.take k).foldl tputT []) l[k] := by
        rw [List.take_succ_eq_append_getElem hlt, List.foldl_append]; rfl
      have hwy := HWF.out _ (List.getElem_mem hlt)
      obtain ⟨b, off, hao, hc⟩ := HR.out.cell rfl hcur
      subst hao
      have hb := hT.to
      generalize l[k] = y at *
      have c0 := (hb.cell (p := ⟨b, off + k * 11, none⟩) (World.block_lt_of_cell? w _ (hc 0 _ rfl))).trans (hc 0 _ rfl)
      have c1 := (hb.cell (p := ⟨b, off + k * 11 + 1, none⟩) (World.block_lt_of_cell? w _ (hc 1 _ rfl))).trans (hc 1 _ rfl)
      have c2 := (hb.cell (p := ⟨b, off + k * 11 + 2, none⟩) (World.block_lt_of_cell? w _ (hc 2 _ rfl))).trans (hc 2 _ rfl)
      have c3 := (hb.cell (p := ⟨b, off + k * 11 + 3, none⟩) (World.block_lt_of_cell? w _ (hc 3 _ rfl))).trans (hc 3 _ rfl)
      have c4 := (hb.cell (p := ⟨b, off + k * 11 + 4, none⟩) (World.block_lt_of_cell? w _ (hc 4 _ rfl))).trans (hc 4 _ rfl)
      have c5 := (hb.cell (p := ⟨b, off + k * 11 + 5, none⟩) (World.block_lt_of_cell? w _ (hc 5 _ rfl))).trans (hc 5 _ rfl)
      have c6 := (hb.cell (p := ⟨b, off + k * 11 + 6, none⟩) (World.block_lt_of_cell? w _ (hc 6 _ rfl))).trans (hc 6 _ rfl)
      have c7 := (hb.cell (p := ⟨b, off + k * 11 + 7, none⟩) (World.block_lt_of_cell? w _ (hc 7 _ rfl))).trans (hc 7 _ rfl)
      have c8 := (hb.cell (p := ⟨b, off + k * 11 + 8, none⟩) (World.block_lt_of_cell? w _ (hc 8 _ rfl))).trans (hc 8 _ rfl)
      have c9 := (hb.cell (p := ⟨b, off + k * 11 + 9, none⟩) (World.block_lt_of_cell? w _ (hc 9 _ rfl))).trans (hc 9 _ rfl)
      have c10 := (hb.cell (p := ⟨b, off + k * 11 + 10, none⟩) (World.block_lt_of_cell? w _ (hc 10 _ rfl))).trans (hc 10 _ rfl)
      have HP := Lib.hid (fun W' (hb' : Below wr.heap.size wr W') => tl_Put (hT.below (tblF _ _) hb') y hwy.1 hwy.2)
      have HN := Lib.hid hnext
      unfold Thg.val at HP
      have hlt' : (k : Int) < l.length := by omega
      clear hc hcur hnext hT hwy
      go_wp2_with fail
      refine Calls.mono (HP.out _ (by (repeat (first | exact Below.refl _ _ | assumption | refine Below.alloc ?_ (by first | omega | (simp; done) | (simp; omega)) _ | refine Below.setCell ?_ (by first | omega | (simp; done) | (simp; omega)) _ | refine Below.drew ?_ | refine Below.draws ?_ _ | refine Below.via (by assumption) (by first | omega | (simp; done) | (simp; omega)) ?_)))) ?_
      rintro e w2 ⟨rfl, h2, hk2⟩
      clear HP
      go_wp2_with fail
      go_roundw
      case rel => exact ⟨k + 1, by omega, by go_num, by rw [HN.out]; exact h2⟩
      case measure => simp [intOf]; omega
    · have hke : k = l.length := by omega
      subst hke
      rw [List.take_length] at hT
      go_wp2_with fail
      go_ret
      refine ⟨t, rfl, ?_, hT.to⟩
      obtain ⟨F, g1, g2, g3, g4, g5⟩ := hT
      exact ⟨F, g1, fun j hj => ⟨Nat.le_trans hB (g2 j hj).1, (g2 j hj).2⟩, hb0.trans (g3.mono hB), g4, Nat.le_trans hB g5⟩
end Go.Proofs.Ytggeehmcjndlgaa
