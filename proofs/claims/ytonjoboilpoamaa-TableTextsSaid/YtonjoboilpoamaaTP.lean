/- Contracts of another instance of the table, printed by tabinst.py out of those of Table[int]. -/
import Derived.Test.YtonjoboilpoamaaWld
import Derived.WalkLawsBesides
import Derived.WalkSpells
import Derived.Lib.Hide
import Derived.Deep.QuietTactic
import Derived.BigQuiet
import Derived.BigRegion
namespace Go.Proofs.Ytonjoboilpoamaa.tabp
set_option linter.unusedVariables false
open Go.RowKit Go.Proofs.Ytonjoboilpoamaa.wld Go.Proofs.Ytonjoboilpoamaa.imap

-- T1

theorem is_yes (tb : Nat) (a2 : Addr) (ns : Nat) (s : Int) (w : World) (h2 : w.cell? ⟨tb, 2, none⟩ = some (.slice (some a2) ns ns)) (h0 : 0 ≤ s) (h1 : s < ns) :
    Calls Try.prog 37 #[.pointer (some ⟨tb, 0, none⟩), .int .i64 s] w fun e w' => e = .returned (.bool true) ∧ w = w' := by
  go_enter Try.func37, Try.ntmps37
  go_wp2
  go_ret
  exact ⟨rfl, rfl⟩

theorem is_neg (tb : Nat) (s : Int) (w : World) (h0 : s < 0) :
    Calls Try.prog 37 #[.pointer (some ⟨tb, 0, none⟩), .int .i64 s] w fun e w' => e = .returned (.bool false) ∧ w = w' := by
  go_enter Try.func37, Try.ntmps37
  go_wp2
  go_ret
  exact ⟨rfl, rfl⟩

theorem is_big (tb : Nat) (a2 : Addr) (ns : Nat) (s : Int) (w : World) (h2 : w.cell? ⟨tb, 2, none⟩ = some (.slice (some a2) ns ns)) (h0 : 0 ≤ s) (h1 : (ns : Int) ≤ s) :
    Calls Try.prog 37 #[.pointer (some ⟨tb, 0, none⟩), .int .i64 s] w fun e w' => e = .returned (.bool false) ∧ w = w' := by
  go_enter Try.func37, Try.ntmps37
  go_wp2
  go_ret
  exact ⟨by simp; omega, rfl⟩




-- T2


theorem find_nil (s x y : Int) (w : World) :
    Calls Try.prog 26 #[.pointer none, .int .i64 s, .agg #[.int .i64 x, .int .i64 y]] w fun e w' => e = .returned (.tuple #[.pointer none, .int .i64 1]) ∧ Below w.heap.size w w' := by
  go_enter Try.func26, Try.ntmps26
  go_wp2
  go_ret2
  exact ⟨rfl, (Below.refl _ _).alloc (Nat.le_refl _) _⟩

theorem find_neg (tb : Nat) (s x y : Int) (w : World) (hs : s < 0) :
    Calls Try.prog 26 #[.pointer (some ⟨tb, 0, none⟩), .int .i64 s, .agg #[.int .i64 x, .int .i64 y]] w fun e w' => e = .returned (.tuple #[.pointer none, .int .i64 2]) ∧ Below w.heap.size w w' := by
  go_enter Try.func26, Try.ntmps26
  go_wp2_with (go_at_call 37; refine (is_neg tb s _ hs).mono ?_; rintro e w1 ⟨rfl, rfl⟩)
  go_ret2
  exact ⟨rfl, (Below.refl _ _).alloc (Nat.le_refl _) _⟩

theorem find_big (tb : Nat) (a2 : Addr) (ns : Nat) (s x y : Int) (w : World) (h2 : w.cell? ⟨tb, 2, none⟩ = some (.slice (some a2) ns ns)) (h0 : 0 ≤ s) (hs : (ns : Int) ≤ s) :
    Calls Try.prog 26 #[.pointer (some ⟨tb, 0, none⟩), .int .i64 s, .agg #[.int .i64 x, .int .i64 y]] w fun e w' => e = .returned (.tuple #[.pointer none, .int .i64 2]) ∧ Below w.heap.size w w' := by
  have hb := World.block_lt_of_cell? w _ h2
  go_enter Try.func26, Try.ntmps26
  go_wp2_with (go_at_call 37; refine (is_big tb a2 ns s _ (cellA h2 _) h0 hs).mono ?_; rintro e w1 ⟨rfl, rfl⟩)
  go_ret2
  exact ⟨rfl, (Below.refl _ _).alloc (Nat.le_refl _) _⟩

theorem find_stale (tb : Nat) (a2 : Addr) (ns : Nat) (life s x y : Int) (w : World) (h1 : w.cell? ⟨tb, 0, none⟩ = some (.int .i64 life)) (h2 : w.cell? ⟨tb, 2, none⟩ = some (.slice (some a2) ns ns)) (h0 : 0 ≤ s) (hs : s < ns)
    (hx : 1 ≤ x) (hx2 : x < life) :
    Calls Try.prog 26 #[.pointer (some ⟨tb, 0, none⟩), .int .i64 s, .agg #[.int .i64 x, .int .i64 y]] w fun e w' => e = .returned (.tuple #[.pointer none, .int .i64 180]) ∧ Below w.heap.size w w' := by
  have hb := World.block_lt_of_cell? w _ h2
  have d1 : decide (1 ≤ x) = true := by simp [hx]
  go_enter Try.func26, Try.ntmps26
  go_wp2_with (go_at_call 37; refine (is_yes tb a2 ns s _ (cellA h2 _) h0 hs).mono ?_; rintro e w1 ⟨rfl, rfl⟩)
  go_quiet (fail)
  go_wp2
  go_ret2
  exact ⟨rfl, by repeat (first | exact Below.refl _ _ | refine below_drewN ?_ _ | refine Below.drew ?_ | refine Below.alloc ?_ (by simp) _)⟩

theorem find_other (tb : Nat) (a2 : Addr) (ns : Nat) (life s x y : Int) (w : World) (h1 : w.cell? ⟨tb, 0, none⟩ = some (.int .i64 life)) (h2 : w.cell? ⟨tb, 2, none⟩ = some (.slice (some a2) ns ns)) (h0 : 0 ≤ s) (hs : s < ns)
    (hx : ¬ (1 ≤ x ∧ x < life)) (hx2 : x ≠ life) :
    Calls Try.prog 26 #[.pointer (some ⟨tb, 0, none⟩), .int .i64 s, .agg #[.int .i64 x, .int .i64 y]] w fun e w' => e = .returned (.tuple #[.pointer none, .int .i64 181]) ∧ Below w.heap.size w w' := by
  have hb := World.block_lt_of_cell? w _ h2
  have d3 : (x != life) = true := by simpa using hx2
  by_cases h : 1 ≤ x
  · have d1 : decide (1 ≤ x) = true := by simp [h]
    have d2 : life ≤ x := by omega
    have d2' : decide (x < life) = false := by simp; omega
    clear hx hx2
    go_enter Try.func26, Try.ntmps26
    go_wp2_with (go_at_call 37; refine (is_yes tb a2 ns s _ (cellA h2 _) h0 hs).mono ?_; rintro e w1 ⟨rfl, rfl⟩)
    go_quiet (fail)
    go_wp2
    go_quiet (fail)
    go_wp2
    go_ret2
    exact ⟨rfl, by repeat (first | exact Below.refl _ _ | refine below_drewN ?_ _ | refine Below.drew ?_ | refine Below.alloc ?_ (by simp) _)⟩
  · have d1 : decide (1 ≤ x) = false := by simpa using h
    clear hx hx2
    go_enter Try.func26, Try.ntmps26
    go_wp2_with (go_at_call 37; refine (is_yes tb a2 ns s _ (cellA h2 _) h0 hs).mono ?_; rintro e w1 ⟨rfl, rfl⟩)
    go_quiet (fail)
    go_wp2
    go_quiet (fail)
    go_wp2
    go_ret2
    exact ⟨rfl, by repeat (first | exact Below.refl _ _ | refine below_drewN ?_ _ | refine Below.drew ?_ | refine Below.alloc ?_ (by simp) _)⟩

theorem find_low (tb : Nat) (a2 : Addr) (ns : Nat) (life s y : Int) (w : World) (h1 : w.cell? ⟨tb, 0, none⟩ = some (.int .i64 life)) (h2 : w.cell? ⟨tb, 2, none⟩ = some (.slice (some a2) ns ns)) (h0 : 0 ≤ s) (hs : s < ns)
    (hl : 1 ≤ life) (hy : y < 1) :
    Calls Try.prog 26 #[.pointer (some ⟨tb, 0, none⟩), .int .i64 s, .agg #[.int .i64 life, .int .i64 y]] w fun e w' => e = .returned (.tuple #[.pointer none, .int .i64 181]) ∧ Below w.heap.size w w' := by
  have hb := World.block_lt_of_cell? w _ h2
  have d1 : decide (1 ≤ life) = true := by simp [hl]
  have d2 : decide (life < life) = false := by simp
  have d3 : (life != life) = false := by simp
  have d4 : decide (y < 1) = true := by simp [hy]
  go_enter Try.func26, Try.ntmps26
  go_wp2_with (go_at_call 37; refine (is_yes tb a2 ns s _ (cellA h2 _) h0 hs).mono ?_; rintro e w1 ⟨rfl, rfl⟩)
  go_quiet (fail)
  go_wp2
  go_quiet (fail)
  go_wp2
  go_ret2
  exact ⟨rfl, by repeat (first | exact Below.refl _ _ | refine below_drewN ?_ _ | refine Below.drew ?_ | refine Below.alloc ?_ (by simp) _)⟩

theorem find_high (tb gb ns : Nat) (life s y g : Int) (w : World) (h1 : w.cell? ⟨tb, 0, none⟩ = some (.int .i64 life)) (h2 : w.cell? ⟨tb, 2, none⟩ = some (.slice (some ⟨gb, 0, none⟩) ns ns)) (h0 : 0 ≤ s) (hs : s < ns)
    (hg : w.cell? ⟨gb, s.toNat, none⟩ = some (.int .i64 g)) (hl : 1 ≤ life) (hy : 1 ≤ y) (hy2 : g < y) :
    Calls Try.prog 26 #[.pointer (some ⟨tb, 0, none⟩), .int .i64 s, .agg #[.int .i64 life, .int .i64 y]] w fun e w' => e = .returned (.tuple #[.pointer none, .int .i64 181]) ∧ Below w.heap.size w w' := by
  have hb := World.block_lt_of_cell? w _ h2
  have hgb := World.block_lt_of_cell? w _ hg
  have d1 : decide (1 ≤ life) = true := by simp [hl]
  have d2 : decide (life < life) = false := by simp
  have d3 : (life != life) = false := by simp
  have d4 : decide (y < 1) = false := by simp; omega
  go_enter Try.func26, Try.ntmps26
  go_wp2_with (go_at_call 37; refine (is_yes tb ⟨gb, 0, none⟩ ns s _ (cellA h2 _) h0 hs).mono ?_; rintro e w1 ⟨rfl, rfl⟩)
  go_quiet (fail)
  go_wp2
  go_quiet (fail)
  go_wp2
  go_ret2
  exact ⟨rfl, by repeat (first | exact Below.refl _ _ | refine below_drewN ?_ _ | refine Below.drew ?_ | refine Below.alloc ?_ (by simp) _)⟩

theorem find_in (tb sb gb mb ns : Nat) (life s y g : Int) (v : Value) (ok : Bool) (w : World) (h1 : w.cell? ⟨tb, 0, none⟩ = some (.int .i64 life)) (h2 : w.cell? ⟨tb, 2, none⟩ = some (.slice (some ⟨gb, 0, none⟩) ns ns)) (h0 : 0 ≤ s) (hs : s < ns)
    (h3 : w.cell? ⟨tb, 1, none⟩ = some (.slice (some ⟨sb, 0, none⟩) ns ns)) (hm : w.cell? ⟨sb, s.toNat, none⟩ = some (.map (some mb)))
    (hlook : ∀ o n, (Instr.lookup 94 (.map (some mb)) (.int .i64 y) true).run Try.prog ((w.alloc o).drewN n) = .ok (.tuple #[v, .bool ok]) ((w.alloc o).drewN n))
    (hg : w.cell? ⟨gb, s.toNat, none⟩ = some (.int .i64 g)) (hl : 1 ≤ life) (hy : 1 ≤ y) (hy2 : y ≤ g) :
    Calls Try.prog 26 #[.pointer (some ⟨tb, 0, none⟩), .int .i64 s, .agg #[.int .i64 life, .int .i64 y]] w fun e w' => e = .returned (.tuple #[if ok then v else .pointer none, .int .i64 (if ok then 0 else 182)]) ∧ Below w.heap.size w w' := by
  have hb := World.block_lt_of_cell? w _ h2
  have hgb := World.block_lt_of_cell? w _ hg
  have hmb := World.block_lt_of_cell? w _ hm
  have d1 : decide (1 ≤ life) = true := by simp [hl]
  have d2 : decide (life < life) = false := by simp
  have d3 : (life != life) = false := by simp
  have d4 : decide (y < 1) = false := by simp; omega
  cases ok
  all_goals
    go_enter Try.func26, Try.ntmps26
    go_wp2_with (go_at_call 37; refine (is_yes tb ⟨gb, 0, none⟩ ns s _ (cellA h2 _) h0 hs).mono ?_; rintro e w1 ⟨rfl, rfl⟩)
    go_quiet (fail)
    go_wp2
    go_quiet (fail)
    go_wp2
    go_quiet (fail)
    go_wp2
    go_ret2
    exact ⟨rfl, by repeat (first | exact Below.refl _ _ | refine below_drewN ?_ _ | refine Below.drew ?_ | refine Below.alloc ?_ (by simp) _)⟩

-- T3

theorem info94 : (Try.prog.info? 94).map (fun i => (i.zero, i.size, i.bytes)) = some (some (.map none), 1, 8) := by kernel_rfl
theorem info3 : (Try.prog.info? 3).map (fun i => (i.zero, i.size, i.bytes)) = some (some (.int .i64 0), 1, 8) := by kernel_rfl

/-- The first k are new maps, made one behind the other from block H on. -/
def clrS (H k ns : Nat) : Array Value := ((List.range ns).map (fun j => if j < k then Value.map (some (H + j)) else .map none)).toArray
def clrG (gs : Array Value) (k : Nat) : Array Value := (gs.toList.mapIdx (fun j v => if j < k then Value.int .i64 0 else v)).toArray

theorem clrS_zero (H ns : Nat) : clrS H 0 ns = madeCells #[.map none] ns := by
  apply Array.ext'
  rw [toList_madeCells_one]
  simp only [clrS]
  apply List.ext_getElem?
  intro i
  by_cases h : i < ns
  · simp [h]
  · simp [h]

theorem clrS_size (H k ns : Nat) : (clrS H k ns).size = ns := by simp [clrS]
theorem clrS_get (H k ns j : Nat) (hj : j < ns) : (clrS H k ns)[j]? = some (if j < k then .map (some (H + j)) else .map none) := by
  simp [clrS, List.getElem?_range hj]
theorem clrG_size (gs : Array Value) (k : Nat) : (clrG gs k).size = gs.size := by simp [clrG]
theorem clrG_get (gs : Array Value) (k j : Nat) : (clrG gs k)[j]? = (gs[j]?).map (fun v => if j < k then .int .i64 0 else v) := by
  simp [clrG]

theorem clrG_zero (gs : Array Value) : clrG gs 0 = gs := by
  apply Array.ext_getElem?
  intro i
  rw [clrG_get]
  cases gs[i]? <;> simp

theorem clrS_step (H k ns : Nat) (hk : k < ns) : (clrS H k ns).setIfInBounds k (.map (some (H + k))) = clrS H (k + 1) ns := by
  apply Array.ext_getElem?
  intro i
  rw [Array.getElem?_setIfInBounds, clrS_size]
  by_cases hi : i < ns
  · rw [clrS_get _ _ _ _ hi, clrS_get _ _ _ _ hi]
    by_cases e : k = i
    · subst e; simp [hk]
    · rw [if_neg e]
      congr 1
      by_cases h : i < k
      · rw [if_pos h, if_pos (by omega)]
      · rw [if_neg h, if_neg (by omega)]
  · rw [if_neg (by omega), Array.getElem?_eq_none (by rw [clrS_size]; omega), Array.getElem?_eq_none (by rw [clrS_size]; omega)]

theorem clrG_step (gs : Array Value) (k : Nat) (hk : k < gs.size) : (clrG gs k).setIfInBounds k (.int .i64 0) = clrG gs (k + 1) := by
  apply Array.ext_getElem?
  intro i
  rw [Array.getElem?_setIfInBounds, clrG_size, clrG_get, clrG_get]
  by_cases e : k = i
  · subst e
    simp [hk]
  · rw [if_neg e]
    congr 1
    funext v
    by_cases h : i < k
    · rw [if_pos h, if_pos (by omega)]
    · rw [if_neg h, if_neg (by omega)]

theorem freeA {w : World} {a : Addr} (h : w.frozen? a = false) (hl : a.block < w.heap.size) (o : Obj) : (w.alloc o).frozen? a = false :=
  (World.frozen?_of_block (w := w) (alloc_other hl o)).trans h

structure Clr (w : World) (tb gb ns : Nat) (life : Int) (gs : Array Value) (k : Nat) (wr : World) : Prop where
  blkT : wr.heap[tb]? = some (.cells #[.int .i64 life, .slice (some ⟨w.heap.size, 0, none⟩) ns ns, .slice (some ⟨gb, 0, none⟩) ns ns] 93 (0, 0))
  blkS : wr.heap[w.heap.size]? = some (.cells (clrS (w.heap.size + 1) k ns) 94 (0, 0))
  blkG : wr.heap[gb]? = some (.cells (clrG gs k) 3 (0, 0))
  maps : ∀ j, j < k → wr.heap[w.heap.size + 1 + j]? = some (.map #[] 0)
  size : wr.heap.size = w.heap.size + 1 + k
  kept : Kept (fun b => b = tb ∨ b = gb) w wr

theorem Clr.start {tb gb ns : Nat} {life : Int} {gs : Array Value} {x : Value} {w : World} (hT : w.heap[tb]? = some (.cells #[.int .i64 life, x, .slice (some ⟨gb, 0, none⟩) ns ns] 93 (0, 0)))
    (hG : w.heap[gb]? = some (.cells gs 3 (0, 0))) (hne : tb ≠ gb) :
    Clr w tb gb ns life gs 0 ((w.setCell ⟨tb, 1, none⟩ (.slice (some ⟨w.heap.size, 0, none⟩) ns ns)).alloc (.cells (madeCells #[.map none] ns) 94)) := by
  have l1 := lt_of_block hT
  have l2 := lt_of_block hG
  refine ⟨?_, ?_, ?_, by intro j hj; omega, by simp [World.setCell], ?_⟩
  · rw [alloc_other (by rw [size_set]; exact l1), set_same hT]; rfl
  · have := alloc_same (w.setCell ⟨tb, 1, none⟩ (.slice (some ⟨w.heap.size, 0, none⟩) ns ns)) (.cells (madeCells #[.map none] ns) 94)
    rw [size_set] at this
    rw [this, clrS_zero]
  · rw [alloc_other (by rw [size_set]; exact l2), set_other (by simpa using Ne.symm hne), hG, clrG_zero]
  · exact ((Kept.refl _ _).set (.inr (.inl rfl)) _).alloc _

theorem Clr.step {tb gb ns : Nat} {life : Int} {gs : Array Value} {w wr w' : World} {k : Nat} (h : Clr w tb gb ns life gs k wr) (hk : k < ns) (hgs : gs.size = ns) (hne : tb ≠ gb) (hT : tb < w.heap.size) (hG : gb < w.heap.size) (n : Nat)
    (hw : w' = ((((wr.alloc (.map #[] 0)).setCell ⟨w.heap.size, k, none⟩ (.map (some wr.heap.size))).setCell ⟨gb, k, none⟩ (.int .i64 0)).drewN n)) :
    Clr w tb gb ns life gs (k + 1) w' := by
  subst hw
  have hsz := h.size
  refine ⟨?_, ?_, ?_, ?_, ?_, ?_⟩
  · show ((((wr.alloc _).setCell _ _).setCell _ _)).heap[tb]? = _
    rw [set_other (by simpa using hne), set_other (by simp; omega), alloc_other (by omega)]
    exact h.blkT
  · show ((((wr.alloc _).setCell _ _).setCell _ _)).heap[w.heap.size]? = _
    rw [set_other (by simp; omega)]
    have := set_same (w := wr.alloc (.map #[] 0)) (b := w.heap.size) (o := k) (c := clrS (w.heap.size + 1) k ns) (t := 94) (fr := (0, 0)) (by rw [alloc_other (by omega)]; exact h.blkS) (.map (some wr.heap.size))
    rw [this, hsz, clrS_step _ _ _ hk]
  · show ((((wr.alloc _).setCell _ _).setCell _ _)).heap[gb]? = _
    have := set_same (w := (wr.alloc (.map #[] 0)).setCell ⟨w.heap.size, k, none⟩ (.map (some wr.heap.size))) (b := gb) (o := k) (c := clrG gs k) (t := 3) (fr := (0, 0))
      (by rw [set_other (by simp; omega), alloc_other (by omega)]; exact h.blkG) (.int .i64 0)
    rw [this, clrG_step _ _ (by omega)]
  · intro j hj
    show ((((wr.alloc _).setCell _ _).setCell _ _)).heap[w.heap.size + 1 + j]? = _
    rw [set_other (by simp; omega), set_other (by simp; omega)]
    by_cases e : j = k
    · subst e
      rw [← hsz]
      exact alloc_same _ _
    · rw [alloc_other (by omega)]
      exact h.maps j (by omega)
  · show ((((wr.alloc _).setCell _ _).setCell _ _)).heap.size = _
    rw [size_set, size_set, size_alloc]
    omega
  · refine Kept.drewN ?_ n
    refine Kept.set ?_ (.inr (.inr rfl)) _
    refine Kept.set ?_ (.inl (Nat.le_refl _)) _
    exact h.kept.alloc _

theorem clear_any (tb gb ns : Nat) (life : Int) (gs : Array Value) (x : Value) (w : World) 
   (hT : w.heap[tb]? = some (.cells #[.int .i64 life, x, .slice (some ⟨gb, 0, none⟩) ns ns] 93 (0, 0))) (hG : w.heap[gb]? = some (.cells gs 3 (0, 0))) (hgs : gs.size = ns) (hns : ns ≤ 32) (hne : tb ≠ gb) :
    Calls Try.prog 36 #[.pointer (some ⟨tb, 0, none⟩)] w fun e w' => e = .returned (.tuple #[]) ∧ Clr w tb gb ns life gs ns w' := by
  have c1 : w.cell? ⟨tb, 1, none⟩ = some x := cell_of hT (by simp)
  have c2 : w.cell? ⟨tb, 2, none⟩ = some (.slice (some ⟨gb, 0, none⟩) ns ns) := cell_of hT (by simp)
  have f1 : w.frozen? ⟨tb, 1, none⟩ = false := free_of hT
  have hb := lt_of_block hT
  have hbG := lt_of_block hG
  obtain ⟨i0, hi, hz0, hz1, hz2⟩ := info_parts info94
  have hmk : ∀ u : World, (Instr.makeSlice 91 (.int .i64 (ns : Int)) (.int .i64 (ns : Int))).run Try.prog u =
      .ok (.slice (some ⟨u.heap.size, 0, none⟩) ns ns) (u.alloc (.cells (madeCells #[.map none] ns) 94)) := fun u => by
    have h := run_make (P := Try.prog) u 91 94 i0 (.map none) Try.underlying91 hi hz0 .i64 .i64 (ns : Int) (ns : Int) (by omega) (Int.le_refl _) (by rw [hz2]; omega) (by omega)
    simpa [hz1, Value.cells] using h
  have HT := Lib.hid hT
  have HG := Lib.hid hG
  have HS := Lib.hid hgs
  have HI := Lib.hid hi
  have HZ0 := Lib.hid hz0
  have HZ1 := Lib.hid hz1
  have HZ2 := Lib.hid hz2
  clear hT hG hgs hi hz0 hz1 hz2
  go_enter Try.func36, Try.ntmps36
  go_wp2
  go_loopw [2, 17] (fun _ i wr => ∃ k : Nat, k ≤ ns ∧ i = .int .i64 k ∧ Clr w tb gb ns life gs k wr) (fun _ i _ => ns - (intOf i).toNat)
  case atStart => exact ⟨0, Nat.zero_le _, rfl, Clr.start HT.out HG.out hne⟩
  case round =>
    obtain ⟨k, hk, rfl, hC⟩ := hrel
    by_cases hlt : k < ns
    · have hsz := hC.size
      have cT1 : wr.cell? ⟨tb, 1, none⟩ = some (.slice (some ⟨w.heap.size, 0, none⟩) ns ns) := cell_of hC.blkT (by simp)
      have cT2 : wr.cell? ⟨tb, 2, none⟩ = some (.slice (some ⟨gb, 0, none⟩) ns ns) := cell_of hC.blkT (by simp)
      have cS : wr.cell? ⟨w.heap.size, k, none⟩ = some (.map none) := cell_of hC.blkS (by rw [clrS_get _ _ _ _ hlt]; simp)
      have fS : wr.frozen? ⟨w.heap.size, k, none⟩ = false := free_of hC.blkS
      obtain ⟨g0, cG⟩ : ∃ g0, wr.cell? ⟨gb, k, none⟩ = some g0 := ⟨_, cell_of hC.blkG (by rw [clrG_get, Array.getElem?_eq_getElem (by rw [HS.out]; exact hlt)]; rfl)⟩
      have fG : wr.frozen? ⟨gb, k, none⟩ = false := free_of hC.blkG
      have HC := Lib.hid hC
      have HSZ := Lib.hid hsz
      clear hC hsz
      have hmm := @run_makeMap Try.prog
      have aT1 := cellA cT1 (.map #[] 0)
      have aT2 := cellA cT2 (.map #[] 0)
      have aS := cellA cS (.map #[] 0)
      have aG := cellA cG (.map #[] 0)
      have gS : (wr.alloc (.map #[] 0)).frozen? ⟨w.heap.size, k, none⟩ = false := freeA fS (World.block_lt_of_cell? _ _ cS) _
      have gG : (wr.alloc (.map #[] 0)).frozen? ⟨gb, k, none⟩ = false := freeA fG (World.block_lt_of_cell? _ _ cG) _
      have n1 : w.heap.size ≠ gb := by omega
      have n2 : gb ≠ w.heap.size := by omega
      have n3 : w.heap.size ≠ tb := by omega
      have n4 : tb ≠ w.heap.size := by omega
      have n5 : tb ≠ gb := hne
      have n6 : gb ≠ tb := hne.symm
      go_wp2
      go_region
      go_wp2
      go_roundw
      case rel => exact ⟨k + 1, by omega, by go_num, HC.out.step hlt HS.out hne hb hbG 1 rfl⟩
      case measure => simp [intOf]; omega
    · have e : k = ns := by omega
      subst e
      go_wp2
      go_end0
      exact ⟨rfl, hC⟩

-- T4

/-- What a table holds: where its rows lie; its sessions, its life; of each session the last number, the map's block, how many are open, what is open. -/
structure Tb where
  sb : Nat
  gb : Nat
  ns : Nat
  life : Int
  g : Nat → Int
  m : Nat → Nat
  cnt : Nat → Nat
  f : Nat → Int → Option Value

def mapsRow (m : Nat → Nat) (ns : Nat) : Array Value := ((List.range ns).map (fun j => Value.map (some (m j)))).toArray
def intsRow (g : Nat → Int) (ns : Nat) : Array Value := ((List.range ns).map (fun j => Value.int .i64 (g j))).toArray

theorem mapsRow_get {m : Nat → Nat} {ns j : Nat} (h : j < ns) : (mapsRow m ns)[j]? = some (.map (some (m j))) := by simp [mapsRow, h]
theorem intsRow_get {g : Nat → Int} {ns j : Nat} (h : j < ns) : (intsRow g ns)[j]? = some (.int .i64 (g j)) := by simp [intsRow, h]
theorem mapsRow_size (m : Nat → Nat) (ns : Nat) : (mapsRow m ns).size = ns := by simp [mapsRow]
theorem intsRow_size (g : Nat → Int) (ns : Nat) : (intsRow g ns).size = ns := by simp [intsRow]

theorem intsRow_set (g : Nat → Int) (ns k : Nat) (v : Int) : (intsRow g ns).setIfInBounds k (.int .i64 v) = intsRow (fun j => if j = k then v else g j) ns := by
  apply Array.ext_getElem?
  intro i
  rw [Array.getElem?_setIfInBounds, intsRow_size]
  by_cases hi : i < ns
  · rw [intsRow_get hi, intsRow_get hi]
    by_cases e : k = i
    · subst e; simp [hi]
    · rw [if_neg e, if_neg (Ne.symm e)]
  · rw [Array.getElem?_eq_none (by rw [intsRow_size]; omega), Array.getElem?_eq_none (by rw [intsRow_size]; omega)]
    split
    · rw [if_neg (by omega)]
    · rfl

structure TabAt (w : World) (tb : Nat) (T : Tb) : Prop where
  blkT : w.heap[tb]? = some (.cells #[.int .i64 T.life, .slice (some ⟨T.sb, 0, none⟩) T.ns T.ns, .slice (some ⟨T.gb, 0, none⟩) T.ns T.ns] 93 (0, 0))
  blkS : w.heap[T.sb]? = some (.cells (mapsRow T.m T.ns) 94 (0, 0))
  blkG : w.heap[T.gb]? = some (.cells (intsRow T.g T.ns) 3 (0, 0))
  maps : ∀ j, j < T.ns → IntMap w (T.m j) (T.f j) (T.cnt j)
  inj : ∀ i j, i < T.ns → j < T.ns → T.m i = T.m j → i = j
  few : T.ns ≤ 32
  old : 1 ≤ T.life
  nums : ∀ j, j < T.ns → 0 ≤ T.g j ∧ T.g j ≤ 9223372036854775807

def foot (tb : Nat) (T : Tb) (b : Nat) : Prop := b = tb ∨ b = T.sb ∨ b = T.gb ∨ ∃ j, j < T.ns ∧ b = T.m j

theorem TabAt.lt {w : World} {tb : Nat} {T : Tb} (h : TabAt w tb T) {b : Nat} (hb : foot tb T b) : b < w.heap.size := by
  rcases hb with rfl | rfl | rfl | ⟨j, hj, rfl⟩
  · exact lt_of_block h.blkT
  · exact lt_of_block h.blkS
  · exact lt_of_block h.blkG
  · exact (h.maps j hj).lt

theorem TabAt.kept {w w' : World} {tb : Nat} {T : Tb} {F : Nat → Prop} (h : TabAt w tb T) (k : Kept F w w') (hF : ∀ b, foot tb T b → ¬ F b) : TabAt w' tb T := by
  have hb : ∀ b, foot tb T b → w'.heap[b]? = w.heap[b]? := fun b hf => k.block b (h.lt hf) (hF b hf)
  exact ⟨(hb _ (.inl rfl)).trans h.blkT, (hb _ (.inr (.inl rfl))).trans h.blkS, (hb _ (.inr (.inr (.inl rfl)))).trans h.blkG,
    fun j hj => (h.maps j hj).of_block (hb _ (.inr (.inr (.inr ⟨j, hj, rfl⟩)))), h.inj, h.few, h.old, h.nums⟩

theorem TabAt.ne_ts {w : World} {tb : Nat} {T : Tb} (h : TabAt w tb T) : tb ≠ T.sb := by
  intro e
  have h1 := h.blkT
  rw [e, h.blkS] at h1
  simp at h1

theorem TabAt.ne_tg {w : World} {tb : Nat} {T : Tb} (h : TabAt w tb T) : tb ≠ T.gb := by
  intro e
  have h1 := h.blkT
  rw [e, h.blkG] at h1
  simp at h1

theorem TabAt.ne_sg {w : World} {tb : Nat} {T : Tb} (h : TabAt w tb T) : T.sb ≠ T.gb := by
  intro e
  have h1 := h.blkS
  rw [e, h.blkG] at h1
  simp at h1

theorem map_ne_cells {w : World} {b b' n : Nat} {f : Int → Option Value} {c : Array Value} {t : TypeId} {fr : Nat × Nat} (h : IntMap w b f n) (h' : w.heap[b']? = some (.cells c t fr)) : b ≠ b' := by
  intro e
  obtain ⟨es, cl, h1, _⟩ := h
  rw [e, h'] at h1
  simp at h1

/-- what clear leaves -/
def fresh (H gb ns : Nat) (life : Int) : Tb := { sb := H, gb := gb, ns := ns, life := life, g := fun _ => 0, m := fun j => H + 1 + j, cnt := fun _ => 0, f := fun _ _ => none }

theorem Clr.tab {w w' : World} {tb gb ns : Nat} {life : Int} {gs : Array Value} (h : Clr w tb gb ns life gs ns w') (hgs : gs.size = ns) (hns : ns ≤ 32) (hl : 1 ≤ life) : TabAt w' tb (fresh w.heap.size gb ns life) := by
  refine ⟨h.blkT, ?_, ?_, ?_, ?_, hns, hl, ?_⟩
  · rw [show (fresh w.heap.size gb ns life).sb = w.heap.size from rfl, h.blkS]
    congr 2
    apply Array.ext_getElem?
    intro i
    by_cases hi : i < ns
    · rw [clrS_get _ _ _ _ hi, if_pos hi]
      exact (mapsRow_get hi).symm
    · rw [Array.getElem?_eq_none (by rw [clrS_size]; omega), Array.getElem?_eq_none (by rw [mapsRow_size]; exact Nat.le_of_not_lt hi)]
  · rw [show (fresh w.heap.size gb ns life).gb = gb from rfl, h.blkG]
    congr 2
    apply Array.ext_getElem?
    intro i
    by_cases hi : i < ns
    · rw [clrG_get, Array.getElem?_eq_getElem (by omega)]
      simp only [Option.map_some, if_pos hi]
      exact (intsRow_get (g := fun _ => 0) hi).symm
    · rw [Array.getElem?_eq_none (by rw [clrG_size]; omega), Array.getElem?_eq_none (by rw [intsRow_size]; exact Nat.le_of_not_lt hi)]
  · intro j hj
    exact ⟨#[], 0, h.maps j hj, rfl, by simp, (by intro a v hf; cases hf), by simp⟩
  · intro i j _ _ e
    have e' : w.heap.size + 1 + i = w.heap.size + 1 + j := e
    omega
  · intro j _; simp [fresh]

theorem new_no (s life : Int) (w : World) (h : s < 0 ∨ 32 < s ∨ life < 1 ∨ 4611686018427387904 < life) :
    Calls Try.prog 24 #[.int .i64 s, .int .i64 life] w fun e w' => e = .returned (.tuple #[.pointer none, .int .i64 2]) ∧ w = w' := by
  by_cases h1 : s < 0
  · go_enter Try.func24, Try.ntmps24
    go_wp2
    go_ret2
    exact ⟨rfl, rfl⟩
  · by_cases h2 : 32 < s
    · go_enter Try.func24, Try.ntmps24
      go_wp2
      go_ret2
      exact ⟨rfl, rfl⟩
    · by_cases h3 : life < 1
      · go_enter Try.func24, Try.ntmps24
        go_wp2
        go_ret2
        exact ⟨rfl, rfl⟩
      · have h4 : 4611686018427387904 < life := by omega
        go_enter Try.func24, Try.ntmps24
        go_wp2
        go_ret2
        exact ⟨rfl, rfl⟩


-- T5

def NewPost (w : World) (n : Nat) (life : Int) (e : Ending) (w' : World) : Prop := ∃ tb T, e = .returned (.tuple #[.pointer (some ⟨tb, 0, none⟩), .int .i64 0]) ∧ TabAt w' tb T ∧ Below w.heap.size w w' ∧ (∀ b, foot tb T b → w.heap.size ≤ b) ∧
      T.ns = n ∧ T.life = life ∧ T.g = (fun _ => 0) ∧ T.cnt = (fun _ => 0) ∧ T.f = (fun _ _ => none)

theorem new_yes (s life : Int) (w : World) (h0 : 0 ≤ s) (h1 : s ≤ 32) (h2 : 1 ≤ life) (h3 : life ≤ 4611686018427387904) :
    Calls Try.prog 24 #[.int .i64 s, .int .i64 life] w (NewPost w s.toNat life) := by
  obtain ⟨n, rfl⟩ := Int.eq_ofNat_of_zero_le h0
  obtain ⟨i0, hi, hz0, hz1, hz2⟩ := info_parts info3
  have hmk : ∀ u : World, (Instr.makeSlice 71 (.int .i64 (n : Int)) (.int .i64 (n : Int))).run Try.prog u =
      .ok (.slice (some ⟨u.heap.size, 0, none⟩) n n) (u.alloc (.cells (madeCells #[.int .i64 0] n) 3)) := fun u => by
    have h := run_make (P := Try.prog) u 71 3 i0 (.int .i64 0) Try.underlying71 hi hz0 .i64 .i64 (n : Int) (n : Int) (by omega) (Int.le_refl _) (by rw [hz2]; omega) (by omega)
    simpa [hz1, Value.cells] using h
  clear hi hz0 hz1 hz2
  go_enter Try.func24, Try.ntmps24
  go_wp2_with fail
  have hA : ((w.alloc (.cells (madeCells #[.int .i64 0] n) 3)).alloc (.cells #[.int .i64 life, .slice none 0 0, .slice (some ⟨w.heap.size, 0, none⟩) n n] 93)).heap[w.heap.size + 1]? = some (.cells #[.int .i64 life, .slice none 0 0, .slice (some ⟨w.heap.size, 0, none⟩) n n] 93 (0, 0)) := by
    have := alloc_same (w.alloc (.cells (madeCells #[.int .i64 0] n) 3)) (.cells #[.int .i64 life, .slice none 0 0, .slice (some ⟨w.heap.size, 0, none⟩) n n] 93)
    rw [size_alloc] at this
    exact this
  have hB : ((w.alloc (.cells (madeCells #[.int .i64 0] n) 3)).alloc (.cells #[.int .i64 life, .slice none 0 0, .slice (some ⟨w.heap.size, 0, none⟩) n n] 93)).heap[w.heap.size]? = some (.cells (madeCells #[.int .i64 0] n) 3 (0, 0)) := by
    rw [alloc_other (by rw [size_alloc]; omega)]
    exact alloc_same _ _
  have HC := Lib.hid (clear_any (w.heap.size + 1) w.heap.size n life (madeCells #[.int .i64 0] n) _ _ hA hB (by rw [size_madeCells]) (by omega) (by omega))
  clear hA hB
  refine HC.out.mono ?_
  rintro e w1 ⟨rfl, hC⟩
  go_wp2
  go_ret2
  have hk := hC.kept
  have hT := hC.tab (by rw [size_madeCells]) (by omega) h2
  refine ⟨_, _, rfl, hT, ?_, ?_, by simp [fresh], rfl, rfl, rfl, rfl⟩
  · have h1 : Kept (fun _ => False) w ((w.alloc (.cells (madeCells #[.int .i64 0] n) 3)).alloc (.cells #[.int .i64 life, .slice none 0 0, .slice (some ⟨w.heap.size, 0, none⟩) n n] 93)) := ((Kept.refl _ _).alloc _).alloc _
    exact (h1.then hk (by intro i hi h; omega)).to_below (fun _ _ h => h) (Nat.le_refl _)
  · intro b hb
    rcases hb with rfl | h | rfl | ⟨j, _, h⟩
    · omega
    · simp [fresh] at h; omega
    · simp [fresh]
    · simp [fresh] at h; omega

def Tb.add (T : Tb) (s : Nat) (x : Value) : Tb :=
  { T with g := fun j => if j = s then T.g s + 1 else T.g j, cnt := fun j => if j = s then cntPut (T.f s) (T.g s + 1) (T.cnt s) else T.cnt j,
           f := fun j => if j = s then setAt (T.f s) (T.g s + 1) (some x) else T.f j }

theorem add_nil (s : Int) (x : Value) (w : World) :
    Calls Try.prog 25 #[.pointer none, .int .i64 s, x] w fun e w' => e = .returned (.tuple #[.agg #[.int .i64 0, .int .i64 0], .int .i64 1]) ∧ Below w.heap.size w w' := by
  go_enter Try.func25, Try.ntmps25
  go_wp2
  exact bodyPost_ret (v := .tuple #[.agg #[.int .i64 0, .int .i64 0], .int .i64 1]) (by simp [results, Try.results25, go_sem]) rfl ⟨rfl, by repeat (first | exact Below.refl _ _ | refine below_drewN ?_ _ | refine Below.drew ?_ | refine Below.alloc ?_ (by simp) _)⟩

theorem add_neg (tb : Nat) (s : Int) (x : Value) (w : World) (hs : s < 0) :
    Calls Try.prog 25 #[.pointer (some ⟨tb, 0, none⟩), .int .i64 s, x] w fun e w' => e = .returned (.tuple #[.agg #[.int .i64 0, .int .i64 0], .int .i64 2]) ∧ Below w.heap.size w w' := by
  go_enter Try.func25, Try.ntmps25
  go_wp2_with (go_at_call 37; refine (is_neg tb s _ hs).mono ?_; rintro e w1 ⟨rfl, rfl⟩)
  exact bodyPost_ret (v := .tuple #[.agg #[.int .i64 0, .int .i64 0], .int .i64 2]) (by simp [results, Try.results25, go_sem]) rfl ⟨rfl, by repeat (first | exact Below.refl _ _ | refine below_drewN ?_ _ | refine Below.drew ?_ | refine Below.alloc ?_ (by simp) _)⟩

theorem add_big (tb : Nat) (a2 : Addr) (ns : Nat) (s : Int) (x : Value) (w : World) (h2 : w.cell? ⟨tb, 2, none⟩ = some (.slice (some a2) ns ns)) (h0 : 0 ≤ s) (hs : (ns : Int) ≤ s) :
    Calls Try.prog 25 #[.pointer (some ⟨tb, 0, none⟩), .int .i64 s, x] w fun e w' => e = .returned (.tuple #[.agg #[.int .i64 0, .int .i64 0], .int .i64 2]) ∧ Below w.heap.size w w' := by
  go_enter Try.func25, Try.ntmps25
  go_wp2_with (go_at_call 37; refine (is_big tb a2 ns s _ (cellA h2 _) h0 hs).mono ?_; rintro e w1 ⟨rfl, rfl⟩)
  exact bodyPost_ret (v := .tuple #[.agg #[.int .i64 0, .int .i64 0], .int .i64 2]) (by simp [results, Try.results25, go_sem]) rfl ⟨rfl, by repeat (first | exact Below.refl _ _ | refine below_drewN ?_ _ | refine Below.drew ?_ | refine Below.alloc ?_ (by simp) _)⟩

theorem add_tab {w W : World} {tb : Nat} {T : Tb} {s : Nat} {x : Value} (hT : TabAt w tb T) (hs : s < T.ns) (hg : T.g s < 9223372036854775807) (hk : Kept (fun b => b = T.gb ∨ b = T.m s) w W)
    (hG : W.heap[T.gb]? = some (.cells ((intsRow T.g T.ns).setIfInBounds s (.int .i64 (T.g s + 1))) 3 (0, 0))) (hm : IntMap W (T.m s) (setAt (T.f s) (T.g s + 1) (some x)) (cntPut (T.f s) (T.g s + 1) (T.cnt s))) :
    TabAt W tb (T.add s x) := by
  have hM := hT.maps s hs
  refine ⟨?_, ?_, ?_, ?_, hT.inj, hT.few, hT.old, ?_⟩
  · exact (hk.block tb (lt_of_block hT.blkT) (by rintro (h | h); exact hT.ne_tg h; exact map_ne_cells hM hT.blkT h.symm)).trans hT.blkT
  · exact (hk.block T.sb (lt_of_block hT.blkS) (by rintro (h | h); exact hT.ne_sg h; exact map_ne_cells hM hT.blkS h.symm)).trans hT.blkS
  · rw [show (T.add s x).gb = T.gb from rfl, hG, intsRow_set]; rfl
  · intro j hj
    by_cases e : j = s
    · subst e
      simpa [Tb.add] using hm
    · have := (hT.maps j hj).of_block (hk.block (T.m j) (hT.maps j hj).lt (by rintro (h | h); exact map_ne_cells (hT.maps j hj) hT.blkG h; exact e (hT.inj j s hj hs h)))
      simpa [Tb.add, e] using this
  · intro j hj
    have h1 := hT.nums j hj
    have h2 := hT.nums s hs
    simp only [Tb.add]
    split <;> omega

theorem add_any (tb : Nat) (T : Tb) (s : Nat) (x : Value) (w : World) (hT : TabAt w tb T) (hs : s < T.ns) (hg : T.g s < 9223372036854775807) :
    Calls Try.prog 25 #[.pointer (some ⟨tb, 0, none⟩), .int .i64 s, x] w fun e w' => e = .returned (.tuple #[.agg #[.int .i64 T.life, .int .i64 (T.g s + 1)], .int .i64 0]) ∧ TabAt w' tb (T.add s x) ∧ Kept (fun b => b = T.gb ∨ b = T.m s) w w' := by
  have cT0 : w.cell? ⟨tb, 0, none⟩ = some (.int .i64 T.life) := cell_of hT.blkT (by simp)
  have cT1 : w.cell? ⟨tb, 1, none⟩ = some (.slice (some ⟨T.sb, 0, none⟩) T.ns T.ns) := cell_of hT.blkT (by simp)
  have cT2 : w.cell? ⟨tb, 2, none⟩ = some (.slice (some ⟨T.gb, 0, none⟩) T.ns T.ns) := cell_of hT.blkT (by simp)
  have cS : w.cell? ⟨T.sb, s, none⟩ = some (.map (some (T.m s))) := cell_of hT.blkS (mapsRow_get hs)
  have cG : w.cell? ⟨T.gb, s, none⟩ = some (.int .i64 (T.g s)) := cell_of hT.blkG (intsRow_get hs)
  have fG : w.frozen? ⟨T.gb, s, none⟩ = false := free_of hT.blkG
  have n1 := hT.ne_ts
  have n2 := hT.ne_tg
  have n3 := hT.ne_sg
  have n4 := n1.symm
  have n5 := n2.symm
  have n6 := n3.symm
  have l1 := lt_of_block hT.blkT
  have l2 := lt_of_block hT.blkS
  have l3 := lt_of_block hT.blkG
  have hs0 : (0 : Int) ≤ (s : Int) := by omega
  have hs1 : (s : Int) < (T.ns : Int) := by omega
  have hg0 := (hT.nums s hs).1
  have hM := hT.maps s hs
  have lm := hM.lt
  have nmg : T.m s ≠ T.gb := map_ne_cells hM hT.blkG
  have nmt : T.m s ≠ tb := map_ne_cells hM hT.blkT
  have nwg : T.gb ≠ w.heap.size := by omega
  have nmw : ¬ w.heap.size = T.m s := by omega
  have hwf : (Lit.int .i64 (T.g s + 1)).wf = true := WalkArith.wf_i64 (by omega)
  have HT := Lib.hid hT
  clear hT
  go_enter Try.func25, Try.ntmps25
  go_wp2_with (first
    | (go_at_call 37; refine (is_yes tb ⟨T.gb, 0, none⟩ T.ns s _ (cellA cT2 _) hs0 hs1).mono ?_; rintro e w1 ⟨rfl, rfl⟩)
    | (at_mapUpdate; go_loud (refine wpList_put _ rfl _ _ _ 94 rfl 3 67 Try.underlying3 Try.underlying94 (T.m s) (T.cnt s) (T.f s) rfl (by refine hM.of_block ?_; rw [alloc_other (by rw [size_set]; exact lm), set_other (by exact nmg)]) (T.g s + 1) hwf x rfl rfl ?_); go_loud (intro w1 hm1 hk1)
       have e1 : (w.setCell ⟨T.gb, s, none⟩ (.int .i64 (T.g s + 1))).heap.size = w.heap.size := size_set _ _ _
       have c10 := hk1.cell (cellA (cellSet cT0 (by exact n2) _) _) (by exact nmt.symm)
       have z0 := hk1.cell (cellN (o := 0) (v := .int .i64 0) e1 rfl) (by exact nmw)
       have z1 := hk1.cell (cellN (o := 1) (v := .int .i64 0) e1 rfl) (by exact nmw)
       have y0 := hk1.free (freeN (o := 0) e1) (by simp) (by exact nmw)
       have y1 := hk1.free (freeN (o := 1) e1) (by simp) (by exact nmw)
       clear e1))
  have hA : Kept (fun b => b = T.gb ∨ b = T.m s) w ((w.setCell ⟨T.gb, s, none⟩ (.int .i64 (T.g s + 1))).alloc (.cells #[.int .i64 0, .int .i64 0] 33)) := ((Kept.refl _ _).set (.inr (.inl rfl)) _).alloc _
  have hW := ((hA.then hk1 (fun i _ h => .inr h)).set (p := ⟨w.heap.size, 0, none⟩) (.inl (Nat.le_refl _)) (.int .i64 T.life)).set (p := ⟨w.heap.size, 1, none⟩) (.inl (Nat.le_refl _)) (.int .i64 (T.g s + 1))
  have q0 : (w1.setCell ⟨w.heap.size, 0, none⟩ (.int .i64 T.life)).cell? ⟨w.heap.size, 0, none⟩ = some (.int .i64 T.life) := cellPut z0 rfl
  have q1 : ((w1.setCell ⟨w.heap.size, 0, none⟩ (.int .i64 T.life)).setCell ⟨w.heap.size, 1, none⟩ (.int .i64 (T.g s + 1))).cell? ⟨w.heap.size, 1, none⟩ = some (.int .i64 (T.g s + 1)) := cellPut (u := .int .i64 0) (cellOff z1 (by omega) _) rfl
  refine bodyPost_ret (v := .tuple #[.agg #[.int .i64 T.life, .int .i64 (T.g s + 1)], .int .i64 0]) (by simp [results, Try.results25, go_sem, q0, q1]) rfl ⟨rfl, add_tab HT.out hs hg hW ?_ ?_, hW⟩
  · rw [set_other (by exact nwg), set_other (by exact nwg), hk1.block T.gb (by simp [World.setCell]; omega) (by exact nmg.symm), alloc_other (by rw [size_set]; exact l3), set_same HT.out.blkG]
  · exact hm1.of_block (by rw [set_other (by exact fun e => nmw e.symm), set_other (by exact fun e => nmw e.symm)])

-- T6


/-- what Find answers -/
def Tb.find (T : Tb) (z : Value) (s x y : Int) : Value × Int :=
  if s < 0 ∨ (T.ns : Int) ≤ s then (z, 2) else if 1 ≤ x ∧ x < T.life then (z, 180) else if x ≠ T.life ∨ y < 1 ∨ T.g s.toNat < y then (z, 181)
  else match T.f s.toNat y with
    | none => (z, 182)
    | some v => (v, 0)

theorem zero3 (w : World) : (zeroValue 67).run Try.prog w = .ok (.pointer none) w := by kernel_rfl

theorem find_any (tb : Nat) (T : Tb) (s x y : Int) (w : World) (hT : TabAt w tb T) :
    Calls Try.prog 26 #[.pointer (some ⟨tb, 0, none⟩), .int .i64 s, .agg #[.int .i64 x, .int .i64 y]] w fun e w' => e = .returned (.tuple #[(T.find (.pointer none) s x y).1, .int .i64 (T.find (.pointer none) s x y).2]) ∧ Below w.heap.size w w' := by
  have cT0 : w.cell? ⟨tb, 0, none⟩ = some (.int .i64 T.life) := cell_of hT.blkT (by simp)
  have cT1 : w.cell? ⟨tb, 1, none⟩ = some (.slice (some ⟨T.sb, 0, none⟩) T.ns T.ns) := cell_of hT.blkT (by simp)
  have cT2 : w.cell? ⟨tb, 2, none⟩ = some (.slice (some ⟨T.gb, 0, none⟩) T.ns T.ns) := cell_of hT.blkT (by simp)
  by_cases h1 : s < 0
  · simpa only [Tb.find, h1, true_or, if_true] using find_neg tb s x y w h1
  by_cases h2 : (T.ns : Int) ≤ s
  · simpa only [Tb.find, h2, or_true, if_true] using find_big tb _ T.ns s x y w cT2 (by omega) h2
  have e1 : ¬ (s < 0 ∨ (T.ns : Int) ≤ s) := by omega
  obtain ⟨n, rfl⟩ := Int.eq_ofNat_of_zero_le (by omega : 0 ≤ s)
  have hn : n < T.ns := by omega
  have cS : w.cell? ⟨T.sb, n, none⟩ = some (.map (some (T.m n))) := cell_of hT.blkS (mapsRow_get hn)
  have cG : w.cell? ⟨T.gb, n, none⟩ = some (.int .i64 (T.g n)) := cell_of hT.blkG (intsRow_get hn)
  have en : ((n : Int)).toNat = n := by omega
  by_cases h3 : 1 ≤ x ∧ x < T.life
  · simpa only [Tb.find, if_neg e1, if_pos h3] using find_stale tb _ T.ns T.life n x y w cT0 cT2 (by omega) (by omega) h3.1 h3.2
  by_cases h4 : x = T.life
  · subst h4
    by_cases h5 : y < 1
    · have e2 : T.life ≠ T.life ∨ y < 1 ∨ T.g (n : Int).toNat < y := .inr (.inl h5)
      simpa only [Tb.find, if_neg e1, if_neg h3, if_pos e2] using find_low tb _ T.ns T.life n y w cT0 cT2 (by omega) (by omega) hT.old h5
    by_cases h6 : T.g n < y
    · have e2 : T.life ≠ T.life ∨ y < 1 ∨ T.g (n : Int).toNat < y := .inr (.inr h6)
      simpa only [Tb.find, if_neg e1, if_neg h3, if_pos e2] using find_high tb T.gb T.ns T.life n y (T.g n) w cT0 cT2 (by omega) (by omega) (by rw [en]; exact cG) hT.old (by omega) h6
    have e2 : ¬ (T.life ≠ T.life ∨ y < 1 ∨ T.g (n : Int).toNat < y) := by rw [en]; omega
    have hM := hT.maps n hn
    have hg := hT.nums n hn
    have hl : ∀ o k, (Instr.lookup 94 (.map (some (T.m n))) (.int .i64 y) true).run Try.prog ((w.alloc o).drewN k) = .ok (.tuple #[(T.f n y).getD (.pointer none), .bool (T.f n y).isSome]) ((w.alloc o).drewN k) := fun o k =>
      (hM.of_block (w' := (w.alloc o).drewN k) (alloc_other hM.lt o)).look Try.underlying3 Try.underlying94 (zero3 _) (WalkArith.wf_i64 (by omega))
    have := find_in tb T.sb T.gb (T.m n) T.ns T.life n y (T.g n) _ _ w cT0 cT2 (by omega) (by omega) cT1 (by rw [en]; exact cS) hl (by rw [en]; exact cG) hT.old (by omega) (by omega)
    have e3 : T.find (.pointer none) n T.life y = (if (T.f n y).isSome then (T.f n y).getD (.pointer none) else .pointer none, if (T.f n y).isSome then 0 else 182) := by
      have e2' : ¬ (T.life ≠ T.life ∨ y < 1 ∨ T.g n < y) := by rw [en] at e2; exact e2
      simp only [Tb.find, en]
      rw [if_neg e1, if_neg h3, if_neg e2']
      cases T.f n y <;> rfl
    rw [e3]
    exact this
  · have e2 : x ≠ T.life ∨ y < 1 ∨ T.g (n : Int).toNat < y := .inl h4
    simpa only [Tb.find, if_neg e1, if_neg h3, if_pos e2] using find_other tb _ T.ns T.life n x y w cT0 cT2 (by omega) (by omega) h3 h4

/-- End: of what there is not -/
theorem end_nil (s x y : Int) (w : World) :
    Calls Try.prog 27 #[.pointer none, .int .i64 s, .agg #[.int .i64 x, .int .i64 y]] w fun e w' => e = .returned (.int .i64 1) ∧ Below w.heap.size w w' := by
  go_enter Try.func27, Try.ntmps27
  go_wp2_with (go_at_call 26; refine (find_nil s x y _).mono ?_; rintro e w1 ⟨rfl, hb⟩)
  go_ret
  exact ⟨rfl, ((Below.refl _ _).alloc (Nat.le_refl _) _).trans (hb.mono (by simp))⟩

theorem end_no (tb : Nat) (T : Tb) (s x y : Int) (w : World) (hT : TabAt w tb T) (h : (T.find (.pointer none) s x y).2 ≠ 0) :
    Calls Try.prog 27 #[.pointer (some ⟨tb, 0, none⟩), .int .i64 s, .agg #[.int .i64 x, .int .i64 y]] w fun e w' => e = .returned (.int .i64 (T.find (.pointer none) s x y).2) ∧ Below w.heap.size w w' := by
  have HC := Lib.hid (find_any tb T s x y (w.alloc (.cells #[.int .i64 x, .int .i64 y] 33)) (hT.kept (F := fun _ => False) ((Kept.refl _ _).alloc _) (fun _ _ h => h)))
  generalize hc : (T.find (.pointer none) s x y).2 = c at *
  generalize hv : (T.find (.pointer none) s x y).1 = v at *
  have hne : (c != 0) = true := by simpa using h
  clear hc hv h hT
  go_enter Try.func27, Try.ntmps27
  go_wp2_with (go_at_call 26; refine HC.out.mono ?_; rintro e w1 ⟨rfl, hb⟩)
  go_ret
  exact ⟨rfl, ((Below.refl _ _).alloc (Nat.le_refl _) _).trans (hb.mono (by simp))⟩

def Tb.drop (T : Tb) (s : Nat) (y : Int) : Tb :=
  { T with cnt := fun j => if j = s then T.cnt s - 1 else T.cnt j, f := fun j => if j = s then setAt (T.f s) y none else T.f j }

theorem drop_tab {w W : World} {tb : Nat} {T : Tb} {s : Nat} {y : Int} {v : Value} (hT : TabAt w tb T) (hs : s < T.ns) (hv : T.f s y = some v) (hk : Kept (fun b => b = T.m s) w W)
    (hm : IntMap W (T.m s) (setAt (T.f s) y none) (if (T.f s y).isSome then T.cnt s - 1 else T.cnt s)) : TabAt W tb (T.drop s y) := by
  have hM := hT.maps s hs
  rw [hv] at hm
  refine ⟨?_, ?_, ?_, ?_, hT.inj, hT.few, hT.old, hT.nums⟩
  · exact (hk.block tb (lt_of_block hT.blkT) (fun h => map_ne_cells hM hT.blkT h.symm)).trans hT.blkT
  · exact (hk.block T.sb (lt_of_block hT.blkS) (fun h => map_ne_cells hM hT.blkS h.symm)).trans hT.blkS
  · exact (hk.block T.gb (lt_of_block hT.blkG) (fun h => map_ne_cells hM hT.blkG h.symm)).trans hT.blkG
  · intro j hj
    by_cases e : j = s
    · subst e
      simpa [Tb.drop] using hm
    · have := (hT.maps j hj).of_block (hk.block (T.m j) (hT.maps j hj).lt (fun h => e (hT.inj j s hj hs h)))
      simpa [Tb.drop, e] using this

theorem end_yes (tb : Nat) (T : Tb) (s : Nat) (y : Int) (v : Value) (w : World) (hT : TabAt w tb T) (hs : s < T.ns) (hy : 1 ≤ y) (hy2 : y ≤ T.g s) (hv : T.f s y = some v) :
    Calls Try.prog 27 #[.pointer (some ⟨tb, 0, none⟩), .int .i64 s, .agg #[.int .i64 T.life, .int .i64 y]] w fun e w' => e = .returned (.int .i64 0) ∧ TabAt w' tb (T.drop s y) ∧ Kept (fun b => b = T.m s) w w' := by
  have HC := Lib.hid (find_any tb T s T.life y (w.alloc (.cells #[.int .i64 T.life, .int .i64 y] 33)) (hT.kept (F := fun _ => False) ((Kept.refl _ _).alloc _) (fun _ _ h => h)))
  have ef : T.find (.pointer none) s T.life y = (v, 0) := by
    have en : ((s : Int)).toNat = s := by omega
    simp only [Tb.find, en]
    rw [if_neg (by omega), if_neg (by omega), if_neg (by omega), hv]
  rw [ef] at HC
  have HT := Lib.hid hT
  clear hT ef
  go_enter Try.func27, Try.ntmps27
  go_wp2_with (go_at_call 26; refine HC.out.mono ?_; rintro e w1 ⟨rfl, hb⟩)
  have hk1 : Kept (fun _ => False) w w1 := (((Kept.refl _ _).alloc _).then (Kept.of_below hb (fun _ => False)) (fun _ _ h => h))
  have hT1 := HT.out.kept hk1 (fun _ _ h => h)
  have hM1 : IntMap w1.drew (T.m s) (T.f s) (T.cnt s) := hT1.maps s hs
  have cT1 : w1.cell? ⟨tb, 1, none⟩ = some (.slice (some ⟨T.sb, 0, none⟩) T.ns T.ns) := cell_of hT1.blkT (by simp)
  have cS : w1.cell? ⟨T.sb, s, none⟩ = some (.map (some (T.m s))) := cell_of hT1.blkS (mapsRow_get hs)
  have hsz : (w.alloc (.cells #[.int .i64 T.life, .int .i64 y] 33)).heap.size = w.heap.size + 1 := size_alloc _ _
  have cH : w1.cell? ⟨w.heap.size, 1, none⟩ = some (.int .i64 y) := (hb.cell (p := ⟨w.heap.size, 1, none⟩) (by rw [hsz]; simp)).trans (cellN rfl rfl)
  have hs0 : (0 : Int) ≤ (s : Int) := by omega
  have hs1 : (s : Int) < (T.ns : Int) := by omega
  have hg := HT.out.nums s hs
  obtain ⟨es, cl, es', cl', hblk, hrun, hM2⟩ := hM1.del Try.underlying3 Try.underlying94 (a := y) (WalkArith.wf_i64 (by omega)) 0
  have HB := Lib.hid hblk
  have HK := Lib.hid hk1
  have HM := Lib.hid hM2
  have H1 := Lib.hid hT1
  clear hblk hk1 hM2 hT1 hM1 hb hsz hg
  go_region
  go_wp2
  go_ret
  have hW := (HK.out.mono (G := fun b => b = T.m s) (fun _ _ h => h.elim)).drew.setBlock (o' := .map es' cl') HB.out (.inr rfl)
  exact ⟨rfl, drop_tab HT.out hs hv hW HM.out, hW⟩

end Go.Proofs.Ytonjoboilpoamaa.tabp
