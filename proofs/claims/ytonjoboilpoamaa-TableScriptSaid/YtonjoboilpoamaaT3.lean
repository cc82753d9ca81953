/- Walks of table functions (clear, New). -/
import Derived.Test.YtonjoboilpoamaaWld
import Derived.Test.YtonjoboilpoamaaT1
import Derived.WalkLawsBesides
import Derived.WalkSpells
import Derived.Lib.Hide
import Derived.BigQuiet
import Derived.BigRegion
namespace Go.Proofs.Ytonjoboilpoamaa.tab
open Go.RowKit Go.Proofs.Ytonjoboilpoamaa.wld Go.Proofs.Ytonjoboilpoamaa.imap

theorem info81 : (Try.prog.info? 81).map (fun i => (i.zero, i.size, i.bytes)) = some (some (.map none), 1, 8) := by kernel_rfl
theorem info3 : (Try.prog.info? 3).map (fun i => (i.zero, i.size, i.bytes)) = some (some (.int .i64 0), 1, 8) := by kernel_rfl

/-- The first k are new maps, made one behind the other from block H on. -/
def clrS (H k ns : Nat) : Array Value := ((List.range ns).map (fun j => if j < k then Value.map (some (H + j)) else .map none)).toArray
def clrG (gs : Array Value) (k : Nat) : Array Value := (gs.toList.mapIdx (fun j v => if j < k then Value.int .i64 0 else v)).toArray

theorem clrS_zero (H ns : Nat) : clrS H 0 ns = madeCells #[.map none] ns := by
  apply Array.ext'
  rw [toList_madeCells_one]
  simp only [clrS]
  apply List.ext_getElem?
  intro i
  by_cases h : i < ns
  · simp [h]
  · simp [h]

theorem clrS_size (H k ns : Nat) : (clrS H k ns).size = ns := by simp [clrS]
theorem clrS_get (H k ns j : Nat) (hj : j < ns) : (clrS H k ns)[j]? = some (if j < k then .map (some (H + j)) else .map none) := by
  simp [clrS, List.getElem?_range hj]
theorem clrG_size (gs : Array Value) (k : Nat) : (clrG gs k).size = gs.size := by simp [clrG]
theorem clrG_get (gs : Array Value) (k j : Nat) : (clrG gs k)[j]? = (gs[j]?).map (fun v => if j < k then .int .i64 0 else v) := by
  simp [clrG]

theorem clrG_zero (gs : Array Value) : clrG gs 0 = gs := by
  apply Array.ext_getElem?
  intro i
  rw [clrG_get]
  cases gs[i]? <;> simp

theorem clrS_step (H k ns : Nat) (hk : k < ns) : (clrS H k ns).setIfInBounds k (.map (some (H + k))) = clrS H (k + 1) ns := by
  apply Array.ext_getElem?
  intro i
  rw [Array.getElem?_setIfInBounds, clrS_size]
  by_cases hi : i < ns
  · rw [clrS_get _ _ _ _ hi, clrS_get _ _ _ _ hi]
    by_cases e : k = i
    · subst e; simp [hk]
    · rw [if_neg e]
      congr 1
      by_cases h : i < k
      · rw [if_pos h, if_pos (by omega)]
      · rw [if_neg h, if_neg (by omega)]
  · rw [if_neg (by omega), Array.getElem?_eq_none (by rw [clrS_size]; omega), Array.getElem?_eq_none (by rw [clrS_size]; omega)]

theorem clrG_step (gs : Array Value) (k : Nat) (hk : k < gs.size) : (clrG gs k).setIfInBounds k (.int .i64 0) = clrG gs (k + 1) := by
  apply Array.ext_getElem?
  intro i
  rw [Array.getElem?_setIfInBounds, clrG_size, clrG_get, clrG_get]
  by_cases e : k = i
  · subst e
    simp [hk]
  · rw [if_neg e]
    congr 1
    funext v
    by_cases h : i < k
    · rw [if_pos h, if_pos (by omega)]
    · rw [if_neg h, if_neg (by omega)]

theorem freeA {w : World} {a : Addr} (h : w.frozen? a = false) (hl : a.block < w.heap.size) (o : Obj) : (w.alloc o).frozen? a = false :=
  (World.frozen?_of_block (w := w) (alloc_other hl o)).trans h

structure Clr (w : World) (tb gb ns : Nat) (life : Int) (gs : Array Value) (k : Nat) (wr : World) : Prop where
  blkT : wr.heap[tb]? = some (.cells #[.int .i64 life, .slice (some ⟨w.heap.size, 0, none⟩) ns ns, .slice (some ⟨gb, 0, none⟩) ns ns] 80 (0, 0))
  blkS : wr.heap[w.heap.size]? = some (.cells (clrS (w.heap.size + 1) k ns) 81 (0, 0))
  blkG : wr.heap[gb]? = some (.cells (clrG gs k) 3 (0, 0))
  maps : ∀ j, j < k → wr.heap[w.heap.size + 1 + j]? = some (.map #[] 0)
  size : wr.heap.size = w.heap.size + 1 + k
  kept : Kept (fun b => b = tb ∨ b = gb) w wr

theorem Clr.start {tb gb ns : Nat} {life : Int} {gs : Array Value} {x : Value} {w : World} (hT : w.heap[tb]? = some (.cells #[.int .i64 life, x, .slice (some ⟨gb, 0, none⟩) ns ns] 80 (0, 0)))
    (hG : w.heap[gb]? = some (.cells gs 3 (0, 0))) (hne : tb ≠ gb) :
    Clr w tb gb ns life gs 0 ((w.setCell ⟨tb, 1, none⟩ (.slice (some ⟨w.heap.size, 0, none⟩) ns ns)).alloc (.cells (madeCells #[.map none] ns) 81)) := by
  have l1 := lt_of_block hT
  have l2 := lt_of_block hG
  refine ⟨?_, ?_, ?_, by intro j hj; omega, by simp [World.setCell], ?_⟩
  · rw [alloc_other (by rw [size_set]; exact l1), set_same hT]; rfl
  · have := alloc_same (w.setCell ⟨tb, 1, none⟩ (.slice (some ⟨w.heap.size, 0, none⟩) ns ns)) (.cells (madeCells #[.map none] ns) 81)
    rw [size_set] at this
    rw [this, clrS_zero]
  · rw [alloc_other (by rw [size_set]; exact l2), set_other (by simpa using Ne.symm hne), hG, clrG_zero]
  · exact ((Kept.refl _ _).set (.inr (.inl rfl)) _).alloc _

theorem Clr.step {tb gb ns : Nat} {life : Int} {gs : Array Value} {w wr w' : World} {k : Nat} (h : Clr w tb gb ns life gs k wr) (hk : k < ns) (hgs : gs.size = ns) (hne : tb ≠ gb) (hT : tb < w.heap.size) (hG : gb < w.heap.size) (n : Nat)
    (hw : w' = ((((wr.alloc (.map #[] 0)).setCell ⟨w.heap.size, k, none⟩ (.map (some wr.heap.size))).setCell ⟨gb, k, none⟩ (.int .i64 0)).drewN n)) :
    Clr w tb gb ns life gs (k + 1) w' := by
  subst hw
  have hsz := h.size
  refine ⟨?_, ?_, ?_, ?_, ?_, ?_⟩
  · show ((((wr.alloc _).setCell _ _).setCell _ _)).heap[tb]? = _
    rw [set_other (by simpa using hne), set_other (by simp; omega), alloc_other (by omega)]
    exact h.blkT
  · show ((((wr.alloc _).setCell _ _).setCell _ _)).heap[w.heap.size]? = _
    rw [set_other (by simp; omega)]
    have := set_same (w := wr.alloc (.map #[] 0)) (b := w.heap.size) (o := k) (c := clrS (w.heap.size + 1) k ns) (t := 81) (fr := (0, 0)) (by rw [alloc_other (by omega)]; exact h.blkS) (.map (some wr.heap.size))
    rw [this, hsz, clrS_step _ _ _ hk]
  · show ((((wr.alloc _).setCell _ _).setCell _ _)).heap[gb]? = _
    have := set_same (w := (wr.alloc (.map #[] 0)).setCell ⟨w.heap.size, k, none⟩ (.map (some wr.heap.size))) (b := gb) (o := k) (c := clrG gs k) (t := 3) (fr := (0, 0))
      (by rw [set_other (by simp; omega), alloc_other (by omega)]; exact h.blkG) (.int .i64 0)
    rw [this, clrG_step _ _ (by omega)]
  · intro j hj
    show ((((wr.alloc _).setCell _ _).setCell _ _)).heap[w.heap.size + 1 + j]? = _
    rw [set_other (by simp; omega), set_other (by simp; omega)]
    by_cases e : j = k
    · subst e
      rw [← hsz]
      exact alloc_same _ _
    · rw [alloc_other (by omega)]
      exact h.maps j (by omega)
  · show ((((wr.alloc _).setCell _ _).setCell _ _)).heap.size = _
    rw [size_set, size_set, size_alloc]
    omega
  · refine Kept.drewN ?_ n
    refine Kept.set ?_ (.inr (.inr rfl)) _
    refine Kept.set ?_ (.inl (Nat.le_refl _)) _
    exact h.kept.alloc _

theorem clear_any (tb gb ns : Nat) (life : Int) (gs : Array Value) (x : Value) (w : World) 
   (hT : w.heap[tb]? = some (.cells #[.int .i64 life, x, .slice (some ⟨gb, 0, none⟩) ns ns] 80 (0, 0))) (hG : w.heap[gb]? = some (.cells gs 3 (0, 0))) (hgs : gs.size = ns) (hns : ns ≤ 32) (hne : tb ≠ gb) :
    Calls Try.prog 30 #[.pointer (some ⟨tb, 0, none⟩)] w fun e w' => e = .returned (.tuple #[]) ∧ Clr w tb gb ns life gs ns w' := by
  have c1 : w.cell? ⟨tb, 1, none⟩ = some x := cell_of hT (by simp)
  have c2 : w.cell? ⟨tb, 2, none⟩ = some (.slice (some ⟨gb, 0, none⟩) ns ns) := cell_of hT (by simp)
  have f1 : w.frozen? ⟨tb, 1, none⟩ = false := free_of hT
  have hb := lt_of_block hT
  have hbG := lt_of_block hG
  obtain ⟨i0, hi, hz0, hz1, hz2⟩ := info_parts info81
  have hmk : ∀ u : World, (Instr.makeSlice 78 (.int .i64 (ns : Int)) (.int .i64 (ns : Int))).run Try.prog u =
      .ok (.slice (some ⟨u.heap.size, 0, none⟩) ns ns) (u.alloc (.cells (madeCells #[.map none] ns) 81)) := fun u => by
    have h := run_make (P := Try.prog) u 78 81 i0 (.map none) Try.underlying78 hi hz0 .i64 .i64 (ns : Int) (ns : Int) (by omega) (Int.le_refl _) (by rw [hz2]; omega) (by omega)
    simpa [hz1, Value.cells] using h
  have HT := Lib.hid hT
  have HG := Lib.hid hG
  have HS := Lib.hid hgs
  have HI := Lib.hid hi
  have HZ0 := Lib.hid hz0
  have HZ1 := Lib.hid hz1
  have HZ2 := Lib.hid hz2
  clear hT hG hgs hi hz0 hz1 hz2
  go_enter Try.func30, Try.ntmps30
  go_wp2
  go_loopw [2, 17] (fun _ i wr => ∃ k : Nat, k ≤ ns ∧ i = .int .i64 k ∧ Clr w tb gb ns life gs k wr) (fun _ i _ => ns - (intOf i).toNat)
  case atStart => exact ⟨0, Nat.zero_le _, rfl, Clr.start HT.out HG.out hne⟩
  case round =>
    obtain ⟨k, hk, rfl, hC⟩ := hrel
    by_cases hlt : k < ns
    · have hsz := hC.size
      have cT1 : wr.cell? ⟨tb, 1, none⟩ = some (.slice (some ⟨w.heap.size, 0, none⟩) ns ns) := cell_of hC.blkT (by simp)
      have cT2 : wr.cell? ⟨tb, 2, none⟩ = some (.slice (some ⟨gb, 0, none⟩) ns ns) := cell_of hC.blkT (by simp)
      have cS : wr.cell? ⟨w.heap.size, k, none⟩ = some (.map none) := cell_of hC.blkS (by rw [clrS_get _ _ _ _ hlt]; simp)
      have fS : wr.frozen? ⟨w.heap.size, k, none⟩ = false := free_of hC.blkS
      obtain ⟨g0, cG⟩ : ∃ g0, wr.cell? ⟨gb, k, none⟩ = some g0 := ⟨_, cell_of hC.blkG (by rw [clrG_get, Array.getElem?_eq_getElem (by rw [HS.out]; exact hlt)]; rfl)⟩
      have fG : wr.frozen? ⟨gb, k, none⟩ = false := free_of hC.blkG
      have HC := Lib.hid hC
      have HSZ := Lib.hid hsz
      clear hC hsz
      have hmm := @run_makeMap Try.prog
      have aT1 := cellA cT1 (.map #[] 0)
      have aT2 := cellA cT2 (.map #[] 0)
      have aS := cellA cS (.map #[] 0)
      have aG := cellA cG (.map #[] 0)
      have gS : (wr.alloc (.map #[] 0)).frozen? ⟨w.heap.size, k, none⟩ = false := freeA fS (World.block_lt_of_cell? _ _ cS) _
      have gG : (wr.alloc (.map #[] 0)).frozen? ⟨gb, k, none⟩ = false := freeA fG (World.block_lt_of_cell? _ _ cG) _
      have n1 : w.heap.size ≠ gb := by omega
      have n2 : gb ≠ w.heap.size := by omega
      have n3 : w.heap.size ≠ tb := by omega
      have n4 : tb ≠ w.heap.size := by omega
      have n5 : tb ≠ gb := hne
      have n6 : gb ≠ tb := hne.symm
      go_wp2
      go_region
      go_wp2
      go_roundw
      case rel => exact ⟨k + 1, by omega, by go_num, HC.out.step hlt HS.out hne hb hbG 1 rfl⟩
      case measure => simp [intOf]; omega
    · have e : k = ns := by omega
      subst e
      go_wp2
      go_end0
      exact ⟨rfl, hC⟩
end Go.Proofs.Ytonjoboilpoamaa.tab
