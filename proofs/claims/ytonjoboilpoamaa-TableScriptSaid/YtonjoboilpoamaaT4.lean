/- Tables in memory; walks of New, Turn. -/
import Derived.Test.YtonjoboilpoamaaT2
import Derived.Test.YtonjoboilpoamaaT3
namespace Go.Proofs.Ytonjoboilpoamaa.tab
open Go.RowKit Go.Proofs.Ytonjoboilpoamaa.wld Go.Proofs.Ytonjoboilpoamaa.imap

/-- What a table holds: where its rows lie; its sessions, its life; of each session the last number, the map's block, how many are open, what is open. -/
structure Tb where
  sb : Nat
  gb : Nat
  ns : Nat
  life : Int
  g : Nat → Int
  m : Nat → Nat
  cnt : Nat → Nat
  f : Nat → Int → Option Value

def mapsRow (m : Nat → Nat) (ns : Nat) : Array Value := ((List.range ns).map (fun j => Value.map (some (m j)))).toArray
def intsRow (g : Nat → Int) (ns : Nat) : Array Value := ((List.range ns).map (fun j => Value.int .i64 (g j))).toArray

theorem mapsRow_get {m : Nat → Nat} {ns j : Nat} (h : j < ns) : (mapsRow m ns)[j]? = some (.map (some (m j))) := by simp [mapsRow, h]
theorem intsRow_get {g : Nat → Int} {ns j : Nat} (h : j < ns) : (intsRow g ns)[j]? = some (.int .i64 (g j)) := by simp [intsRow, h]
theorem mapsRow_size (m : Nat → Nat) (ns : Nat) : (mapsRow m ns).size = ns := by simp [mapsRow]
theorem intsRow_size (g : Nat → Int) (ns : Nat) : (intsRow g ns).size = ns := by simp [intsRow]

theorem intsRow_set (g : Nat → Int) (ns k : Nat) (v : Int) : (intsRow g ns).setIfInBounds k (.int .i64 v) = intsRow (fun j => if j = k then v else g j) ns := by
  apply Array.ext_getElem?
  intro i
  rw [Array.getElem?_setIfInBounds, intsRow_size]
  by_cases hi : i < ns
  · rw [intsRow_get hi, intsRow_get hi]
    by_cases e : k = i
    · subst e; simp [hi]
    · rw [if_neg e, if_neg (Ne.symm e)]
  · rw [Array.getElem?_eq_none (by rw [intsRow_size]; omega), Array.getElem?_eq_none (by rw [intsRow_size]; omega)]
    split
    · rw [if_neg (by omega)]
    · rfl

structure TabAt (w : World) (tb : Nat) (T : Tb) : Prop where
  blkT : w.heap[tb]? = some (.cells #[.int .i64 T.life, .slice (some ⟨T.sb, 0, none⟩) T.ns T.ns, .slice (some ⟨T.gb, 0, none⟩) T.ns T.ns] 80 (0, 0))
  blkS : w.heap[T.sb]? = some (.cells (mapsRow T.m T.ns) 81 (0, 0))
  blkG : w.heap[T.gb]? = some (.cells (intsRow T.g T.ns) 3 (0, 0))
  maps : ∀ j, j < T.ns → IntMap w (T.m j) (T.f j) (T.cnt j)
  inj : ∀ i j, i < T.ns → j < T.ns → T.m i = T.m j → i = j
  few : T.ns ≤ 32
  old : 1 ≤ T.life
  nums : ∀ j, j < T.ns → 0 ≤ T.g j ∧ T.g j ≤ 9223372036854775807

def foot (tb : Nat) (T : Tb) (b : Nat) : Prop := b = tb ∨ b = T.sb ∨ b = T.gb ∨ ∃ j, j < T.ns ∧ b = T.m j

theorem TabAt.lt {w : World} {tb : Nat} {T : Tb} (h : TabAt w tb T) {b : Nat} (hb : foot tb T b) : b < w.heap.size := by
  rcases hb with rfl | rfl | rfl | ⟨j, hj, rfl⟩
  · exact lt_of_block h.blkT
  · exact lt_of_block h.blkS
  · exact lt_of_block h.blkG
  · exact (h.maps j hj).lt

theorem TabAt.kept {w w' : World} {tb : Nat} {T : Tb} {F : Nat → Prop} (h : TabAt w tb T) (k : Kept F w w') (hF : ∀ b, foot tb T b → ¬ F b) : TabAt w' tb T := by
  have hb : ∀ b, foot tb T b → w'.heap[b]? = w.heap[b]? := fun b hf => k.block b (h.lt hf) (hF b hf)
  exact ⟨(hb _ (.inl rfl)).trans h.blkT, (hb _ (.inr (.inl rfl))).trans h.blkS, (hb _ (.inr (.inr (.inl rfl)))).trans h.blkG,
    fun j hj => (h.maps j hj).of_block (hb _ (.inr (.inr (.inr ⟨j, hj, rfl⟩)))), h.inj, h.few, h.old, h.nums⟩

theorem TabAt.ne_ts {w : World} {tb : Nat} {T : Tb} (h : TabAt w tb T) : tb ≠ T.sb := by
  intro e
  have h1 := h.blkT
  rw [e, h.blkS] at h1
  simp at h1

theorem TabAt.ne_tg {w : World} {tb : Nat} {T : Tb} (h : TabAt w tb T) : tb ≠ T.gb := by
  intro e
  have h1 := h.blkT
  rw [e, h.blkG] at h1
  simp at h1

theorem TabAt.ne_sg {w : World} {tb : Nat} {T : Tb} (h : TabAt w tb T) : T.sb ≠ T.gb := by
  intro e
  have h1 := h.blkS
  rw [e, h.blkG] at h1
  simp at h1

theorem map_ne_cells {w : World} {b b' n : Nat} {f : Int → Option Value} {c : Array Value} {t : TypeId} {fr : Nat × Nat} (h : IntMap w b f n) (h' : w.heap[b']? = some (.cells c t fr)) : b ≠ b' := by
  intro e
  obtain ⟨es, cl, h1, _⟩ := h
  rw [e, h'] at h1
  simp at h1

/-- what clear leaves -/
def fresh (H gb ns : Nat) (life : Int) : Tb := { sb := H, gb := gb, ns := ns, life := life, g := fun _ => 0, m := fun j => H + 1 + j, cnt := fun _ => 0, f := fun _ _ => none }

theorem Clr.tab {w w' : World} {tb gb ns : Nat} {life : Int} {gs : Array Value} (h : Clr w tb gb ns life gs ns w') (hgs : gs.size = ns) (hns : ns ≤ 32) (hl : 1 ≤ life) : TabAt w' tb (fresh w.heap.size gb ns life) := by
  refine ⟨h.blkT, ?_, ?_, ?_, ?_, hns, hl, ?_⟩
  · rw [show (fresh w.heap.size gb ns life).sb = w.heap.size from rfl, h.blkS]
    congr 2
    apply Array.ext_getElem?
    intro i
    by_cases hi : i < ns
    · rw [clrS_get _ _ _ _ hi, if_pos hi]
      exact (mapsRow_get hi).symm
    · rw [Array.getElem?_eq_none (by rw [clrS_size]; omega), Array.getElem?_eq_none (by rw [mapsRow_size]; exact Nat.le_of_not_lt hi)]
  · rw [show (fresh w.heap.size gb ns life).gb = gb from rfl, h.blkG]
    congr 2
    apply Array.ext_getElem?
    intro i
    by_cases hi : i < ns
    · rw [clrG_get, Array.getElem?_eq_getElem (by omega)]
      simp only [Option.map_some, if_pos hi]
      exact (intsRow_get (g := fun _ => 0) hi).symm
    · rw [Array.getElem?_eq_none (by rw [clrG_size]; omega), Array.getElem?_eq_none (by rw [intsRow_size]; exact Nat.le_of_not_lt hi)]
  · intro j hj
    exact ⟨#[], 0, h.maps j hj, rfl, by simp, (by intro a v hf; cases hf), by simp⟩
  · intro i j _ _ e
    have e' : w.heap.size + 1 + i = w.heap.size + 1 + j := e
    omega
  · intro j _; simp [fresh]

theorem new_no (s life : Int) (w : World) (h : s < 0 ∨ 32 < s ∨ life < 1 ∨ 4611686018427387904 < life) :
    Calls Try.prog 14 #[.int .i64 s, .int .i64 life] w fun e w' => e = .returned (.tuple #[.pointer none, .int .i64 2]) ∧ w = w' := by
  by_cases h1 : s < 0
  · go_enter Try.func14, Try.ntmps14
    go_wp2
    go_ret2
    exact ⟨rfl, rfl⟩
  · by_cases h2 : 32 < s
    · go_enter Try.func14, Try.ntmps14
      go_wp2
      go_ret2
      exact ⟨rfl, rfl⟩
    · by_cases h3 : life < 1
      · go_enter Try.func14, Try.ntmps14
        go_wp2
        go_ret2
        exact ⟨rfl, rfl⟩
      · have h4 : 4611686018427387904 < life := by omega
        go_enter Try.func14, Try.ntmps14
        go_wp2
        go_ret2
        exact ⟨rfl, rfl⟩

theorem turn_any (tb : Nat) (T : Tb) (w : World) (hT : TabAt w tb T) (hl : T.life < 9223372036854775807) :
    Calls Try.prog 17 #[.pointer (some ⟨tb, 0, none⟩)] w fun e w' => e = .returned (.tuple #[]) ∧ TabAt w' tb (fresh w.heap.size T.gb T.ns (T.life + 1)) ∧ Kept (fun b => b = tb ∨ b = T.gb) w w' := by
  have c0 : w.cell? ⟨tb, 0, none⟩ = some (.int .i64 T.life) := cell_of hT.blkT (by simp)
  have f0 : w.frozen? ⟨tb, 0, none⟩ = false := free_of hT.blkT
  have hold := hT.old
  have hw : (w.setCell ⟨tb, 0, none⟩ (.int .i64 (T.life + 1))).heap[tb]? = some (.cells #[.int .i64 (T.life + 1), .slice (some ⟨T.sb, 0, none⟩) T.ns T.ns, .slice (some ⟨T.gb, 0, none⟩) T.ns T.ns] 80 (0, 0)) := by
    rw [set_same hT.blkT]; rfl
  have hG : (w.setCell ⟨tb, 0, none⟩ (.int .i64 (T.life + 1))).heap[T.gb]? = some (.cells (intsRow T.g T.ns) 3 (0, 0)) := by
    rw [set_other (by simpa using hT.ne_tg.symm)]; exact hT.blkG
  have HC := Lib.hid (clear_any tb T.gb T.ns (T.life + 1) (intsRow T.g T.ns) _ _ hw hG (intsRow_size _ _) hT.few hT.ne_tg)
  have HT := Lib.hid hT
  clear hT hw hG
  go_enter Try.func17, Try.ntmps17
  go_wp2_with (go_at_call 30; refine HC.out.mono ?_; rintro e w1 ⟨rfl, hC⟩)
  go_end0
  have hsz : (w.setCell ⟨tb, 0, none⟩ (.int .i64 (T.life + 1))).heap.size = w.heap.size := size_set _ _ _
  have h2 := hC.tab (intsRow_size _ _) HT.out.few (by omega)
  rw [hsz] at h2
  exact ⟨rfl, h2, ((Kept.refl _ _).set (.inr (.inl rfl)) _).trans hC.kept⟩
end Go.Proofs.Ytonjoboilpoamaa.tab
