/- Walks of Open, Find (whole), End. -/
import Derived.Test.YtonjoboilpoamaaT5
import Derived.StillTailTactics
namespace Go.Proofs.Ytonjoboilpoamaa.tab
open Go.RowKit Go.Proofs.Ytonjoboilpoamaa.wld Go.Proofs.Ytonjoboilpoamaa.imap

def sumTo (c : Nat → Nat) : Nat → Nat
  | 0 => 0
  | k + 1 => sumTo c k + c k

theorem sumTo_mono (c : Nat → Nat) {k n : Nat} (h : k ≤ n) : sumTo c k ≤ sumTo c n := by
  induction n with
  | zero => obtain rfl : k = 0 := by omega
            exact Nat.le_refl _
  | succ n ih =>
    by_cases e : k = n + 1
    · subst e; exact Nat.le_refl _
    · have := ih (by omega)
      simp only [sumTo]
      omega

theorem open_nil (w : World) : Calls Try.prog 18 #[.pointer none] w fun e w' => e = .returned (.int .i64 0) ∧ w = w' := by
  go_enter Try.func18, Try.ntmps18
  go_wp2
  go_ret
  exact ⟨rfl, rfl⟩

theorem open_any (tb : Nat) (T : Tb) (w : World) (hT : TabAt w tb T) (hs : sumTo T.cnt T.ns ≤ 9223372036854775807) :
    Calls Try.prog 18 #[.pointer (some ⟨tb, 0, none⟩)] w fun e w' => e = .returned (.int .i64 (sumTo T.cnt T.ns)) ∧ w = w' := by
  have cT1 : w.cell? ⟨tb, 1, none⟩ = some (.slice (some ⟨T.sb, 0, none⟩) T.ns T.ns) := cell_of hT.blkT (by simp)
  have hfew := hT.few
  have HT := Lib.hid hT
  have HS := Lib.hid hs
  clear hT hs
  go_enter Try.func18, Try.ntmps18
  go_wp2
  go_loop [3, 13] (fun n i => ∃ k : Nat, k ≤ T.ns ∧ i = .int .i64 k ∧ n = .int .i64 (sumTo T.cnt k)) (fun _ i => T.ns - (intOf i).toNat)
  case atStart => exact ⟨0, Nat.zero_le _, rfl, rfl⟩
  case round =>
    obtain ⟨k, hk, rfl, rfl⟩ := hrel
    by_cases hlt : k < T.ns
    · have hl := (HT.out.maps k hlt).len (P := Try.prog) Try.underlying81 3
      have cS : w.cell? ⟨T.sb, k, none⟩ = some (.map (some (T.m k))) := cell_of HT.out.blkS (mapsRow_get hlt)
      have b1 : sumTo T.cnt k + T.cnt k ≤ 9223372036854775807 := Nat.le_trans (sumTo_mono T.cnt (k := k + 1) hlt) HS.out
      go_wp2
      go_round
      case rel => exact ⟨k + 1, by omega, by go_num, by simp [sumTo]⟩
      case measure => simp [intOf]; omega
    · have e : k = T.ns := by omega
      have Hk := Lib.hid e
      clear e
      go_wp2
      go_ret
      exact ⟨congrArg (fun n : Nat => Ending.returned (Value.int .i64 ((sumTo T.cnt n : Nat) : Int))) Hk.out, rfl⟩

/-- what Find answers -/
def Tb.find (T : Tb) (z : Value) (s x y : Int) : Value × Int :=
  if s < 0 ∨ (T.ns : Int) ≤ s then (z, 2) else if 1 ≤ x ∧ x < T.life then (z, 180) else if x ≠ T.life ∨ y < 1 ∨ T.g s.toNat < y then (z, 181)
  else match T.f s.toNat y with
    | none => (z, 182)
    | some v => (v, 0)

theorem zero3 (w : World) : (zeroValue 3).run Try.prog w = .ok (.int .i64 0) w := by kernel_rfl

theorem find_any (tb : Nat) (T : Tb) (s x y : Int) (w : World) (hT : TabAt w tb T) :
    Calls Try.prog 19 #[.pointer (some ⟨tb, 0, none⟩), .int .i64 s, .agg #[.int .i64 x, .int .i64 y]] w fun e w' => e = .returned (.tuple #[(T.find (.int .i64 0) s x y).1, .int .i64 (T.find (.int .i64 0) s x y).2]) ∧ Below w.heap.size w w' := by
  have cT0 : w.cell? ⟨tb, 0, none⟩ = some (.int .i64 T.life) := cell_of hT.blkT (by simp)
  have cT1 : w.cell? ⟨tb, 1, none⟩ = some (.slice (some ⟨T.sb, 0, none⟩) T.ns T.ns) := cell_of hT.blkT (by simp)
  have cT2 : w.cell? ⟨tb, 2, none⟩ = some (.slice (some ⟨T.gb, 0, none⟩) T.ns T.ns) := cell_of hT.blkT (by simp)
  by_cases h1 : s < 0
  · simpa only [Tb.find, h1, true_or, if_true] using find_neg tb s x y w h1
  by_cases h2 : (T.ns : Int) ≤ s
  · simpa only [Tb.find, h2, or_true, if_true] using find_big tb _ T.ns s x y w cT2 (by omega) h2
  have e1 : ¬ (s < 0 ∨ (T.ns : Int) ≤ s) := by omega
  obtain ⟨n, rfl⟩ := Int.eq_ofNat_of_zero_le (by omega : 0 ≤ s)
  have hn : n < T.ns := by omega
  have cS : w.cell? ⟨T.sb, n, none⟩ = some (.map (some (T.m n))) := cell_of hT.blkS (mapsRow_get hn)
  have cG : w.cell? ⟨T.gb, n, none⟩ = some (.int .i64 (T.g n)) := cell_of hT.blkG (intsRow_get hn)
  have en : ((n : Int)).toNat = n := by omega
  by_cases h3 : 1 ≤ x ∧ x < T.life
  · simpa only [Tb.find, if_neg e1, if_pos h3] using find_stale tb _ T.ns T.life n x y w cT0 cT2 (by omega) (by omega) h3.1 h3.2
  by_cases h4 : x = T.life
  · subst h4
    by_cases h5 : y < 1
    · have e2 : T.life ≠ T.life ∨ y < 1 ∨ T.g (n : Int).toNat < y := .inr (.inl h5)
      simpa only [Tb.find, if_neg e1, if_neg h3, if_pos e2] using find_low tb _ T.ns T.life n y w cT0 cT2 (by omega) (by omega) hT.old h5
    by_cases h6 : T.g n < y
    · have e2 : T.life ≠ T.life ∨ y < 1 ∨ T.g (n : Int).toNat < y := .inr (.inr h6)
      simpa only [Tb.find, if_neg e1, if_neg h3, if_pos e2] using find_high tb T.gb T.ns T.life n y (T.g n) w cT0 cT2 (by omega) (by omega) (by rw [en]; exact cG) hT.old (by omega) h6
    have e2 : ¬ (T.life ≠ T.life ∨ y < 1 ∨ T.g (n : Int).toNat < y) := by rw [en]; omega
    have hM := hT.maps n hn
    have hg := hT.nums n hn
    have hl : ∀ o k, (Instr.lookup 81 (.map (some (T.m n))) (.int .i64 y) true).run Try.prog ((w.alloc o).drewN k) = .ok (.tuple #[(T.f n y).getD (.int .i64 0), .bool (T.f n y).isSome]) ((w.alloc o).drewN k) := fun o k =>
      (hM.of_block (w' := (w.alloc o).drewN k) (alloc_other hM.lt o)).look Try.underlying3 Try.underlying81 (zero3 _) (WalkArith.wf_i64 (by omega))
    have := find_in tb T.sb T.gb (T.m n) T.ns T.life n y (T.g n) _ _ w cT0 cT2 (by omega) (by omega) cT1 (by rw [en]; exact cS) hl (by rw [en]; exact cG) hT.old (by omega) (by omega)
    have e3 : T.find (.int .i64 0) n T.life y = (if (T.f n y).isSome then (T.f n y).getD (.int .i64 0) else .int .i64 0, if (T.f n y).isSome then 0 else 182) := by
      have e2' : ¬ (T.life ≠ T.life ∨ y < 1 ∨ T.g n < y) := by rw [en] at e2; exact e2
      simp only [Tb.find, en]
      rw [if_neg e1, if_neg h3, if_neg e2']
      cases T.f n y <;> rfl
    rw [e3]
    exact this
  · have e2 : x ≠ T.life ∨ y < 1 ∨ T.g (n : Int).toNat < y := .inl h4
    simpa only [Tb.find, if_neg e1, if_neg h3, if_pos e2] using find_other tb _ T.ns T.life n x y w cT0 cT2 (by omega) (by omega) h3 h4

/-- End: of what there is not -/
theorem end_nil (s x y : Int) (w : World) :
    Calls Try.prog 16 #[.pointer none, .int .i64 s, .agg #[.int .i64 x, .int .i64 y]] w fun e w' => e = .returned (.int .i64 1) ∧ Below w.heap.size w w' := by
  go_enter Try.func16, Try.ntmps16
  go_wp2_with (go_at_call 19; refine (find_nil s x y _).mono ?_; rintro e w1 ⟨rfl, hb⟩)
  go_ret
  exact ⟨rfl, ((Below.refl _ _).alloc (Nat.le_refl _) _).trans (hb.mono (by simp))⟩

theorem end_no (tb : Nat) (T : Tb) (s x y : Int) (w : World) (hT : TabAt w tb T) (h : (T.find (.int .i64 0) s x y).2 ≠ 0) :
    Calls Try.prog 16 #[.pointer (some ⟨tb, 0, none⟩), .int .i64 s, .agg #[.int .i64 x, .int .i64 y]] w fun e w' => e = .returned (.int .i64 (T.find (.int .i64 0) s x y).2) ∧ Below w.heap.size w w' := by
  have HC := Lib.hid (find_any tb T s x y (w.alloc (.cells #[.int .i64 x, .int .i64 y] 33)) (hT.kept (F := fun _ => False) ((Kept.refl _ _).alloc _) (fun _ _ h => h)))
  generalize hc : (T.find (.int .i64 0) s x y).2 = c at *
  generalize hv : (T.find (.int .i64 0) s x y).1 = v at *
  have hne : (c != 0) = true := by simpa using h
  clear hc hv h hT
  go_enter Try.func16, Try.ntmps16
  go_wp2_with (go_at_call 19; refine HC.out.mono ?_; rintro e w1 ⟨rfl, hb⟩)
  go_ret
  exact ⟨rfl, ((Below.refl _ _).alloc (Nat.le_refl _) _).trans (hb.mono (by simp))⟩

def Tb.drop (T : Tb) (s : Nat) (y : Int) : Tb :=
  { T with cnt := fun j => if j = s then T.cnt s - 1 else T.cnt j, f := fun j => if j = s then setAt (T.f s) y none else T.f j }

theorem drop_tab {w W : World} {tb : Nat} {T : Tb} {s : Nat} {y : Int} {v : Value} (hT : TabAt w tb T) (hs : s < T.ns) (hv : T.f s y = some v) (hk : Kept (fun b => b = T.m s) w W)
    (hm : IntMap W (T.m s) (setAt (T.f s) y none) (if (T.f s y).isSome then T.cnt s - 1 else T.cnt s)) : TabAt W tb (T.drop s y) := by
  have hM := hT.maps s hs
  rw [hv] at hm
  refine ⟨?_, ?_, ?_, ?_, hT.inj, hT.few, hT.old, hT.nums⟩
  · exact (hk.block tb (lt_of_block hT.blkT) (fun h => map_ne_cells hM hT.blkT h.symm)).trans hT.blkT
  · exact (hk.block T.sb (lt_of_block hT.blkS) (fun h => map_ne_cells hM hT.blkS h.symm)).trans hT.blkS
  · exact (hk.block T.gb (lt_of_block hT.blkG) (fun h => map_ne_cells hM hT.blkG h.symm)).trans hT.blkG
  · intro j hj
    by_cases e : j = s
    · subst e
      simpa [Tb.drop] using hm
    · have := (hT.maps j hj).of_block (hk.block (T.m j) (hT.maps j hj).lt (fun h => e (hT.inj j s hj hs h)))
      simpa [Tb.drop, e] using this

theorem end_yes (tb : Nat) (T : Tb) (s : Nat) (y : Int) (v : Value) (w : World) (hT : TabAt w tb T) (hs : s < T.ns) (hy : 1 ≤ y) (hy2 : y ≤ T.g s) (hv : T.f s y = some v) :
    Calls Try.prog 16 #[.pointer (some ⟨tb, 0, none⟩), .int .i64 s, .agg #[.int .i64 T.life, .int .i64 y]] w fun e w' => e = .returned (.int .i64 0) ∧ TabAt w' tb (T.drop s y) ∧ Kept (fun b => b = T.m s) w w' := by
  have HC := Lib.hid (find_any tb T s T.life y (w.alloc (.cells #[.int .i64 T.life, .int .i64 y] 33)) (hT.kept (F := fun _ => False) ((Kept.refl _ _).alloc _) (fun _ _ h => h)))
  have ef : T.find (.int .i64 0) s T.life y = (v, 0) := by
    have en : ((s : Int)).toNat = s := by omega
    simp only [Tb.find, en]
    rw [if_neg (by omega), if_neg (by omega), if_neg (by omega), hv]
  rw [ef] at HC
  have HT := Lib.hid hT
  clear hT ef
  go_enter Try.func16, Try.ntmps16
  go_wp2_with (go_at_call 19; refine HC.out.mono ?_; rintro e w1 ⟨rfl, hb⟩)
  have hk1 : Kept (fun _ => False) w w1 := (((Kept.refl _ _).alloc _).then (Kept.of_below hb (fun _ => False)) (fun _ _ h => h))
  have hT1 := HT.out.kept hk1 (fun _ _ h => h)
  have hM1 : IntMap w1.drew (T.m s) (T.f s) (T.cnt s) := hT1.maps s hs
  have cT1 : w1.cell? ⟨tb, 1, none⟩ = some (.slice (some ⟨T.sb, 0, none⟩) T.ns T.ns) := cell_of hT1.blkT (by simp)
  have cS : w1.cell? ⟨T.sb, s, none⟩ = some (.map (some (T.m s))) := cell_of hT1.blkS (mapsRow_get hs)
  have hsz : (w.alloc (.cells #[.int .i64 T.life, .int .i64 y] 33)).heap.size = w.heap.size + 1 := size_alloc _ _
  have cH : w1.cell? ⟨w.heap.size, 1, none⟩ = some (.int .i64 y) := (hb.cell (p := ⟨w.heap.size, 1, none⟩) (by rw [hsz]; simp)).trans (cellN rfl rfl)
  have hs0 : (0 : Int) ≤ (s : Int) := by omega
  have hs1 : (s : Int) < (T.ns : Int) := by omega
  have hg := HT.out.nums s hs
  obtain ⟨es, cl, es', cl', hblk, hrun, hM2⟩ := hM1.del Try.underlying3 Try.underlying81 (a := y) (WalkArith.wf_i64 (by omega)) 0
  have HB := Lib.hid hblk
  have HK := Lib.hid hk1
  have HM := Lib.hid hM2
  have H1 := Lib.hid hT1
  clear hblk hk1 hM2 hT1 hM1 hb hsz hg
  go_region
  go_wp2
  go_ret
  have hW := (HK.out.mono (G := fun b => b = T.m s) (fun _ _ h => h.elim)).drew.setBlock (o' := .map es' cl') HB.out (.inr rfl)
  exact ⟨rfl, drop_tab HT.out hs hv hW HM.out, hW⟩
end Go.Proofs.Ytonjoboilpoamaa.tab
