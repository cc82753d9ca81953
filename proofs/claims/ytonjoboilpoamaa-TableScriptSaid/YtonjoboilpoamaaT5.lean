/- Walks of New (that is), Add, End, Open. -/
import Derived.Test.YtonjoboilpoamaaT4
import Derived.StillTailTactics
namespace Go.Proofs.Ytonjoboilpoamaa.tab
open Go.RowKit Go.Proofs.Ytonjoboilpoamaa.wld Go.Proofs.Ytonjoboilpoamaa.imap

def NewPost (w : World) (n : Nat) (life : Int) (e : Ending) (w' : World) : Prop := ∃ tb T, e = .returned (.tuple #[.pointer (some ⟨tb, 0, none⟩), .int .i64 0]) ∧ TabAt w' tb T ∧ Below w.heap.size w w' ∧ (∀ b, foot tb T b → w.heap.size ≤ b) ∧
      T.ns = n ∧ T.life = life ∧ T.g = (fun _ => 0) ∧ T.cnt = (fun _ => 0) ∧ T.f = (fun _ _ => none)

theorem new_yes (s life : Int) (w : World) (h0 : 0 ≤ s) (h1 : s ≤ 32) (h2 : 1 ≤ life) (h3 : life ≤ 4611686018427387904) :
    Calls Try.prog 14 #[.int .i64 s, .int .i64 life] w (NewPost w s.toNat life) := by
  obtain ⟨n, rfl⟩ := Int.eq_ofNat_of_zero_le h0
  obtain ⟨i0, hi, hz0, hz1, hz2⟩ := info_parts info3
  have hmk : ∀ u : World, (Instr.makeSlice 71 (.int .i64 (n : Int)) (.int .i64 (n : Int))).run Try.prog u =
      .ok (.slice (some ⟨u.heap.size, 0, none⟩) n n) (u.alloc (.cells (madeCells #[.int .i64 0] n) 3)) := fun u => by
    have h := run_make (P := Try.prog) u 71 3 i0 (.int .i64 0) Try.underlying71 hi hz0 .i64 .i64 (n : Int) (n : Int) (by omega) (Int.le_refl _) (by rw [hz2]; omega) (by omega)
    simpa [hz1, Value.cells] using h
  clear hi hz0 hz1 hz2
  go_enter Try.func14, Try.ntmps14
  go_wp2_with fail
  have hA : ((w.alloc (.cells (madeCells #[.int .i64 0] n) 3)).alloc (.cells #[.int .i64 life, .slice none 0 0, .slice (some ⟨w.heap.size, 0, none⟩) n n] 80)).heap[w.heap.size + 1]? = some (.cells #[.int .i64 life, .slice none 0 0, .slice (some ⟨w.heap.size, 0, none⟩) n n] 80 (0, 0)) := by
    have := alloc_same (w.alloc (.cells (madeCells #[.int .i64 0] n) 3)) (.cells #[.int .i64 life, .slice none 0 0, .slice (some ⟨w.heap.size, 0, none⟩) n n] 80)
    rw [size_alloc] at this
    exact this
  have hB : ((w.alloc (.cells (madeCells #[.int .i64 0] n) 3)).alloc (.cells #[.int .i64 life, .slice none 0 0, .slice (some ⟨w.heap.size, 0, none⟩) n n] 80)).heap[w.heap.size]? = some (.cells (madeCells #[.int .i64 0] n) 3 (0, 0)) := by
    rw [alloc_other (by rw [size_alloc]; omega)]
    exact alloc_same _ _
  have HC := Lib.hid (clear_any (w.heap.size + 1) w.heap.size n life (madeCells #[.int .i64 0] n) _ _ hA hB (by rw [size_madeCells]) (by omega) (by omega))
  clear hA hB
  refine HC.out.mono ?_
  rintro e w1 ⟨rfl, hC⟩
  go_wp2
  go_ret2
  have hk := hC.kept
  have hT := hC.tab (by rw [size_madeCells]) (by omega) h2
  refine ⟨_, _, rfl, hT, ?_, ?_, by simp [fresh], rfl, rfl, rfl, rfl⟩
  · have h1 : Kept (fun _ => False) w ((w.alloc (.cells (madeCells #[.int .i64 0] n) 3)).alloc (.cells #[.int .i64 life, .slice none 0 0, .slice (some ⟨w.heap.size, 0, none⟩) n n] 80)) := ((Kept.refl _ _).alloc _).alloc _
    exact (h1.then hk (by intro i hi h; omega)).to_below (fun _ _ h => h) (Nat.le_refl _)
  · intro b hb
    rcases hb with rfl | h | rfl | ⟨j, _, h⟩
    · omega
    · simp [fresh] at h; omega
    · simp [fresh]
    · simp [fresh] at h; omega

def Tb.add (T : Tb) (s : Nat) (x : Value) : Tb :=
  { T with g := fun j => if j = s then T.g s + 1 else T.g j, cnt := fun j => if j = s then cntPut (T.f s) (T.g s + 1) (T.cnt s) else T.cnt j,
           f := fun j => if j = s then setAt (T.f s) (T.g s + 1) (some x) else T.f j }

theorem add_nil (s : Int) (x : Value) (w : World) :
    Calls Try.prog 15 #[.pointer none, .int .i64 s, x] w fun e w' => e = .returned (.tuple #[.agg #[.int .i64 0, .int .i64 0], .int .i64 1]) ∧ Below w.heap.size w w' := by
  go_enter Try.func15, Try.ntmps15
  go_wp2
  exact bodyPost_ret (v := .tuple #[.agg #[.int .i64 0, .int .i64 0], .int .i64 1]) (by simp [results, Try.results15, go_sem]) rfl ⟨rfl, by repeat (first | exact Below.refl _ _ | refine below_drewN ?_ _ | refine Below.drew ?_ | refine Below.alloc ?_ (by simp) _)⟩

theorem add_neg (tb : Nat) (s : Int) (x : Value) (w : World) (hs : s < 0) :
    Calls Try.prog 15 #[.pointer (some ⟨tb, 0, none⟩), .int .i64 s, x] w fun e w' => e = .returned (.tuple #[.agg #[.int .i64 0, .int .i64 0], .int .i64 2]) ∧ Below w.heap.size w w' := by
  go_enter Try.func15, Try.ntmps15
  go_wp2_with (go_at_call 31; refine (is_neg tb s _ hs).mono ?_; rintro e w1 ⟨rfl, rfl⟩)
  exact bodyPost_ret (v := .tuple #[.agg #[.int .i64 0, .int .i64 0], .int .i64 2]) (by simp [results, Try.results15, go_sem]) rfl ⟨rfl, by repeat (first | exact Below.refl _ _ | refine below_drewN ?_ _ | refine Below.drew ?_ | refine Below.alloc ?_ (by simp) _)⟩

theorem add_big (tb : Nat) (a2 : Addr) (ns : Nat) (s : Int) (x : Value) (w : World) (h2 : w.cell? ⟨tb, 2, none⟩ = some (.slice (some a2) ns ns)) (h0 : 0 ≤ s) (hs : (ns : Int) ≤ s) :
    Calls Try.prog 15 #[.pointer (some ⟨tb, 0, none⟩), .int .i64 s, x] w fun e w' => e = .returned (.tuple #[.agg #[.int .i64 0, .int .i64 0], .int .i64 2]) ∧ Below w.heap.size w w' := by
  go_enter Try.func15, Try.ntmps15
  go_wp2_with (go_at_call 31; refine (is_big tb a2 ns s _ (cellA h2 _) h0 hs).mono ?_; rintro e w1 ⟨rfl, rfl⟩)
  exact bodyPost_ret (v := .tuple #[.agg #[.int .i64 0, .int .i64 0], .int .i64 2]) (by simp [results, Try.results15, go_sem]) rfl ⟨rfl, by repeat (first | exact Below.refl _ _ | refine below_drewN ?_ _ | refine Below.drew ?_ | refine Below.alloc ?_ (by simp) _)⟩

theorem add_tab {w W : World} {tb : Nat} {T : Tb} {s : Nat} {x : Value} (hT : TabAt w tb T) (hs : s < T.ns) (hg : T.g s < 9223372036854775807) (hk : Kept (fun b => b = T.gb ∨ b = T.m s) w W)
    (hG : W.heap[T.gb]? = some (.cells ((intsRow T.g T.ns).setIfInBounds s (.int .i64 (T.g s + 1))) 3 (0, 0))) (hm : IntMap W (T.m s) (setAt (T.f s) (T.g s + 1) (some x)) (cntPut (T.f s) (T.g s + 1) (T.cnt s))) :
    TabAt W tb (T.add s x) := by
  have hM := hT.maps s hs
  refine ⟨?_, ?_, ?_, ?_, hT.inj, hT.few, hT.old, ?_⟩
  · exact (hk.block tb (lt_of_block hT.blkT) (by rintro (h | h); exact hT.ne_tg h; exact map_ne_cells hM hT.blkT h.symm)).trans hT.blkT
  · exact (hk.block T.sb (lt_of_block hT.blkS) (by rintro (h | h); exact hT.ne_sg h; exact map_ne_cells hM hT.blkS h.symm)).trans hT.blkS
  · rw [show (T.add s x).gb = T.gb from rfl, hG, intsRow_set]; rfl
  · intro j hj
    by_cases e : j = s
    · subst e
      simpa [Tb.add] using hm
    · have := (hT.maps j hj).of_block (hk.block (T.m j) (hT.maps j hj).lt (by rintro (h | h); exact map_ne_cells (hT.maps j hj) hT.blkG h; exact e (hT.inj j s hj hs h)))
      simpa [Tb.add, e] using this
  · intro j hj
    have h1 := hT.nums j hj
    have h2 := hT.nums s hs
    simp only [Tb.add]
    split <;> omega

theorem add_any (tb : Nat) (T : Tb) (s : Nat) (x : Value) (w : World) (hT : TabAt w tb T) (hs : s < T.ns) (hg : T.g s < 9223372036854775807) :
    Calls Try.prog 15 #[.pointer (some ⟨tb, 0, none⟩), .int .i64 s, x] w fun e w' => e = .returned (.tuple #[.agg #[.int .i64 T.life, .int .i64 (T.g s + 1)], .int .i64 0]) ∧ TabAt w' tb (T.add s x) ∧ Kept (fun b => b = T.gb ∨ b = T.m s) w w' := by
  have cT0 : w.cell? ⟨tb, 0, none⟩ = some (.int .i64 T.life) := cell_of hT.blkT (by simp)
  have cT1 : w.cell? ⟨tb, 1, none⟩ = some (.slice (some ⟨T.sb, 0, none⟩) T.ns T.ns) := cell_of hT.blkT (by simp)
  have cT2 : w.cell? ⟨tb, 2, none⟩ = some (.slice (some ⟨T.gb, 0, none⟩) T.ns T.ns) := cell_of hT.blkT (by simp)
  have cS : w.cell? ⟨T.sb, s, none⟩ = some (.map (some (T.m s))) := cell_of hT.blkS (mapsRow_get hs)
  have cG : w.cell? ⟨T.gb, s, none⟩ = some (.int .i64 (T.g s)) := cell_of hT.blkG (intsRow_get hs)
  have fG : w.frozen? ⟨T.gb, s, none⟩ = false := free_of hT.blkG
  have n1 := hT.ne_ts
  have n2 := hT.ne_tg
  have n3 := hT.ne_sg
  have n4 := n1.symm
  have n5 := n2.symm
  have n6 := n3.symm
  have l1 := lt_of_block hT.blkT
  have l2 := lt_of_block hT.blkS
  have l3 := lt_of_block hT.blkG
  have hs0 : (0 : Int) ≤ (s : Int) := by omega
  have hs1 : (s : Int) < (T.ns : Int) := by omega
  have hg0 := (hT.nums s hs).1
  have hM := hT.maps s hs
  have lm := hM.lt
  have nmg : T.m s ≠ T.gb := map_ne_cells hM hT.blkG
  have nmt : T.m s ≠ tb := map_ne_cells hM hT.blkT
  have nwg : T.gb ≠ w.heap.size := by omega
  have nmw : ¬ w.heap.size = T.m s := by omega
  have hwf : (Lit.int .i64 (T.g s + 1)).wf = true := WalkArith.wf_i64 (by omega)
  have HT := Lib.hid hT
  clear hT
  go_enter Try.func15, Try.ntmps15
  go_wp2_with (first
    | (go_at_call 31; refine (is_yes tb ⟨T.gb, 0, none⟩ T.ns s _ (cellA cT2 _) hs0 hs1).mono ?_; rintro e w1 ⟨rfl, rfl⟩)
    | (at_mapUpdate; go_loud (refine wpList_put _ rfl _ _ _ 81 rfl 3 3 Try.underlying3 Try.underlying81 (T.m s) (T.cnt s) (T.f s) rfl (by refine hM.of_block ?_; rw [alloc_other (by rw [size_set]; exact lm), set_other (by exact nmg)]) (T.g s + 1) hwf x rfl rfl ?_); go_loud (intro w1 hm1 hk1)
       have e1 : (w.setCell ⟨T.gb, s, none⟩ (.int .i64 (T.g s + 1))).heap.size = w.heap.size := size_set _ _ _
       have c10 := hk1.cell (cellA (cellSet cT0 (by exact n2) _) _) (by exact nmt.symm)
       have z0 := hk1.cell (cellN (o := 0) (v := .int .i64 0) e1 rfl) (by exact nmw)
       have z1 := hk1.cell (cellN (o := 1) (v := .int .i64 0) e1 rfl) (by exact nmw)
       have y0 := hk1.free (freeN (o := 0) e1) (by simp) (by exact nmw)
       have y1 := hk1.free (freeN (o := 1) e1) (by simp) (by exact nmw)
       clear e1))
  have hA : Kept (fun b => b = T.gb ∨ b = T.m s) w ((w.setCell ⟨T.gb, s, none⟩ (.int .i64 (T.g s + 1))).alloc (.cells #[.int .i64 0, .int .i64 0] 33)) := ((Kept.refl _ _).set (.inr (.inl rfl)) _).alloc _
  have hW := ((hA.then hk1 (fun i _ h => .inr h)).set (p := ⟨w.heap.size, 0, none⟩) (.inl (Nat.le_refl _)) (.int .i64 T.life)).set (p := ⟨w.heap.size, 1, none⟩) (.inl (Nat.le_refl _)) (.int .i64 (T.g s + 1))
  have q0 : (w1.setCell ⟨w.heap.size, 0, none⟩ (.int .i64 T.life)).cell? ⟨w.heap.size, 0, none⟩ = some (.int .i64 T.life) := cellPut z0 rfl
  have q1 : ((w1.setCell ⟨w.heap.size, 0, none⟩ (.int .i64 T.life)).setCell ⟨w.heap.size, 1, none⟩ (.int .i64 (T.g s + 1))).cell? ⟨w.heap.size, 1, none⟩ = some (.int .i64 (T.g s + 1)) := cellPut (u := .int .i64 0) (cellOff z1 (by omega) _) rfl
  refine bodyPost_ret (v := .tuple #[.agg #[.int .i64 T.life, .int .i64 (T.g s + 1)], .int .i64 0]) (by simp [results, Try.results15, go_sem, q0, q1]) rfl ⟨rfl, add_tab HT.out hs hg hW ?_ ?_, hW⟩
  · rw [set_other (by exact nwg), set_other (by exact nwg), hk1.block T.gb (by simp [World.setCell]; omega) (by exact nmg.symm), alloc_other (by rw [size_set]; exact l3), set_same HT.out.blkG]
  · exact hm1.of_block (by rw [set_other (by exact fun e => nmw e.symm), set_other (by exact fun e => nmw e.symm)])
end Go.Proofs.Ytonjoboilpoamaa.tab
