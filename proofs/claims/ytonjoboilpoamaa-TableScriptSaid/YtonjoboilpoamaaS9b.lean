/- TableScript: what the stores into the two arrays leave. -/
import Derived.Test.YtonjoboilpoamaaS9
namespace Go.Proofs.Ytonjoboilpoamaa.scr
set_option linter.unusedVariables false
set_option linter.unusedSimpArgs false
open Go.RowKit Go.Proofs.Ytonjoboilpoamaa.tab Go.Proofs.Ytonjoboilpoamaa.imap Go.Proofs.Ytonjoboilpoamaa.PTableScript Go.Proofs.Ytonjoboilpoamaa.holds

def put4n (W : World) (p n : Nat) (x0 x1 x2 x3 : Value) : World := (((W.setCell ⟨p, n * 4, none⟩ x0).setCell ⟨p, n * 4 + 1, none⟩ x1).setCell ⟨p, n * 4 + 2, none⟩ x2).setCell ⟨p, n * 4 + 3, none⟩ x3

theorem put4n_own (W : World) (p n : Nat) (x0 x1 x2 x3 : Value) : KeptW (fun b => b = p) W (put4n W p n x0 x1 x2 x3) :=
  (((((wld.Kept.refl (fun b => b = p) W).set (p := ⟨p, n * 4, none⟩) (.inr rfl) _).set (p := ⟨p, n * 4 + 1, none⟩) (.inr rfl) _).set (p := ⟨p, n * 4 + 2, none⟩) (.inr rfl) _).set (p := ⟨p, n * 4 + 3, none⟩) (.inr rfl) _)

theorem put4n_miss {W : World} {p n o : Nat} {x0 x1 x2 x3 y : Value} (h : W.cell? ⟨p, o, none⟩ = some y) (h0 : n * 4 ≠ o) (h1 : n * 4 + 1 ≠ o) (h2 : n * 4 + 2 ≠ o) (h3 : n * 4 + 3 ≠ o) : (put4n W p n x0 x1 x2 x3).cell? ⟨p, o, none⟩ = some y :=
  wld.cellOff (wld.cellOff (wld.cellOff (wld.cellOff h h0 _) h1 _) h2 _) h3 _

theorem put4n_hit {W : World} {p n : Nat} {y0 y1 y2 y3 : Value} (x0 x1 x2 x3 : Value) (q0 : W.cell? ⟨p, n * 4, none⟩ = some y0) (q1 : W.cell? ⟨p, n * 4 + 1, none⟩ = some y1) (q2 : W.cell? ⟨p, n * 4 + 2, none⟩ = some y2) (q3 : W.cell? ⟨p, n * 4 + 3, none⟩ = some y3) :
    (put4n W p n x0 x1 x2 x3).cell? ⟨p, n * 4, none⟩ = some x0 ∧ (put4n W p n x0 x1 x2 x3).cell? ⟨p, n * 4 + 1, none⟩ = some x1 ∧ (put4n W p n x0 x1 x2 x3).cell? ⟨p, n * 4 + 2, none⟩ = some x2 ∧ (put4n W p n x0 x1 x2 x3).cell? ⟨p, n * 4 + 3, none⟩ = some x3 := by
  unfold put4n
  refine ⟨?_, ?_, ?_, ?_⟩
  · exact wld.cellOff (wld.cellOff (wld.cellOff (wld.cellPut q0 rfl) (by omega) _) (by omega) _) (by omega) _
  · exact wld.cellOff (wld.cellOff (wld.cellPut (wld.cellOff q1 (by omega) _) rfl) (by omega) _) (by omega) _
  · exact wld.cellOff (wld.cellPut (wld.cellOff (wld.cellOff q2 (by omega) _) (by omega) _) rfl) (by omega) _
  · exact wld.cellPut (wld.cellOff (wld.cellOff (wld.cellOff q3 (by omega) _) (by omega) _) (by omega) _) rfl

theorem frozen_set (W : World) (a p : Addr) (u : Value) : (W.setCell p u).frozen? a = W.frozen? a := by simp

theorem frozen_put4n (W : World) (p n : Nat) (x0 x1 x2 x3 : Value) (a : Addr) : (put4n W p n x0 x1 x2 x3).frozen? a = W.frozen? a := by
  unfold put4n
  rw [frozen_set, frozen_set, frozen_set, frozen_set]

/-- the document's array alone has been stored into -/
theorem SInv.stored {w0 wr wx : World} {hb wb k : Nat} {t : Nat → Tp} {d : Nat → Doc} {v : Nat → Value} (h : SInv w0 hb wb k t d v wr) (n : Nat) (hn : n < 3) {t' : Tp} {d' : Doc} {v' : Value} (hk : KeptW (own (t n) (v n)) wr wx)
    (hA : At w0 wx t' d' v' (k + 1)) (ho : ∀ b, own t' v' b → own (t n) (v n) b ∨ wr.heap.size ≤ b) (htp : tp t' = tp (t n)) :
    SInv w0 hb wb (k + 1) (upd t n t') (upd d n d') (upd v n v') (put4n wx wb n (.bool d'.there) (.int .i64 d'.ns) (.int .i64 d'.L) v') := by
  have nh : ¬ own (t n) (v n) hb := fun x => (h.away n hn _ x).1 rfl
  have nw : ¬ own (t n) (v n) wb := fun x => (h.away n hn _ x).2 rfl
  have ne := h.ne
  have P := put4n_hit (.bool d'.there) (.int .i64 d'.ns) (.int .i64 d'.L) v' (hk.cell (h.c0 n hn) nw) (hk.cell (h.c1 n hn) nw) (hk.cell (h.c2 n hn) nw) (hk.cell (h.c3 n hn) nw)
  refine h.step n hn hk hA ho _ ((put4n_own wx wb n _ _ _ _).mono (fun b _ hb' => .inr hb')) ?_ ?_ ?_ ?_ ?_ ?_ ?_
  · intro i hi
    have h1 : wx.cell? ⟨hb, i, none⟩ = some (tp (upd t n t' i)) := by
      by_cases e : i = n
      · subst e; rw [upd_same, htp]; exact hk.cell (h.here i hi) nh
      · rw [upd_other _ _ e]; exact hk.cell (h.here i hi) nh
    exact (put4n_own wx wb n _ _ _ _).cell h1 ne
  · intro i hi
    by_cases e : i = n
    · subst e; rw [upd_same]; exact P.1
    · rw [upd_other _ _ e]; exact put4n_miss (hk.cell (h.c0 i hi) nw) (by omega) (by omega) (by omega) (by omega)
  · intro i hi
    by_cases e : i = n
    · subst e; rw [upd_same]; exact P.2.1
    · rw [upd_other _ _ e]; exact put4n_miss (hk.cell (h.c1 i hi) nw) (by omega) (by omega) (by omega) (by omega)
  · intro i hi
    by_cases e : i = n
    · subst e; rw [upd_same]; exact P.2.2.1
    · rw [upd_other _ _ e]; exact put4n_miss (hk.cell (h.c2 i hi) nw) (by omega) (by omega) (by omega) (by omega)
  · intro i hi
    by_cases e : i = n
    · subst e; rw [upd_same]; exact P.2.2.2
    · rw [upd_other _ _ e]; exact put4n_miss (hk.cell (h.c3 i hi) nw) (by omega) (by omega) (by omega) (by omega)
  · intro i
    rw [frozen_put4n]
    exact hk.free (h.fh i) h.lth nh
  · intro i
    rw [frozen_put4n]
    exact hk.free (h.fw i) h.ltw nw

/-- both arrays have been stored into: a new table -/
theorem SInv.renewed {w0 wr wx : World} {hb wb k : Nat} {t : Nat → Tp} {d : Nat → Doc} {v : Nat → Value} (h : SInv w0 hb wb k t d v wr) (n : Nat) (hn : n < 3) {t' : Tp} {d' : Doc} {v' : Value} (hk : KeptW (fun _ => False) wr wx)
    (hA : At w0 wx t' d' v' (k + 1)) (ho : ∀ b, own t' v' b → wr.heap.size ≤ b) :
    SInv w0 hb wb (k + 1) (upd t n t') (upd d n d') (upd v n v') (put4n (wx.setCell ⟨hb, n, none⟩ (tp t')) wb n (.bool d'.there) (.int .i64 d'.ns) (.int .i64 d'.L) v') := by

  have ne := h.ne
  have hne : ¬ wb = hb := fun e => ne e.symm
  have ks : KeptW (fun b => b = hb) wx (wx.setCell ⟨hb, n, none⟩ (tp t')) := (wld.Kept.refl (fun b => b = hb) wx).set (p := ⟨hb, n, none⟩) (.inr rfl) _
  have P := put4n_hit (.bool d'.there) (.int .i64 d'.ns) (.int .i64 d'.L) v' (ks.cell (hk.cell (h.c0 n hn) (fun h => h)) hne) (ks.cell (hk.cell (h.c1 n hn) (fun h => h)) hne) (ks.cell (hk.cell (h.c2 n hn) (fun h => h)) hne) (ks.cell (hk.cell (h.c3 n hn) (fun h => h)) hne)
  refine h.step n hn (hk.mono (fun _ _ h => h.elim)) hA (fun b hb' => .inr (ho b hb')) _ ((ks.mono (fun b _ hb' => .inl hb')).then (put4n_own _ wb n _ _ _ _) (fun b _ hb' => .inr hb')) ?_ ?_ ?_ ?_ ?_ ?_ ?_
  · intro i hi
    have h1 : (wx.setCell ⟨hb, n, none⟩ (tp t')).cell? ⟨hb, i, none⟩ = some (tp (upd t n t' i)) := by
      by_cases e : i = n
      · subst e; rw [upd_same]; exact wld.cellPut (hk.cell (h.here i hi) (fun h => h)) rfl
      · rw [upd_other _ _ e]; exact wld.cellOff (hk.cell (h.here i hi) (fun h => h)) (fun h => e h.symm) _
    exact (put4n_own _ wb n _ _ _ _).cell h1 ne
  · intro i hi
    by_cases e : i = n
    · subst e; rw [upd_same]; exact P.1
    · rw [upd_other _ _ e]; exact put4n_miss (ks.cell (hk.cell (h.c0 i hi) (fun h => h)) hne) (by omega) (by omega) (by omega) (by omega)
  · intro i hi
    by_cases e : i = n
    · subst e; rw [upd_same]; exact P.2.1
    · rw [upd_other _ _ e]; exact put4n_miss (ks.cell (hk.cell (h.c1 i hi) (fun h => h)) hne) (by omega) (by omega) (by omega) (by omega)
  · intro i hi
    by_cases e : i = n
    · subst e; rw [upd_same]; exact P.2.2.1
    · rw [upd_other _ _ e]; exact put4n_miss (ks.cell (hk.cell (h.c2 i hi) (fun h => h)) hne) (by omega) (by omega) (by omega) (by omega)
  · intro i hi
    by_cases e : i = n
    · subst e; rw [upd_same]; exact P.2.2.2
    · rw [upd_other _ _ e]; exact put4n_miss (ks.cell (hk.cell (h.c3 i hi) (fun h => h)) hne) (by omega) (by omega) (by omega) (by omega)
  · intro i
    rw [frozen_put4n, frozen_set]
    exact hk.free (h.fh i) h.lth (fun h => h)
  · intro i
    rw [frozen_put4n, frozen_set]
    exact hk.free (h.fw i) h.ltw (fun h => h)

/-- the box of one call -/
structure Box (H : Nat) (W : World) (kind who ses oa ob : Int) : Prop where
  o0 : W.cell? ⟨H, 0, none⟩ = some (.int .i64 kind)
  o1 : W.cell? ⟨H, 1, none⟩ = some (.int .i64 who)
  o2 : W.cell? ⟨H, 2, none⟩ = some (.int .i64 ses)
  o3 : W.cell? ⟨H, 3, none⟩ = some (.int .i64 oa)
  o4 : W.cell? ⟨H, 4, none⟩ = some (.int .i64 ob)
  lt : H < W.heap.size

theorem Box.kept {H : Nat} {W W' : World} {kind who ses oa ob : Int} {F : Nat → Prop} (h : Box H W kind who ses oa ob) (hk : KeptW F W W') (hF : ¬ F H) : Box H W' kind who ses oa ob :=
  ⟨hk.cell h.o0 hF, hk.cell h.o1 hF, hk.cell h.o2 hF, hk.cell h.o3 hF, hk.cell h.o4 hF, Nat.lt_of_lt_of_le h.lt hk.size⟩

theorem Box.start (W : World) (kind who ses oa ob : Int) : Box W.heap.size (W.alloc (.cells #[.int .i64 kind, .int .i64 who, .int .i64 ses, .int .i64 oa, .int .i64 ob] 45)) kind who ses oa ob :=
  ⟨wld.cellN rfl rfl, wld.cellN rfl rfl, wld.cellN rfl rfl, wld.cellN rfl rfl, wld.cellN rfl rfl, by simp⟩
end Go.Proofs.Ytonjoboilpoamaa.scr
