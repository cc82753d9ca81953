/- TableScript: the whole walk. -/
import Derived.Test.YtonjoboilpoamaaS5
import Derived.Test.YtonjoboilpoamaaS6
import Derived.Test.YtonjoboilpoamaaS7
import Derived.Test.YtonjoboilpoamaaS8
import Derived.Test.YtonjoboilpoamaaH1
namespace Go.Proofs.Ytonjoboilpoamaa.scr
set_option linter.unusedVariables false
set_option linter.unusedSimpArgs false
open Go.RowKit Go.Proofs.Ytonjoboilpoamaa.tab Go.Proofs.Ytonjoboilpoamaa.imap Go.Proofs.Ytonjoboilpoamaa.PTableScript Go.Proofs.Ytonjoboilpoamaa.holds

theorem called_any (w0 w : World) (hB : Below w0.heap.size w0 w) (t : Tp) (d : Doc) (v : Value) (k : Nat) (hA : At w0 w t d v k) (hk : k < 4398046511104) (kind who ses oa ob : Int) :
    Calls Try.prog 21 #[tp t, docV d v, .agg #[.int .i64 kind, .int .i64 who, .int .i64 ses, .int .i64 oa, .int .i64 ob]] w (CallPost w0 w t v k) := by
  by_cases e1 : kind = 1
  · subst e1; exact called_add w0 w hB t d v k hA hk who ses oa ob
  by_cases e2 : kind = 2
  · subst e2; exact called_find w0 w hB t d v k hA hk who ses oa ob
  by_cases e3 : kind = 3
  · subst e3; exact called_end w0 w hB t d v k hA hk who ses oa ob
  by_cases e4 : kind = 4
  · subst e4; exact called_open w0 w hB t d v k hA hk who ses oa ob
  by_cases e5 : kind = 5
  · subst e5; exact called_life w0 w hB t d v k hA hk who ses oa ob
  by_cases e6 : kind = 6
  · subst e6; exact called_turn w0 w hB t d v k hA hk who ses oa ob
  exact called_none w0 w hB t d v k hA kind (by simpa using e1) (by simpa using e2) (by simpa using e3) (by simpa using e4) (by simpa using e5) (by simpa using e6) who ses oa ob

/-- three tables of each kind, in the two arrays -/
structure SInv (w0 : World) (hb wb k : Nat) (t : Nat → Tp) (d : Nat → Doc) (v : Nat → Value) (wr : World) : Prop where
  at_ : ∀ i, i < 3 → At w0 wr (t i) (d i) (v i) k
  apart : ∀ i j, i < 3 → j < 3 → i ≠ j → ∀ b, own (t i) (v i) b → ¬ own (t j) (v j) b
  away : ∀ i, i < 3 → ∀ b, own (t i) (v i) b → b ≠ hb ∧ b ≠ wb
  here : ∀ i, i < 3 → wr.cell? ⟨hb, i, none⟩ = some (tp (t i))
  c0 : ∀ i, i < 3 → wr.cell? ⟨wb, i * 4, none⟩ = some (.bool (d i).there)
  c1 : ∀ i, i < 3 → wr.cell? ⟨wb, i * 4 + 1, none⟩ = some (.int .i64 (d i).ns)
  c2 : ∀ i, i < 3 → wr.cell? ⟨wb, i * 4 + 2, none⟩ = some (.int .i64 (d i).L)
  c3 : ∀ i, i < 3 → wr.cell? ⟨wb, i * 4 + 3, none⟩ = some (v i)
  fh : ∀ i, wr.frozen? ⟨hb, i, none⟩ = false
  fw : ∀ i, wr.frozen? ⟨wb, i, none⟩ = false
  below : Below w0.heap.size w0 wr
  oh : w0.heap.size ≤ hb
  ow : w0.heap.size ≤ wb
  ne : hb ≠ wb

theorem At.le {w0 w : World} {t : Tp} {d : Doc} {v : Value} {k k' : Nat} (h : At w0 w t d v k) (hk : k ≤ k') : At w0 w t d v k' :=
  ⟨h.stands, h.tied, h.row, h.feet, Nat.le_trans h.len hk, h.low, by have := h.high; omega⟩

theorem At.nil (w0 w : World) (k : Nat) : At w0 w none ⟨false, 0, 0, []⟩ (.slice none 0 0) k :=
  ⟨trivial, ⟨rfl, rfl, rfl⟩, Go.Proofs.YtonjoboilpoamaaW.PrintWords.Kd.R_nil _ _ _ _ _, fun b hb => hb.elim, Nat.zero_le _, Int.le_refl _, by simp; omega⟩

theorem SInv.lth {w0 wr : World} {hb wb k : Nat} {t : Nat → Tp} {d : Nat → Doc} {v : Nat → Value} (h : SInv w0 hb wb k t d v wr) : hb < wr.heap.size := World.block_lt_of_cell? wr _ (h.here 0 (by omega))
theorem SInv.ltw {w0 wr : World} {hb wb k : Nat} {t : Nat → Tp} {d : Nat → Doc} {v : Nat → Value} (h : SInv w0 hb wb k t d v wr) : wb < wr.heap.size := World.block_lt_of_cell? wr _ (h.c0 0 (by omega))
theorem At.own_lt {w0 w : World} {t : Tp} {d : Doc} {v : Value} {k : Nat} (h : At w0 w t d v k) {b : Nat} (hb : own t v b) : b < w.heap.size := hb.elim h.stands.lt h.row.lt
theorem At.own_old {w0 w : World} {t : Tp} {d : Doc} {v : Value} {k : Nat} (h : At w0 w t d v k) {b : Nat} (hb : own t v b) : w0.heap.size ≤ b := hb.elim (h.feet b) h.row.old

/-- what keeps all three keeps the rest -/
theorem SInv.kept {w0 wr wx : World} {hb wb k : Nat} {t : Nat → Tp} {d : Nat → Doc} {v : Nat → Value} (h : SInv w0 hb wb k t d v wr) (hk : KeptW (fun _ => False) wr wx) {k' : Nat} (hkk : k ≤ k') : SInv w0 hb wb k' t d v wx :=
  ⟨fun i hi => ((h.at_ i hi).kept hk (fun _ _ h => h)).le hkk, h.apart, h.away, fun i hi => hk.cell (h.here i hi) (fun h => h), fun i hi => hk.cell (h.c0 i hi) (fun h => h), fun i hi => hk.cell (h.c1 i hi) (fun h => h),
    fun i hi => hk.cell (h.c2 i hi) (fun h => h), fun i hi => hk.cell (h.c3 i hi) (fun h => h), fun i => hk.free (h.fh i) h.lth (fun h => h), fun i => hk.free (h.fw i) h.ltw (fun h => h),
    h.below.trans (hk.to_below (fun _ _ h => h) h.below.size), h.oh, h.ow, h.ne⟩

def upd {α : Type} (f : Nat → α) (n : Nat) (x : α) : Nat → α := fun j => if j = n then x else f j
theorem upd_same {α : Type} (f : Nat → α) (n : Nat) (x : α) : upd f n x n = x := if_pos rfl
theorem upd_other {α : Type} (f : Nat → α) {n j : Nat} (x : α) (h : j ≠ n) : upd f n x j = f j := if_neg h

/-- the n-th table has gone on in place -/
theorem SInv.step {w0 wr wx : World} {hb wb k : Nat} {t : Nat → Tp} {d : Nat → Doc} {v : Nat → Value} (h : SInv w0 hb wb k t d v wr) (n : Nat) (hn : n < 3) {t' : Tp} {d' : Doc} {v' : Value} (hk : KeptW (own (t n) (v n)) wr wx)
    (hA : At w0 wx t' d' v' (k + 1)) (ho : ∀ b, own t' v' b → own (t n) (v n) b ∨ wr.heap.size ≤ b) (wz : World) (hz : KeptW (fun b => b = hb ∨ b = wb) wx wz)
    (hh : ∀ i, i < 3 → wz.cell? ⟨hb, i, none⟩ = some (tp (upd t n t' i))) (z0 : ∀ i, i < 3 → wz.cell? ⟨wb, i * 4, none⟩ = some (.bool (upd d n d' i).there)) (z1 : ∀ i, i < 3 → wz.cell? ⟨wb, i * 4 + 1, none⟩ = some (.int .i64 (upd d n d' i).ns))
    (z2 : ∀ i, i < 3 → wz.cell? ⟨wb, i * 4 + 2, none⟩ = some (.int .i64 (upd d n d' i).L)) (z3 : ∀ i, i < 3 → wz.cell? ⟨wb, i * 4 + 3, none⟩ = some (upd v n v' i)) (fh : ∀ i, wz.frozen? ⟨hb, i, none⟩ = false) (fw : ∀ i, wz.frozen? ⟨wb, i, none⟩ = false) :
    SInv w0 hb wb (k + 1) (upd t n t') (upd d n d') (upd v n v') wz := by
  have away' : ∀ b, own t' v' b → b ≠ hb ∧ b ≠ wb := fun b hb' => by
    rcases ho b hb' with h1 | h1
    · exact h.away n hn b h1
    · have := h.lth; have := h.ltw; constructor <;> omega
  refine ⟨?_, ?_, ?_, hh, z0, z1, z2, z3, fh, fw, ?_, h.oh, h.ow, h.ne⟩
  · intro i hi
    by_cases e : i = n
    · subst e
      rw [upd_same, upd_same, upd_same]
      exact hA.kept hz (fun b hb' hx => by have := away' b hb'; rcases hx with h1 | h1; exact this.1 h1; exact this.2 h1)
    · rw [upd_other _ _ e, upd_other _ _ e, upd_other _ _ e]
      exact (((h.at_ i hi).kept hk (fun b h1 h2 => h.apart i n hi hn e b h1 h2)).kept hz (fun b hb' hx => by have := h.away i hi b hb'; rcases hx with h1 | h1; exact this.1 h1; exact this.2 h1)).le (Nat.le_succ k)
  · intro i j hi hj hne b h1 h2
    by_cases ei : i = n
    · subst ei
      have ej : j ≠ i := fun h => hne h.symm
      rw [upd_same, upd_same] at h1
      rw [upd_other _ _ ej, upd_other _ _ ej] at h2
      rcases ho b h1 with h3 | h3
      · exact h.apart i j hi hj hne b h3 h2
      · have := (h.at_ j hj).own_lt h2; omega
    · rw [upd_other _ _ ei, upd_other _ _ ei] at h1
      by_cases ej : j = n
      · subst ej
        rw [upd_same, upd_same] at h2
        rcases ho b h2 with h3 | h3
        · exact h.apart i j hi hj hne b h1 h3
        · have := (h.at_ i hi).own_lt h1; omega
      · rw [upd_other _ _ ej, upd_other _ _ ej] at h2
        exact h.apart i j hi hj hne b h1 h2
  · intro i hi b hb'
    by_cases e : i = n
    · subst e
      rw [upd_same, upd_same] at hb'
      exact away' b hb'
    · rw [upd_other _ _ e, upd_other _ _ e] at hb'
      exact h.away i hi b hb'
  · have k1 : Below w0.heap.size wr wx := hk.to_below (fun b hb' h1 => by have := (h.at_ n hn).own_old h1; omega) h.below.size
    have k2 : Below w0.heap.size wx wz := hz.to_below (fun b hb' h1 => by have := h.oh; have := h.ow; omega) (Nat.le_trans h.below.size hk.size)
    exact (h.below.trans k1).trans k2
end Go.Proofs.Ytonjoboilpoamaa.scr
