/- TableScript: contracts of both tables over one document. -/
import Derived.Test.YtonjoboilpoamaaS1
import Derived.Test.YtonjoboilpoamaaWInvWords
namespace Go.Proofs.Ytonjoboilpoamaa.scr
set_option linter.unusedVariables false
set_option linter.unusedSimpArgs false
open Go.RowKit Go.Proofs.Ytonjoboilpoamaa.tab Go.Proofs.Ytonjoboilpoamaa.imap Go.Proofs.Ytonjoboilpoamaa.PTableScript Go.Proofs.YtonjoboilpoamaaW.PrintWords

abbrev KeptW := @Go.Proofs.Ytonjoboilpoamaa.wld.Kept

structure Doc where
  there : Bool
  ns : Int
  L : Int
  l : List S88

def Doc.add (d : Doc) (s x : Int) : Doc × Int × Int × Int :=
  if d.there = true then (if s < 0 ∨ d.ns ≤ s then (d, 0, 0, 2) else ({ d with l := d.l ++ [⟨s, (cnt s d.l : Int) + 1, x, false⟩] }, d.L, (cnt s d.l : Int) + 1, 0)) else (d, 0, 0, 1)
def Doc.place (d : Doc) (s x y : Int) : Int × Int := if d.there = true then placeR d.ns d.L d.l s x y else (0, 1)
def Doc.findX (d : Doc) (s x y : Int) : Int := if (d.place s x y).2 = 0 then (rd_T88 d.l (d.place s x y).1).f2 else 0
def Doc.ends (d : Doc) (s x y : Int) : Doc × Int :=
  if (d.place s x y).2 = 0 then ({ d with l := d.l.set (d.place s x y).1.toNat ⟨(rd_T88 d.l (d.place s x y).1).f0, (rd_T88 d.l (d.place s x y).1).f1, (rd_T88 d.l (d.place s x y).1).f2, true⟩ }, 0) else (d, (d.place s x y).2)
def Doc.turn (d : Doc) : Doc := if d.there = true then { d with L := d.L + 1, l := [] } else d

abbrev Tp := Option (Nat × Tb)
def tp : Tp → Value
  | none => .pointer none
  | some (tb, _) => .pointer (some ⟨tb, 0, none⟩)
def feet : Tp → Nat → Prop
  | none, _ => False
  | some (tb, T), b => foot tb T b
def Tied (t : Tp) (d : Doc) : Prop := match t with
  | none => d.there = false ∧ d.L = 0 ∧ d.l = []
  | some (_, T) => d.there = true ∧ Rl T d.ns d.L d.l
def Stands (w : World) (t : Tp) : Prop := match t with
  | none => True
  | some (tb, T) => TabAt w tb T

theorem Stands.kept {w w' : World} {t : Tp} {F : Nat → Prop} (h : Stands w t) (k : KeptW F w w') (hF : ∀ b, feet t b → ¬ F b) : Stands w' t := by
  cases t with
  | none => trivial
  | some x => exact TabAt.kept h k hF

theorem Stands.lt {w : World} {t : Tp} (h : Stands w t) {b : Nat} (hb : feet t b) : b < w.heap.size := by
  cases t with
  | none => exact hb.elim
  | some x => exact TabAt.lt h hb

theorem t_add (t : Tp) (d : Doc) (s x : Int) (w : World) (hS : Stands w t) (hT : Tied t d) (hl : d.l.length < 4398046511104) :
    Calls Try.prog 15 #[tp t, .int .i64 s, .int .i64 x] w fun e w' => e = .returned (.tuple #[.agg #[.int .i64 (d.add s x).2.1, .int .i64 (d.add s x).2.2.1], .int .i64 (d.add s x).2.2.2]) ∧
      ∃ t', Stands w' t' ∧ Tied t' (d.add s x).1 ∧ tp t' = tp t ∧ feet t' = feet t ∧ KeptW (feet t) w w' := by
  cases t with
  | none =>
    obtain ⟨h1, h2, h3⟩ := hT
    refine (add_nil s _ w).mono fun e w' ⟨he, hb⟩ => ?_
    unfold Doc.add
    rw [if_neg (by simp [h1])]
    exact ⟨he, none, trivial, ⟨h1, h2, h3⟩, rfl, rfl, wld.Kept.of_below hb _⟩
  | some y =>
    obtain ⟨tb, T⟩ := y
    obtain ⟨h1, R⟩ := hT
    refine (add_all tb T s (.int .i64 x) w hS (fun j hj => by rw [R.g j hj]; have := cnt_le (j : Int) d.l; omega)).mono fun e w' ⟨he, ht, hk⟩ => ?_
    unfold Doc.add
    rw [if_pos h1]
    have hns := R.ns
    by_cases c : s < 0 ∨ (T.ns : Int) ≤ s
    · rw [if_pos (by omega)]
      simp only [Tb.addR, Tb.addS] at he ht
      rw [if_pos c] at he ht
      exact ⟨he, some (tb, T), ht, ⟨h1, R⟩, rfl, rfl, hk⟩
    · rw [if_neg (by omega)]
      simp only [Tb.addR, Tb.addS] at he ht
      rw [if_neg c] at he ht
      obtain ⟨n, rfl⟩ := Int.eq_ofNat_of_zero_le (by omega : 0 ≤ s)
      have en : ((n : Int)).toNat = n := by omega
      rw [en] at he ht
      rw [R.g n (by omega), ← R.life] at he
      exact ⟨he, some (tb, T.add n (.int .i64 x)), ht, ⟨h1, R.add n (by omega) x⟩, rfl, rfl, hk⟩

theorem rd_nat (l : List S88) (i : Nat) (h : i < l.length) : rd_T88 l (i : Int) = l[i] := rd_get l i h

theorem Tied.find {tb : Nat} {T : Tb} {d : Doc} (h : Tied (some (tb, T)) d) (s x y : Int) : T.find (.int .i64 0) s x y = (.int .i64 (d.findX s x y), (d.place s x y).2) := by
  obtain ⟨h1, R⟩ := h
  obtain ⟨e1, e2, e3⟩ := R.find (.int .i64 0) s x y
  have hp : d.place s x y = placeR d.ns d.L d.l s x y := by unfold Doc.place; rw [if_pos h1]
  apply Prod.ext
  · unfold Doc.findX
    rw [hp]
    by_cases c : (placeR d.ns d.L d.l s x y).2 = 0
    · rw [if_pos c]
      obtain ⟨i, n, hi, h2, _, _, _, _, _, h3, _⟩ := e3 c
      rw [h3, h2, rd_get d.l i hi]
    · rw [if_neg c]
      exact e2 c
  · rw [hp]; exact e1.symm

/-- what Place finds is there -/
theorem Tied.place {s x y : Int} {t : Tp} {d : Doc} (h : Tied t d) (hp : (d.place s x y).2 = 0) : ∃ i : Nat, i < d.l.length ∧ (d.place s x y).1 = i := by
  cases t with
  | none =>
    obtain ⟨h1, h2, h3⟩ := h
    have : d.place s x y = (0, 1) := by unfold Doc.place; rw [if_neg (by simp [h1])]
    rw [this] at hp
    exact absurd hp (by decide)
  | some z =>
    obtain ⟨tb, T⟩ := z
    obtain ⟨h1, R⟩ := h
    have hq : d.place s x y = placeR d.ns d.L d.l s x y := by unfold Doc.place; rw [if_pos h1]
    rw [hq] at hp ⊢
    obtain ⟨_, _, e3⟩ := R.find (.int .i64 0) s x y
    obtain ⟨i, n, hi, h2, _⟩ := e3 hp
    exact ⟨i, hi, h2⟩

theorem t_find (t : Tp) (d : Doc) (s x y : Int) (w : World) (hS : Stands w t) (hT : Tied t d) :
    Calls Try.prog 19 #[tp t, .int .i64 s, .agg #[.int .i64 x, .int .i64 y]] w fun e w' => e = .returned (.tuple #[.int .i64 (d.findX s x y), .int .i64 (d.place s x y).2]) ∧ Below w.heap.size w w' := by
  cases t with
  | none =>
    obtain ⟨h1, h2, h3⟩ := hT
    refine (find_nil s x y w).mono fun e w' ⟨he, hb⟩ => ?_
    have hp : d.place s x y = (0, 1) := by unfold Doc.place; rw [if_neg (by simp [h1])]
    unfold Doc.findX
    rw [hp]
    exact ⟨he, hb⟩
  | some z =>
    obtain ⟨tb, T⟩ := z
    refine (find_any tb T s x y w hS).mono fun e w' ⟨he, hb⟩ => ?_
    rw [hT.find] at he
    exact ⟨he, hb⟩

theorem t_end (t : Tp) (d : Doc) (s x y : Int) (w : World) (hS : Stands w t) (hT : Tied t d) :
    Calls Try.prog 16 #[tp t, .int .i64 s, .agg #[.int .i64 x, .int .i64 y]] w fun e w' => e = .returned (.int .i64 (d.ends s x y).2) ∧
      ∃ t', Stands w' t' ∧ Tied t' (d.ends s x y).1 ∧ tp t' = tp t ∧ feet t' = feet t ∧ KeptW (feet t) w w' := by
  cases t with
  | none =>
    obtain ⟨h1, h2, h3⟩ := hT
    refine (end_nil s x y w).mono fun e w' ⟨he, hb⟩ => ?_
    have hp : d.place s x y = (0, 1) := by unfold Doc.place; rw [if_neg (by simp [h1])]
    unfold Doc.ends
    rw [hp, if_neg (by decide)]
    exact ⟨he, none, trivial, ⟨h1, h2, h3⟩, rfl, rfl, wld.Kept.of_below hb _⟩
  | some z =>
    obtain ⟨tb, T⟩ := z
    refine (end_all tb T s x y w hS).mono fun e w' ⟨he, ht, hk⟩ => ?_
    have hf := hT.find s x y
    obtain ⟨h1, R⟩ := hT
    obtain ⟨e1, e2, e3⟩ := R.find (.int .i64 0) s x y
    have hp : d.place s x y = placeR d.ns d.L d.l s x y := by unfold Doc.place; rw [if_pos h1]
    simp only [Tb.endS, Tb.endR, hf] at he ht
    unfold Doc.ends
    by_cases c : (d.place s x y).2 = 0
    · rw [if_pos c]
      rw [if_pos c] at ht
      rw [c] at he
      rw [hp] at c
      obtain ⟨i, n, hi, h2, rfl, h3, h4, h5, h6, h7, h8⟩ := e3 c
      have en : ((n : Int)).toNat = n := by omega
      have ei : ((i : Int)).toNat = i := by omega
      rw [en] at ht
      refine ⟨he, some (tb, T.drop n y), ht, ⟨h1, ?_⟩, rfl, rfl, hk⟩
      rw [hp, h2, ei, rd_get d.l i hi]
      exact R.drop n i hi h3 y h4 h5 h6 h8 (fun v hv => (hS.maps n h3).pos hv) _
    · rw [if_neg c]
      rw [if_neg c] at ht
      exact ⟨he, some (tb, T), ht, ⟨h1, R⟩, rfl, rfl, hk⟩

theorem t_open (t : Tp) (d : Doc) (w : World) (hS : Stands w t) (hT : Tied t d) (hl : d.l.length < 4398046511104) :
    Calls Try.prog 18 #[tp t] w fun e w' => e = .returned (.int .i64 (openOf d.l)) ∧ w = w' := by
  cases t with
  | none =>
    obtain ⟨h1, h2, h3⟩ := hT
    rw [h3]
    exact open_nil w
  | some z =>
    obtain ⟨tb, T⟩ := z
    obtain ⟨h1, R⟩ := hT
    have := openOf_le d.l
    rw [← R.sum]
    exact open_any tb T w hS (by rw [R.sum]; omega)

theorem t_life (t : Tp) (d : Doc) (w : World) (hS : Stands w t) (hT : Tied t d) :
    Calls Try.prog 23 #[tp t] w fun e w' => e = .returned (.int .i64 d.L) ∧ w = w' := by
  cases t with
  | none =>
    obtain ⟨h1, h2, h3⟩ := hT
    rw [h2]
    exact life_nil w
  | some z =>
    obtain ⟨tb, T⟩ := z
    obtain ⟨h1, R⟩ := hT
    rw [R.life]
    exact life_some tb T.life w (wld.cell_of hS.blkT (by simp))

theorem t_turn (t : Tp) (d : Doc) (w : World) (hS : Stands w t) (hT : Tied t d) (hL : d.L < 9223372036854775807) :
    Calls Try.prog 17 #[tp t] w fun e w' => e = .returned (.tuple #[]) ∧
      ∃ t', Stands w' t' ∧ Tied t' d.turn ∧ tp t' = tp t ∧ (∀ b, feet t' b → feet t b ∨ w.heap.size ≤ b) ∧ KeptW (feet t) w w' := by
  cases t with
  | none =>
    obtain ⟨h1, h2, h3⟩ := hT
    refine (turn_nil w).mono fun e w' ⟨he, hb⟩ => ?_
    subst hb
    unfold Doc.turn
    rw [if_neg (by simp [h1])]
    exact ⟨he, none, trivial, ⟨h1, h2, h3⟩, rfl, fun b hb => .inl hb, wld.Kept.refl _ _⟩
  | some z =>
    obtain ⟨tb, T⟩ := z
    obtain ⟨h1, R⟩ := hT
    refine (turn_all tb T w hS (by rw [← R.life]; exact hL)).mono fun e w' ⟨he, ht, hk, hf⟩ => ?_
    unfold Doc.turn
    rw [if_pos h1]
    have hE := Rl.empty 0 0 T.ns (T.life + 1) (fun _ => 0) (fresh w.heap.size T.gb T.ns (T.life + 1)) rfl rfl rfl rfl rfl
    refine ⟨he, some (tb, _), ht, ⟨h1, ?_⟩, rfl, hf, hk⟩
    rw [R.life, R.ns]
    exact hE
end Go.Proofs.Ytonjoboilpoamaa.scr
