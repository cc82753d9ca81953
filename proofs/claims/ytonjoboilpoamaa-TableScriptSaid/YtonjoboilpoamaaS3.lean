/- TableScript: contracts of the document's table over one document. -/
import Derived.Test.YtonjoboilpoamaaS2
import Derived.Test.YtonjoboilpoamaaH0
namespace Go.Proofs.Ytonjoboilpoamaa.scr
set_option linter.unusedVariables false
set_option linter.unusedSimpArgs false
open Go.RowKit Go.Proofs.Ytonjoboilpoamaa.tab Go.Proofs.Ytonjoboilpoamaa.imap Go.Proofs.Ytonjoboilpoamaa.PTableScript Go.Proofs.YtonjoboilpoamaaW.PrintWords

/-- the document's list lies in w, from base on -/
def Row (w : World) (base : Nat) (v : Value) (l : List S88) : Prop := Kd.R k88 88 w base (fun b => v.ownBlock = some b) v l

theorem flat88 {w : World} {base : Nat} {ok1 ok2 : Nat → Prop} {x : S88} {cs : List Value} (h : k88.M w base ok1 x cs) : k88.M w base ok2 x cs := by
  rw [k88_openM h]
  exact k88_mkM w base ok2 x

theorem Row.of {w : World} {base : Nat} {ok : Nat → Prop} {v : Value} {l : List S88} (h : Kd.R k88 88 w base ok v l) : Row w base v l :=
  Kd.R_flat flat88 h (fun k hk _ => hk)

theorem Row.kept {w w' : World} {base : Nat} {v : Value} {l : List S88} {F : Nat → Prop} (h : Row w base v l) (hk : KeptW F w w') (hne : ∀ b, v.ownBlock = some b → ¬ F b) : Row w' base v l :=
  Kd.R_step h (fun k ho hlt => hk.block k hlt (hne k ho))

theorem Row.lt {w : World} {base : Nat} {v : Value} {l : List S88} (h : Row w base v l) {b : Nat} (hb : v.ownBlock = some b) : b < w.heap.size := Kd.R_lt h b hb
theorem Row.old {w : World} {base : Nat} {v : Value} {l : List S88} (h : Row w base v l) {b : Nat} (hb : v.ownBlock = some b) : base ≤ b := Kd.R_base h b hb
theorem Row.shape {w : World} {base : Nat} {v : Value} {l : List S88} (h : Row w base v l) : ∃ A c, v = .slice A l.length c ∧ l.length ≤ c ∧ Kd.C k88 w A l.length l := Kd.R_reads h

/-- feet and rows lie apart -/
theorem Row.apart {w : World} {base : Nat} {v : Value} {l : List S88} {t : Tp} (h : Row w base v l) (hS : Stands w t) {b : Nat} (hb : feet t b) : ¬ v.ownBlock = some b := by
  intro e
  obtain ⟨cells, hc⟩ := Kd.R_typed h b e
  cases t with
  | none => exact hb
  | some z => exact holds.foot_ne hS hc (by decide) (by decide) (by decide) b hb rfl

/-- the other frame, told in ours -/
theorem frame {w0 w w' : World} {P : Nat → Prop} (hB : Below w0.heap.size w0 w) (hB' : Below w0.heap.size w0 w') (hk : Go.Proofs.YtonjoboilpoamaaW.PrintWords.Kept w w' P) : KeptW P w w' :=
  ⟨hB'.os.trans hB.os.symm, hB'.tape.trans hB.tape.symm, hB'.output.trans hB.output.symm, hk.1, hk.2⟩

def docV (d : Doc) (v : Value) : Value := .agg #[.bool d.there, .int .i64 d.ns, .int .i64 d.L, v]

theorem new_some (a b : Int) : cloisterref18_New.f a b = some (if a < 0 ∨ 32 < a ∨ b < 1 ∨ 4611686018427387904 < b then (false, 0, 0, [], 2) else (true, a, b, [], 0)) := by
  unfold cloisterref18_New.f
  by_cases h1 : a < 0
  · rw [if_pos h1, if_pos (.inl h1)]
  rw [if_neg h1]
  by_cases h2 : a > 32
  · rw [if_pos h2, if_pos (.inr (.inl h2))]
  rw [if_neg h2]
  by_cases h3 : b < 1
  · rw [if_pos h3, if_pos (.inr (.inr (.inl h3)))]
  rw [if_neg h3]
  by_cases h4 : b > 4611686018427387904
  · rw [if_pos h4, if_pos (.inr (.inr (.inr h4)))]
  rw [if_neg h4, if_neg (by omega)]

theorem r_add (d : Doc) (v : Value) (s x : Int) (w0 w : World) (hB : Below w0.heap.size w0 w) (hR : Row w w0.heap.size v d.l) (hl : d.l.length < 4398046511104) :
    Calls Try.prog 32 #[docV d v, .int .i64 s, .int .i64 x] w fun e w' => ∃ v', e = .returned (.tuple #[docV (d.add s x).1 v', .int .i64 (d.add s x).2.1, .int .i64 (d.add s x).2.2.1, .int .i64 (d.add s x).2.2.2]) ∧
      Row w' w0.heap.size v' (d.add s x).1.l ∧ (∀ b, v'.ownBlock = some b → v.ownBlock = some b ∨ w.heap.size ≤ b) ∧ KeptW (fun b => v.ownBlock = some b) w w' := by
  obtain ⟨there, ns, L, l⟩ := d
  have hf : cloisterref18_Table_Add.f (l.length + 1) there ns L l s x =
      some ((Doc.add ⟨there, ns, L, l⟩ s x).1.there, (Doc.add ⟨there, ns, L, l⟩ s x).1.ns, (Doc.add ⟨there, ns, L, l⟩ s x).1.L, (Doc.add ⟨there, ns, L, l⟩ s x).1.l, (Doc.add ⟨there, ns, L, l⟩ s x).2.1, (Doc.add ⟨there, ns, L, l⟩ s x).2.2.1, (Doc.add ⟨there, ns, L, l⟩ s x).2.2.2) := by
    cases there with
    | false => rfl
    | true =>
      rw [add_eq ns L l s x hl _ (by omega)]
      unfold Doc.add
      simp only [if_true]
      split <;> rfl
  refine (cloisterref18_Table_Add.calls _ there ns L _ v l s x _ _ _ _ _ _ _ w0 w hB hR hf).mono fun e w' ⟨v', he, hr, hb, hk⟩ => ?_
  exact ⟨v', he, Row.of hr, fun b hb => hr.1 b hb, frame hB hb hk⟩

theorem place_some (d : Doc) (s x y : Int) (hl : d.l.length < 4398046511104) : cloisterref18_Table_Place.f (2 * d.l.length + 4) d.there d.ns d.L d.l s x y = some (d.place s x y) := by
  obtain ⟨there, ns, L, l⟩ := d
  cases there with
  | false => rfl
  | true =>
    show cloisterref18_Table_Place.f _ true ns L l s x y = _
    rw [place_eq ns L l s x y (by simp at hl; omega) _ (by simp)]
    rfl

theorem r_place (d : Doc) (v : Value) (s x y : Int) (w0 w : World) (hR : Row w w0.heap.size v d.l) (hl : d.l.length < 4398046511104) :
    Calls Try.prog 33 #[docV d v, .int .i64 s, .int .i64 x, .int .i64 y] w fun e w' => e = .returned (.tuple #[.int .i64 (d.place s x y).1, .int .i64 (d.place s x y).2]) ∧ Below w.heap.size w w' := by
  obtain ⟨A, c, rfl, hc, hC⟩ := hR.shape
  exact cloisterref18_Table_Place.calls _ d.there d.ns d.L A c d.l s x y _ _ w hC hc (place_some d s x y hl)

theorem r_end (t : Tp) (d : Doc) (hT : Tied t d) (v : Value) (s x y : Int) (w0 w : World) (hB : Below w0.heap.size w0 w) (hR : Row w w0.heap.size v d.l) (hl : d.l.length < 4398046511104) :
    Calls Try.prog 34 #[docV d v, .int .i64 s, .int .i64 x, .int .i64 y] w fun e w' => ∃ v', e = .returned (.tuple #[docV (d.ends s x y).1 v', .int .i64 (d.ends s x y).2]) ∧
      Row w' w0.heap.size v' (d.ends s x y).1.l ∧ (∀ b, v'.ownBlock = some b → v.ownBlock = some b ∨ w.heap.size ≤ b) ∧ KeptW (fun b => v.ownBlock = some b) w w' := by
  have hf : cloisterref18_Table_End.f (2 * d.l.length + 4) d.there d.ns d.L d.l s x y =
      some ((d.ends s x y).1.there, (d.ends s x y).1.ns, (d.ends s x y).1.L, (d.ends s x y).1.l, (d.ends s x y).2) := by
    obtain ⟨there, ns, L, l⟩ := d
    cases there with
    | false => rfl
    | true =>
      show cloisterref18_Table_End.f _ true ns L l s x y = _
      simp only at hl
      rw [end_eq ns L l s x y hl _ (by simp)]
      have hp : Doc.place ⟨true, ns, L, l⟩ s x y = placeR ns L l s x y := rfl
      unfold Doc.ends
      rw [hp]
      by_cases c : (placeR ns L l s x y).2 = 0
      · rw [if_pos c, if_pos c]
        cases t with
        | none => exact absurd hT.1 (by simp)
        | some z =>
          obtain ⟨tb, T⟩ := z
          obtain ⟨_, R⟩ := hT
          obtain ⟨_, _, e3⟩ := R.find (.int .i64 0) s x y
          obtain ⟨i, n, hi, h2, _⟩ := e3 c
          simp only at hi h2
          rw [h2, if_pos (by omega), if_pos (by omega)]
      · rw [if_neg c, if_neg c]
  refine (cloisterref18_Table_End.calls _ d.there d.ns d.L _ v d.l s x y _ _ _ _ _ w0 w hB hR hf).mono fun e w' ⟨v', he, hr, hb, hk⟩ => ?_
  exact ⟨v', he, Row.of hr, fun b hb => hr.1 b hb, frame hB hb hk⟩

theorem r_open (d : Doc) (v : Value) (w0 w : World) (hR : Row w w0.heap.size v d.l) (hl : d.l.length < 4398046511104) :
    Calls Try.prog 22 #[docV d v] w fun e w' => e = .returned (.int .i64 (openOf d.l)) ∧ Below w.heap.size w w' := by
  obtain ⟨A, c, rfl, hc, hC⟩ := hR.shape
  exact cloisterref18_Table_Open.calls (d.l.length + 1) d.there d.ns d.L A c d.l _ w hC hc (open_eq d.there d.ns d.L d.l (by omega) _ (by omega))

theorem r_turn (d : Doc) (v : Value) (w0 w : World) (hB : Below w0.heap.size w0 w) (hR : Row w w0.heap.size v d.l) (h0 : 0 ≤ d.L) (hL : d.L < 9223372036854775807) :
    Calls Try.prog 35 #[docV d v] w fun e w' => ∃ v', e = .returned (docV d.turn v') ∧
      Row w' w0.heap.size v' d.turn.l ∧ (∀ b, v'.ownBlock = some b → v.ownBlock = some b ∨ w.heap.size ≤ b) ∧ KeptW (fun b => v.ownBlock = some b) w w' := by
  have hf : cloisterref18_Table_Turn.f d.there d.ns d.L d.l = some (d.turn.there, d.turn.ns, d.turn.L, d.turn.l) := by
    obtain ⟨there, ns, L, l⟩ := d
    cases there with
    | false => rfl
    | true =>
      have : wrap64 (L + 1) = L + 1 := by simp at h0 hL; unfold wrap64; omega
      show some (true, ns, wrap64 (L + 1), []) = _
      rw [this]
      rfl
  refine (cloisterref18_Table_Turn.calls d.there d.ns d.L _ v d.l _ _ _ _ w0 w hB hR hf).mono fun e w' ⟨v', he, hr, hb, hk⟩ => ?_
  exact ⟨v', he, Row.of hr, fun b hb => hr.1 b hb, frame hB hb hk⟩

def newDoc (a b : Int) : Doc × Int := if a < 0 ∨ 32 < a ∨ b < 1 ∨ 4611686018427387904 < b then (⟨false, 0, 0, []⟩, 2) else (⟨true, a, b, []⟩, 0)

theorem r_new (a b : Int) (w0 w : World) (hB : Below w0.heap.size w0 w) :
    Calls Try.prog 20 #[.int .i64 a, .int .i64 b] w fun e w' => ∃ v', e = .returned (.tuple #[docV (newDoc a b).1 v', .int .i64 (newDoc a b).2]) ∧
      Row w' w0.heap.size v' (newDoc a b).1.l ∧ (∀ b, v'.ownBlock = some b → w.heap.size ≤ b) ∧ Below w.heap.size w w' := by
  have hf : cloisterref18_New.f a b = some ((newDoc a b).1.there, (newDoc a b).1.ns, (newDoc a b).1.L, (newDoc a b).1.l, (newDoc a b).2) := by
    rw [new_some]
    unfold newDoc
    split <;> rfl
  refine (cloisterref18_New.calls a b _ _ _ _ _ w hf).mono fun e w' ⟨v', he, hr, hb⟩ => ?_
  have h1 := Row.of hr
  exact ⟨v', he, Kd.R_lower h1 hB.size, fun b hb => h1.old hb, hb⟩

theorem t_new (a b : Int) (w : World) :
    Calls Try.prog 14 #[.int .i64 a, .int .i64 b] w fun e w' => ∃ t, e = .returned (.tuple #[tp t, .int .i64 (newDoc a b).2]) ∧ Stands w' t ∧ Tied t (newDoc a b).1 ∧ (∀ b, feet t b → w.heap.size ≤ b) ∧ Below w.heap.size w w' := by
  unfold newDoc
  by_cases h : a < 0 ∨ 32 < a ∨ b < 1 ∨ 4611686018427387904 < b
  · rw [if_pos h]
    refine (new_no a b w h).mono fun e w' ⟨he, hb⟩ => ?_
    subst hb
    exact ⟨none, he, trivial, ⟨rfl, rfl, rfl⟩, fun b hb => hb.elim, Below.refl _ _⟩
  · rw [if_neg h]
    refine (new_yes a b w (by omega) (by omega) (by omega) (by omega)).mono fun e w' ⟨tb, T, he, ht, hb, hf, h1, h2, h3, h4, h5⟩ => ?_
    have hE := Rl.empty 0 0 a.toNat b (fun _ => 0) T h1 h2 h3 h4 h5
    have ea : ((a.toNat : Nat) : Int) = a := by omega
    rw [ea] at hE
    exact ⟨some (tb, T), he, ht, ⟨rfl, hE⟩, hf, hb⟩

end Go.Proofs.Ytonjoboilpoamaa.scr
