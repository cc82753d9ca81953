/- TableScript: the document's table beside the program's, in plain Lean. -/
import Derived.Test.YtonjoboilpoamaaT7
import Derived.Test.YtonjoboilpoamaaPTableScriptx2
namespace Go.Proofs.Ytonjoboilpoamaa.scr
set_option linter.unusedVariables false
set_option linter.unusedSimpArgs false
open Go.RowKit Go.Proofs.Ytonjoboilpoamaa.tab Go.Proofs.Ytonjoboilpoamaa.imap Go.Proofs.Ytonjoboilpoamaa.PTableScript

def cnt (n : Int) (l : List S88) : Nat := (l.filter fun e => e.f0 == n).length
def look (l : List S88) (n y : Int) : Option Value := match l.find? (fun e => e.f0 == n && e.f1 == y) with
  | some e => if e.f3 then none else some (.int .i64 e.f2)
  | none => none
def openOf (l : List S88) : Nat := (l.filter fun e => !e.f3).length

theorem cnt_le (n : Int) (l : List S88) : cnt n l ≤ l.length := List.length_filter_le _ _
theorem openOf_le (l : List S88) : openOf l ≤ l.length := List.length_filter_le _ _

theorem w64 {x : Int} (h0 : 0 ≤ x) (h : x < 4611686018427387904) : wrap64 (x + 1) = x + 1 := by unfold wrap64; omega

theorem rd_get (l : List S88) (i : Nat) (h : i < l.length) : rd_T88 l (i : Int) = l[i] := by
  simp [rd_T88, List.getD, List.getElem?_eq_getElem h]

theorem cnt_take_succ (n : Int) (l : List S88) (i : Nat) (h : i < l.length) : cnt n (l.take (i + 1)) = cnt n (l.take i) + if (l[i]).f0 = n then 1 else 0 := by
  unfold cnt
  rw [List.take_succ_eq_append_getElem h, List.filter_append, List.length_append]
  by_cases e : (l[i]).f0 = n <;> simp [List.filter_cons, e]

theorem last_l0 (b : Bool) (s L n : Int) (l : List S88) (hl : l.length < 4611686018427387904) : ∀ (d i k : Nat), i + d = l.length → d < k →
    cloisterref18_Table_Last.l0 k n (cnt n (l.take i) : Int) (i : Int) b s L l = some (cnt n l : Int) := by
  intro d
  induction d with
  | zero =>
    intro i k hi hk
    obtain ⟨k, rfl⟩ : ∃ m, k = m + 1 := ⟨k - 1, by omega⟩
    simp only [cloisterref18_Table_Last.l0]
    rw [if_neg (by omega), List.take_of_length_le (by omega)]
  | succ d ih =>
    intro i k hi hk
    obtain ⟨k, rfl⟩ : ∃ m, k = m + 1 := ⟨k - 1, by omega⟩
    have hlt : i < l.length := by omega
    have hc := cnt_take_succ n l i hlt
    have hcl := cnt_le n (l.take i)
    have htl : (l.take i).length ≤ i := by simp; omega
    have ih' := ih (i + 1) k (by omega) (by omega)
    simp only [cloisterref18_Table_Last.l0]
    rw [if_pos (by omega), if_pos (by omega), rd_get l i hlt, w64 (x := (i : Int)) (by omega) (by omega)]
    by_cases e : (l[i]).f0 = n
    · rw [if_pos e, w64 (by omega) (by omega)]
      rw [hc, if_pos e] at ih'
      simpa using ih'
    · rw [if_neg e]
      rw [hc, if_neg e] at ih'
      simpa using ih'

theorem last_eq (b : Bool) (s L n : Int) (l : List S88) (hl : l.length < 4611686018427387904) (k : Nat) (hk : l.length < k) : cloisterref18_Table_Last.f k b s L l n = some (cnt n l : Int) := by
  have := last_l0 b s L n l hl l.length 0 k (by omega) hk
  simpa [cloisterref18_Table_Last.f, cnt] using this

theorem openOf_take_succ (l : List S88) (i : Nat) (h : i < l.length) : openOf (l.take (i + 1)) = openOf (l.take i) + if (l[i]).f3 = true then 0 else 1 := by
  unfold openOf
  rw [List.take_succ_eq_append_getElem h, List.filter_append, List.length_append]
  cases e : (l[i]).f3 <;> simp [List.filter_cons, e]

theorem open_l0 (b : Bool) (s L : Int) (l : List S88) (hl : l.length < 4611686018427387904) : ∀ (d i k : Nat), i + d = l.length → d < k →
    cloisterref18_Table_Open.l0 k (openOf (l.take i) : Int) (i : Int) b s L l = some (openOf l : Int) := by
  intro d
  induction d with
  | zero =>
    intro i k hi hk
    obtain ⟨k, rfl⟩ : ∃ m, k = m + 1 := ⟨k - 1, by omega⟩
    simp only [cloisterref18_Table_Open.l0]
    rw [if_neg (by omega), List.take_of_length_le (by omega)]
  | succ d ih =>
    intro i k hi hk
    obtain ⟨k, rfl⟩ : ∃ m, k = m + 1 := ⟨k - 1, by omega⟩
    have hlt : i < l.length := by omega
    have hc := openOf_take_succ l i hlt
    have hcl := openOf_le (l.take i)
    have htl : (l.take i).length ≤ i := by simp; omega
    have ih' := ih (i + 1) k (by omega) (by omega)
    simp only [cloisterref18_Table_Open.l0]
    rw [if_pos (by omega), if_pos (by omega), rd_get l i hlt, w64 (x := (i : Int)) (by omega) (by omega)]
    by_cases e : (l[i]).f3 = true
    · rw [if_pos e]
      rw [hc, if_pos e] at ih'
      simpa using ih'
    · rw [if_neg e, w64 (by omega) (by omega)]
      rw [hc, if_neg e] at ih'
      simpa using ih'

theorem open_eq (b : Bool) (s L : Int) (l : List S88) (hl : l.length < 4611686018427387904) (k : Nat) (hk : l.length < k) : cloisterref18_Table_Open.f k b s L l = some (openOf l : Int) := by
  have := open_l0 b s L l hl l.length 0 k (by omega) hk
  simpa [cloisterref18_Table_Open.f, openOf] using this

/-- where the loop of Place ends, from i on -/
def from_ (n y : Int) (l : List S88) (i : Nat) : Int × Int := match (l.drop i).findIdx? (fun e => e.f0 == n && e.f1 == y) with
  | some j => if (l.getD (i + j) z88).f3 then (0, 182) else ((i + j : Nat), 0)
  | none => (0, 181)

theorem from_end (n y : Int) (l : List S88) : from_ n y l l.length = (0, 181) := by simp [from_]

theorem from_hit (n y : Int) (l : List S88) (i : Nat) (h : i < l.length) (e : (l[i]).f0 = n ∧ (l[i]).f1 = y) : from_ n y l i = if (l[i]).f3 then ((0 : Int), (182 : Int)) else ((i : Int), (0 : Int)) := by
  unfold from_
  rw [List.drop_eq_getElem_cons h, List.findIdx?_cons]
  simp [e.1, e.2, List.getElem?_eq_getElem h]

theorem from_miss (n y : Int) (l : List S88) (i : Nat) (h : i < l.length) (e : ¬ ((l[i]).f0 = n ∧ (l[i]).f1 = y)) : from_ n y l i = from_ n y l (i + 1) := by
  unfold from_
  rw [List.drop_eq_getElem_cons h, List.findIdx?_cons]
  have : ((l[i]).f0 == n && (l[i]).f1 == y) = false := by
    by_cases h1 : (l[i]).f0 = n
    · have h2 : (l[i]).f1 ≠ y := fun h2 => e ⟨h1, h2⟩
      simp [h1, h2]
    · simp [h1]
  rw [this]
  simp only [Bool.false_eq_true, if_false]
  cases (l.drop (i + 1)).findIdx? (fun e => e.f0 == n && e.f1 == y) with
  | none => rfl
  | some j =>
    simp only [Option.map_some]
    rw [show i + (j + 1) = i + 1 + j by omega]

theorem place_l0 (b : Bool) (s L n y : Int) (l : List S88) (hl : l.length < 4611686018427387904) : ∀ (d i k : Nat), i + d = l.length → 2 * d < k →
    cloisterref18_Table_Place.l0 k n y (i : Int) b s L l = some (from_ n y l i) := by
  intro d
  induction d with
  | zero =>
    intro i k hi hk
    obtain ⟨k, rfl⟩ : ∃ m, k = m + 1 := ⟨k - 1, by omega⟩
    have e : i = l.length := by omega
    subst e
    rw [from_end]
    simp only [cloisterref18_Table_Place.l0]
    rw [if_neg (by omega)]
  | succ d ih =>
    intro i k hi hk
    obtain ⟨k, rfl⟩ : ∃ m, k = m + 2 := ⟨k - 2, by omega⟩
    have hlt : i < l.length := by omega
    have ih' := ih (i + 1) k (by omega) (by omega)
    have e1 : ((i + 1 : Nat) : Int) = (i : Int) + 1 := by omega
    rw [e1] at ih'
    simp only [cloisterref18_Table_Place.l0]
    rw [if_pos (by omega), if_pos (by omega), rd_get l i hlt]
    by_cases e : (l[i]).f0 = n
    · rw [if_pos e]
      simp only [cloisterref18_Table_Place.j3]
      by_cases ey : (l[i]).f1 = y
      · rw [from_hit n y l i hlt ⟨e, ey⟩, if_pos (by simpa using ey)]
        by_cases e3 : (l[i]).f3 = true
        · rw [if_pos e3, if_pos e3]
        · rw [if_neg e3, if_neg e3]
      · rw [if_neg (by simpa using ey), from_miss n y l i hlt (fun h => ey h.2), w64 (by omega) (by omega)]
        exact ih'
    · rw [if_neg e]
      simp only [cloisterref18_Table_Place.j3]
      rw [if_neg (by simp), from_miss n y l i hlt (fun h => e h.1), w64 (by omega) (by omega)]
      exact ih'

/-- what Place answers of a table that is there -/
def placeR (ns L : Int) (l : List S88) (s x y : Int) : Int × Int :=
  if s < 0 ∨ ns ≤ s then (0, 2) else if 1 ≤ x ∧ x < L then (0, 180) else if x ≠ L ∨ y < 1 ∨ (cnt s l : Int) < y then (0, 181) else from_ s y l 0

theorem place_eq (ns L : Int) (l : List S88) (s x y : Int) (hl : l.length < 4611686018427387904) (k : Nat) (hk : 2 * l.length + 3 < k) : cloisterref18_Table_Place.f k true ns L l s x y = some (placeR ns L l s x y) := by
  obtain ⟨k, rfl⟩ : ∃ m, k = m + 3 := ⟨k - 3, by omega⟩
  unfold cloisterref18_Table_Place.f placeR cloisterref18_Table_has.f
  rw [if_pos rfl]
  by_cases h1 : s < 0
  · rw [if_pos h1, if_pos (c := s < 0 ∨ ns ≤ s) (.inl h1)]; rfl
  rw [if_neg h1]
  by_cases h2 : s ≥ ns
  · rw [if_pos h2, if_pos (c := s < 0 ∨ ns ≤ s) (.inr h2)]; rfl
  rw [if_neg h2, if_neg (c := s < 0 ∨ ns ≤ s) (by omega)]
  simp only [Option.bind_some, if_true]
  have tail : ∀ bb : Bool, (bb = true ↔ 1 ≤ x ∧ x < L) → cloisterref18_Table_Place.j0 (k + 3) s x y bb true ns L l =
      some (if 1 ≤ x ∧ x < L then (0, 180) else if x ≠ L ∨ y < 1 ∨ (cnt s l : Int) < y then (0, 181) else from_ s y l 0) := by
    intro bb hbb
    simp only [cloisterref18_Table_Place.j0]
    by_cases hx : 1 ≤ x ∧ x < L
    · rw [if_pos (hbb.2 hx), if_pos hx]
    · rw [if_neg (fun h => hx (hbb.1 h)), if_neg hx]
      by_cases h3 : x = L
      · rw [if_pos h3]
        by_cases h4 : y < 1
        · rw [if_pos h4, if_pos (.inr (.inl h4))]
          simp only [cloisterref18_Table_Place.j1, if_true]
        · rw [if_neg h4, last_eq true ns L s l hl (k + 2) (by omega)]
          simp only [Option.bind_some, cloisterref18_Table_Place.j1]
          by_cases h5 : (cnt s l : Int) < y
          · rw [if_pos (by simpa using h5), if_pos (.inr (.inr h5))]
          · rw [if_neg (by simpa using h5), if_neg (by omega)]
            exact place_l0 true ns L s y l hl l.length 0 (k + 1) (by omega) (by omega)
      · rw [if_neg h3, if_pos (.inl h3)]
        simp only [cloisterref18_Table_Place.j1, if_true]
  by_cases h6 : x ≥ 1
  · rw [if_pos h6]
    exact tail _ (by simp; omega)
  · rw [if_neg h6]
    exact tail _ (by simp; omega)

theorem bool_iff_ite {p : Prop} [Decidable p] : (decide p = true) ↔ p := by simp

/-- what Add answers -/
theorem add_eq (ns L : Int) (l : List S88) (s x : Int) (hl : l.length < 4398046511104) (k : Nat) (hk : l.length < k) : cloisterref18_Table_Add.f k true ns L l s x =
    if s < 0 ∨ ns ≤ s then some (true, ns, L, l, 0, 0, 2) else some (true, ns, L, l ++ [⟨s, (cnt s l : Int) + 1, x, false⟩], L, (cnt s l : Int) + 1, 0) := by
  have hc := cnt_le s l
  unfold cloisterref18_Table_Add.f cloisterref18_Table_has.f
  rw [if_pos rfl]
  by_cases h1 : s < 0
  · rw [if_pos h1, if_pos (.inl h1)]; rfl
  rw [if_neg h1]
  by_cases h2 : s ≥ ns
  · rw [if_pos h2, if_pos (.inr h2)]; rfl
  rw [if_neg h2, if_neg (by omega)]
  simp only [Option.bind_some, if_true]
  rw [last_eq true ns L s l (by omega) k hk]
  simp only [Option.bind_some, List.length_nil, Nat.zero_add, List.nil_append]
  rw [if_pos hl, if_pos hl, w64 (by omega) (by omega)]

theorem end_eq (ns L : Int) (l : List S88) (s x y : Int) (hl : l.length < 4398046511104) (k : Nat) (hk : 2 * l.length + 3 < k) : cloisterref18_Table_End.f k true ns L l s x y =
    if (placeR ns L l s x y).2 = 0 then (if 0 ≤ (placeR ns L l s x y).1 then if (placeR ns L l s x y).1 < (l.length : Int) then
        some (true, ns, L, l.set (placeR ns L l s x y).1.toNat ⟨(rd_T88 l (placeR ns L l s x y).1).f0, (rd_T88 l (placeR ns L l s x y).1).f1, (rd_T88 l (placeR ns L l s x y).1).f2, true⟩, 0) else none else none)
    else some (true, ns, L, l, (placeR ns L l s x y).2) := by
  unfold cloisterref18_Table_End.f
  rw [place_eq ns L l s x y (by omega) k hk]
  simp only [Option.bind_some, List.length_nil, Nat.zero_add, List.nil_append]
  rw [if_pos hl]
end Go.Proofs.Ytonjoboilpoamaa.scr
