/- TableScript: the two tables answer alike. -/
import Derived.Test.YtonjoboilpoamaaS0
namespace Go.Proofs.Ytonjoboilpoamaa.scr
set_option linter.unusedVariables false
set_option linter.unusedSimpArgs false
open Go.RowKit Go.Proofs.Ytonjoboilpoamaa.tab Go.Proofs.Ytonjoboilpoamaa.imap Go.Proofs.Ytonjoboilpoamaa.PTableScript

structure Rl (T : Tb) (ns L : Int) (l : List S88) : Prop where
  ns : ns = T.ns
  life : L = T.life
  g : ∀ n : Nat, n < T.ns → T.g n = cnt n l
  f : ∀ n : Nat, n < T.ns → ∀ y, T.f n y = look l n y
  sum : sumTo T.cnt T.ns = openOf l
  fit : ∀ e ∈ l, ∃ n : Nat, n < T.ns ∧ e.f0 = n ∧ 1 ≤ e.f1 ∧ e.f1 ≤ cnt n l
  all : ∀ n : Nat, n < T.ns → ∀ y : Int, 1 ≤ y → y ≤ cnt n l → ∃ e ∈ l, e.f0 = n ∧ e.f1 = y

theorem sumTo_zero (n : Nat) : sumTo (fun _ => 0) n = 0 := by
  induction n with
  | zero => rfl
  | succ n ih => simp [sumTo, ih]

theorem sumTo_at (c : Nat → Nat) (s v : Nat) : ∀ n, s < n → sumTo (fun j => if j = s then v else c j) n + c s = sumTo c n + v := by
  have low : ∀ n, n ≤ s → sumTo (fun j => if j = s then v else c j) n = sumTo c n := by
    intro n
    induction n with
    | zero => intro _; rfl
    | succ n ih =>
      intro h
      simp only [sumTo]
      rw [ih (by omega), if_neg (by omega)]
  intro n
  induction n with
  | zero => intro h; omega
  | succ n ih =>
    intro h
    simp only [sumTo]
    by_cases e : n = s
    · subst e
      rw [low n (Nat.le_refl _), if_pos rfl]
      omega
    · have := ih (by omega)
      rw [if_neg e]
      omega

theorem Rl.empty (sb gb ns : Nat) (L : Int) (m : Nat → Nat) (T : Tb) (h1 : T.ns = ns) (h2 : T.life = L) (h3 : T.g = fun _ => 0) (h4 : T.cnt = fun _ => 0) (h5 : T.f = fun _ _ => none) : Rl T ns L [] := by
  subst h1 h2
  exact ⟨rfl, rfl, fun n _ => by rw [h3]; rfl, fun n _ y => by rw [h5]; rfl, by rw [h4, sumTo_zero]; rfl, by simp, fun n _ y h1 h2 => by simp [cnt] at h2; omega⟩

theorem find_none_high {l : List S88} {n : Nat} {y : Int} (h : ∀ e ∈ l, e.f0 = (n : Int) → e.f1 < y) : l.find? (fun e => e.f0 == (n : Int) && e.f1 == y) = none := by
  rw [List.find?_eq_none]
  intro e he hp
  simp at hp
  have := h e he hp.1
  omega

theorem Rl.add {T : Tb} {ns L : Int} {l : List S88} (R : Rl T ns L l) (s : Nat) (hs : s < T.ns) (x : Int) : Rl (T.add s (.int .i64 x)) ns L (l ++ [⟨s, (cnt s l : Int) + 1, x, false⟩]) := by
  have hcnt : ∀ n : Int, cnt n (l ++ [(⟨s, (cnt s l : Int) + 1, x, false⟩ : S88)]) = cnt n l + if (s : Int) = n then 1 else 0 := by
    intro n
    unfold cnt
    rw [List.filter_append, List.length_append]
    by_cases e : (s : Int) = n <;> simp [List.filter_cons, e]
  have hno : l.find? (fun e => e.f0 == (s : Int) && e.f1 == (cnt s l : Int) + 1) = none := by
    refine find_none_high fun e he h0 => ?_
    obtain ⟨n, hn, h1, h2, h3⟩ := R.fit e he
    have : n = s := by omega
    subst this
    omega
  have hlook : ∀ (n : Nat) (y : Int), look (l ++ [(⟨s, (cnt s l : Int) + 1, x, false⟩ : S88)]) n y = if n = s ∧ y = (cnt s l : Int) + 1 then some (.int .i64 x) else look l n y := by
    intro n y
    unfold look
    rw [List.find?_append]
    by_cases e : n = s ∧ y = (cnt s l : Int) + 1
    · obtain ⟨rfl, rfl⟩ := e
      rw [hno]
      simp
    · rw [if_neg e]
      cases h : l.find? (fun e => e.f0 == (n : Int) && e.f1 == y) with
      | some v => simp
      | none =>
        have : ((s : Int) == (n : Int) && (cnt s l : Int) + 1 == y) = false := by
          by_cases e1 : n = s
          · subst e1
            have : ¬ (cnt n l : Int) + 1 = y := fun h => e ⟨rfl, h.symm⟩
            simp [this]
          · have : ¬ (s : Int) = (n : Int) := by omega
            simp [this]
        simp [this]
  have hTno : T.f s ((cnt s l : Int) + 1) = none := by
    rw [R.f s hs]
    unfold look
    rw [hno]
  refine ⟨R.ns, R.life, ?_, ?_, ?_, ?_, ?_⟩
  · intro n hn
    rw [hcnt]
    simp only [Tb.add]
    by_cases e : n = s
    · subst e; simp [R.g n hn]
    · have e2 : ¬ (s : Int) = (n : Int) := by omega
      simp [e, e2, R.g n hn]
  · intro n hn y
    rw [hlook]
    simp only [Tb.add]
    by_cases e : n = s
    · subst e
      rw [if_pos rfl]
      unfold setAt
      rw [R.g n hn]
      by_cases e2 : y = (cnt n l : Int) + 1
      · simp [e2]
      · simp [e2, R.f n hn]
    · simp [e, R.f n hn]
  · have h1 := sumTo_at T.cnt s (T.cnt s + 1) T.ns hs
    have h2 := R.sum
    show sumTo (fun j => if j = s then wld.cntPut (T.f s) (T.g s + 1) (T.cnt s) else T.cnt j) T.ns = _
    have h3 : wld.cntPut (T.f s) (T.g s + 1) (T.cnt s) = T.cnt s + 1 := by
      rw [R.g s hs]
      simp [wld.cntPut, hTno]
    rw [h3]
    have h4 : openOf (l ++ [(⟨s, (cnt s l : Int) + 1, x, false⟩ : S88)]) = openOf l + 1 := by
      simp [openOf, List.filter_append, List.filter_cons]
    rw [h4]
    omega
  · intro e he
    rw [List.mem_append] at he
    rcases he with he | he
    · obtain ⟨n, hn, h1, h2, h3⟩ := R.fit e he
      refine ⟨n, hn, h1, h2, ?_⟩
      rw [hcnt]
      push_cast
      split <;> omega
    · simp at he
      subst he
      refine ⟨s, hs, rfl, by simp; omega, ?_⟩
      rw [hcnt, if_pos rfl]
      simp
  · intro n hn y h1 h2
    have hn' : n < T.ns := hn
    rw [hcnt] at h2
    by_cases e : (s : Int) = n
    · rw [if_pos e] at h2
      have : s = n := by omega
      subst this
      by_cases e2 : y = (cnt s l : Int) + 1
      · exact ⟨⟨s, (cnt s l : Int) + 1, x, false⟩, by simp, rfl, e2.symm⟩
      · obtain ⟨e, he, h3⟩ := R.all s hn y h1 (by omega)
        exact ⟨e, by simp [he], h3⟩
    · rw [if_neg e] at h2
      obtain ⟨e, he, h3⟩ := R.all n hn y h1 (by omega)
      exact ⟨e, by simp [he], h3⟩

/-- the two find alike -/
theorem Rl.find {T : Tb} {ns L : Int} {l : List S88} (R : Rl T ns L l) (z : Value) (s x y : Int) :
    (placeR ns L l s x y).2 = (T.find z s x y).2 ∧ ((placeR ns L l s x y).2 ≠ 0 → (T.find z s x y).1 = z) ∧
    ((placeR ns L l s x y).2 = 0 → ∃ (i : Nat) (n : Nat) (h : i < l.length), (placeR ns L l s x y).1 = i ∧ s = n ∧ n < T.ns ∧ (l[i]).f0 = n ∧ (l[i]).f1 = y ∧ (l[i]).f3 = false ∧ (T.find z s x y).1 = .int .i64 (l[i]).f2 ∧
      ∀ j (hj : j < i), ¬ ((l[j]).f0 = n ∧ (l[j]).f1 = y)) := by
  unfold placeR Tb.find
  rw [R.ns, R.life]
  by_cases h1 : s < 0 ∨ (T.ns : Int) ≤ s
  · rw [if_pos h1, if_pos h1]
    exact ⟨rfl, fun _ => rfl, fun h => absurd h (by decide)⟩
  rw [if_neg h1, if_neg h1]
  by_cases h2 : 1 ≤ x ∧ x < T.life
  · rw [if_pos h2, if_pos h2]
    exact ⟨rfl, fun _ => rfl, fun h => absurd h (by decide)⟩
  rw [if_neg h2, if_neg h2]
  obtain ⟨n, rfl⟩ := Int.eq_ofNat_of_zero_le (by omega : 0 ≤ s)
  have hn : n < T.ns := by omega
  have en : ((n : Int)).toNat = n := by omega
  rw [en, R.g n hn]
  by_cases h3 : x ≠ T.life ∨ y < 1 ∨ (cnt n l : Int) < y
  · rw [if_pos h3, if_pos h3]
    exact ⟨rfl, fun _ => rfl, fun h => absurd h (by decide)⟩
  rw [if_neg h3, if_neg h3, R.f n hn]
  unfold from_ look
  rw [List.drop_zero]
  obtain ⟨e, he, h4, h5⟩ := R.all n hn y (by omega) (by omega)
  cases hf : l.findIdx? (fun e => e.f0 == (n : Int) && e.f1 == y) with
  | none =>
    rw [List.findIdx?_eq_none_iff] at hf
    have := hf e he
    simp [h4, h5] at this
  | some j =>
    rw [List.findIdx?_eq_some_iff_getElem] at hf
    obtain ⟨hj, h6, h7⟩ := hf
    have hfind : l.find? (fun e => e.f0 == (n : Int) && e.f1 == y) = some l[j] := by
      rw [List.find?_eq_some_iff_getElem]
      refine ⟨h6, j, hj, rfl, fun k hk => ?_⟩
      have := h7 k hk
      simp only [Bool.not_eq_true] at this
      simp only [this, Bool.not_false]
    rw [hfind]
    simp only [Nat.zero_add]
    have hd : l.getD j z88 = l[j] := by simp [List.getD, List.getElem?_eq_getElem hj]
    rw [hd]
    simp only [Bool.and_eq_true, beq_iff_eq] at h6
    cases h8 : (l[j]).f3 with
    | true =>
      refine ⟨rfl, fun _ => rfl, fun h => absurd h (by simp)⟩
    | false =>
      refine ⟨rfl, fun h => absurd rfl h, fun _ => ⟨j, n, hj, rfl, rfl, hn, h6.1, h6.2, h8, rfl, fun k hk hh => ?_⟩⟩
      have := h7 k hk
      simp [hh.1, hh.2] at this

theorem find_set_miss {p : S88 → Bool} {e : S88} (he : p e = false) : ∀ (l : List S88) (j : Nat) (hj : j < l.length), p l[j] = false → (l.set j e).find? p = l.find? p := by
  intro l
  induction l with
  | nil => intro j hj; simp at hj
  | cons a l ih =>
    intro j hj h
    cases j with
    | zero => simp at h; simp [List.find?_cons, he, h]
    | succ j =>
      simp at h hj
      simp only [List.set_cons_succ, List.find?_cons]
      rw [ih j hj h]

theorem find_set_hit {p : S88 → Bool} {e : S88} (he : p e = true) : ∀ (l : List S88) (j : Nat) (hj : j < l.length), (∀ k (hk : k < j), p (l[k]'(by omega)) = false) → (l.set j e).find? p = some e := by
  intro l
  induction l with
  | nil => intro j hj; simp at hj
  | cons a l ih =>
    intro j hj h
    cases j with
    | zero => simp [List.find?_cons, he]
    | succ j =>
      simp at hj
      have h0 := h 0 (by omega)
      simp at h0
      simp only [List.set_cons_succ, List.find?_cons, h0]
      exact ih j hj (fun k hk => by simpa using h (k + 1) (by omega))

theorem cnt_set (n : Int) : ∀ (l : List S88) (j : Nat) (hj : j < l.length) (e : S88), e.f0 = (l[j]).f0 → cnt n (l.set j e) = cnt n l := by
  intro l
  induction l with
  | nil => intro j hj; simp at hj
  | cons a l ih =>
    intro j hj e he
    cases j with
    | zero => simp at he; simp [cnt, List.filter_cons, he]; split <;> simp
    | succ j =>
      simp at hj he
      have := ih j hj e he
      unfold cnt at this ⊢
      simp only [List.set_cons_succ, List.filter_cons]
      split <;> simp [this]

theorem open_set : ∀ (l : List S88) (j : Nat) (hj : j < l.length) (e : S88), e.f3 = true → (l[j]).f3 = false → openOf (l.set j e) + 1 = openOf l := by
  intro l
  induction l with
  | nil => intro j hj; simp at hj
  | cons a l ih =>
    intro j hj e he h
    cases j with
    | zero => simp at h; simp [openOf, List.filter_cons, he, h]
    | succ j =>
      simp at hj h
      have := ih j hj e he h
      unfold openOf at this ⊢
      simp only [List.set_cons_succ, List.filter_cons]
      split <;> (try simp only [List.length_cons]) <;> omega

theorem Rl.drop {T : Tb} {ns L : Int} {l : List S88} (R : Rl T ns L l) (n i : Nat) (h : i < l.length) (hn : n < T.ns) (y : Int) (h0 : (l[i]).f0 = n) (h1 : (l[i]).f1 = y) (h3 : (l[i]).f3 = false)
    (hm : ∀ j (hj : j < i), ¬ ((l[j]).f0 = n ∧ (l[j]).f1 = y)) (hpos : ∀ v, T.f n y = some v → 0 < T.cnt n) (x : Int) : Rl (T.drop n y) ns L (l.set i ⟨(l[i]).f0, (l[i]).f1, x, true⟩) := by
  have hc : ∀ m : Int, cnt m (l.set i ⟨(l[i]).f0, (l[i]).f1, x, true⟩) = cnt m l := fun m => cnt_set m l i h _ rfl
  have hTy : T.f n y = some (.int .i64 (l[i]).f2) := by
    rw [R.f n hn]
    unfold look
    have : l.find? (fun e => e.f0 == (n : Int) && e.f1 == y) = some l[i] := by
      rw [List.find?_eq_some_iff_getElem]
      refine ⟨by simp [h0, h1], i, h, rfl, fun k hk => ?_⟩
      have := hm k hk
      simp only [Bool.not_eq_true', Bool.and_eq_false_iff, beq_eq_false_iff_ne]
      by_cases e : (l[k]).f0 = n
      · exact .inr (fun e2 => this ⟨e, e2⟩)
      · exact .inl e
    rw [this]
    simp [h3]
  refine ⟨R.ns, R.life, ?_, ?_, ?_, ?_, ?_⟩
  · intro m hm'
    rw [hc]
    exact R.g m hm'
  · intro m hm' y'
    have hm'' : m < T.ns := hm'
    simp only [Tb.drop]
    have hold := R.f m hm'' y'
    unfold look at hold ⊢
    by_cases e : m = n ∧ y' = y
    · obtain ⟨rfl, rfl⟩ := e
      rw [find_set_hit (e := ⟨(l[i]).f0, (l[i]).f1, x, true⟩) (by simp [h0, h1]) l i h (fun k hk => by
        have := hm k hk
        by_cases e : (l[k]).f0 = m
        · have e2 : ¬ (l[k]).f1 = y' := fun e2 => this ⟨e, e2⟩
          simp [e2]
        · simp [e])]
      simp [setAt]
    · have hpf : ((l[i]).f0 == (m : Int) && (l[i]).f1 == y') = false := by
        rw [h0, h1]
        by_cases e1 : m = n
        · subst e1
          have : ¬ y = y' := fun e2 => e ⟨rfl, e2.symm⟩
          simp [this]
        · have : ¬ (n : Int) = (m : Int) := by omega
          simp [this]
      rw [find_set_miss (p := fun e => e.f0 == (m : Int) && e.f1 == y') (e := ⟨(l[i]).f0, (l[i]).f1, x, true⟩) hpf l i h hpf]
      rw [← hold]
      by_cases e1 : m = n
      · subst e1
        have : ¬ y' = y := fun e2 => e ⟨rfl, e2⟩
        simp [setAt, this]
      · simp [e1]
  · have h5 := sumTo_at T.cnt n (T.cnt n - 1) T.ns hn
    have h6 := R.sum
    have h7 := hpos _ hTy
    have h8 := open_set l i h ⟨(l[i]).f0, (l[i]).f1, x, true⟩ rfl h3
    show sumTo (fun j => if j = n then T.cnt n - 1 else T.cnt j) T.ns = _
    omega
  · intro e he
    rcases List.mem_or_eq_of_mem_set he with he | he
    · obtain ⟨m, hm', k1, k2, k3⟩ := R.fit e he
      exact ⟨m, hm', k1, k2, by rw [hc]; exact k3⟩
    · subst he
      obtain ⟨m, hm', k1, k2, k3⟩ := R.fit _ (List.getElem_mem h)
      exact ⟨m, hm', k1, k2, by rw [hc]; exact k3⟩
  · intro m hm' y' k1 k2
    rw [hc] at k2
    obtain ⟨e, he, k3, k4⟩ := R.all m hm' y' k1 k2
    obtain ⟨j, hj, rfl⟩ := List.getElem_of_mem he
    by_cases e1 : j = i
    · subst e1
      exact ⟨⟨(l[j]).f0, (l[j]).f1, x, true⟩, by rw [List.mem_iff_getElem]; exact ⟨j, by simpa using hj, by simp⟩, k3, k4⟩
    · refine ⟨l[j], ?_, k3, k4⟩
      rw [List.mem_iff_getElem]
      refine ⟨j, by simpa using hj, ?_⟩
      rw [List.getElem_set_ne (fun h => e1 h.symm)]
end Go.Proofs.Ytonjoboilpoamaa.scr
