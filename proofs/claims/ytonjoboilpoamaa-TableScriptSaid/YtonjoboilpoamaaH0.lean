/- TableHolds: what is held, in plain Lean. -/
import Derived.Test.YtonjoboilpoamaaT6
namespace Go.Proofs.Ytonjoboilpoamaa.holds
set_option linter.unusedVariables false
open Go.Proofs.Ytonjoboilpoamaa.tab Go.Proofs.Ytonjoboilpoamaa.imap Go.Proofs.Ytonjoboilpoamaa.wld

structure Hd where
  s : Nat
  life : Int
  num : Int
  x : Int
  ended : Bool
  turned : Bool
  deriving Inhabited

def Hd.cells (h : Hd) : List Value := [.int .i64 h.s, .int .i64 h.life, .int .i64 h.num, .int .i64 h.x, .bool h.ended, .bool h.turned]
def cellsOf (l : List Hd) : List Value := l.flatMap Hd.cells

theorem cellsOf_length (l : List Hd) : (cellsOf l).length = l.length * 6 := by
  induction l with
  | nil => rfl
  | cons h l ih => simp only [cellsOf, List.flatMap_cons, List.length_append] at *; rw [ih]; simp [Hd.cells]; omega

theorem cellsOf_append (l m : List Hd) : cellsOf (l ++ m) = cellsOf l ++ cellsOf m := by simp [cellsOf]

theorem cellsOf_get (l : List Hd) (i : Nat) (h : i < l.length) (j : Nat) (hj : j < 6) : (cellsOf l)[i * 6 + j]? = (l[i]).cells[j]? := by
  induction l generalizing i with
  | nil => simp at h
  | cons x l ih =>
    have e : cellsOf (x :: l) = x.cells ++ cellsOf l := by simp [cellsOf]
    rw [e]
    have hx : x.cells.length = 6 := rfl
    cases i with
    | zero =>
      rw [List.getElem?_append_left (by omega)]
      simp
    | succ i =>
      rw [List.getElem?_append_right (by omega)]
      have : (i + 1) * 6 + j - x.cells.length = i * 6 + j := by omega
      rw [this, ih i (by simpa using h)]
      simp

theorem cellsOf_set (l : List Hd) (i : Nat) (h : i < l.length) (j : Nat) (hj : j < 6) (v : Value) (y : Hd) (hy : y.cells = (l[i]).cells.set j v) : (cellsOf l).set (i * 6 + j) v = cellsOf (l.set i y) := by
  induction l generalizing i with
  | nil => simp at h
  | cons x l ih =>
    have e : cellsOf (x :: l) = x.cells ++ cellsOf l := by simp [cellsOf]
    have hx : x.cells.length = 6 := rfl
    rw [e]
    cases i with
    | zero =>
      rw [List.set_append_left _ _ (by omega)]
      simp only [List.set_cons_zero]
      have : cellsOf (y :: l) = y.cells ++ cellsOf l := by simp [cellsOf]
      rw [this, hy]
      simp
    | succ i =>
      rw [List.set_append_right _ _ (by omega)]
      have e2 : (i + 1) * 6 + j - x.cells.length = i * 6 + j := by omega
      rw [e2, ih i (by simpa using h) (by simpa using hy)]
      simp [cellsOf]

structure Inv (T : Tb) (all : List Hd) : Prop where
  ns : T.ns = 3
  each : ∀ h ∈ all, h.s < 3 ∧ 1 ≤ h.life ∧ (h.turned = true → h.life < T.life) ∧ (h.turned = false → h.life = T.life ∧ 1 ≤ h.num ∧ h.num ≤ T.g h.s ∧ T.f h.s h.num = if h.ended then none else some (.int .i64 h.x))
  uniq : all.Pairwise (fun a b => a.turned = false → b.turned = false → a.s = b.s → a.num ≠ b.num)
  high : ∀ s y, s < 3 → T.g s < y → T.f s y = none
  nums : ∀ s, s < 3 → 0 ≤ T.g s

theorem sum3 (c : Nat → Nat) : sumTo c 3 = c 0 + c 1 + c 2 := by simp [sumTo]

theorem lt3 {s : Nat} (h : s < 3) : s = 0 ∨ s = 1 ∨ s = 2 := by omega

theorem Inv.new {T : Tb} {all : List Hd} (I : Inv T all) (s : Nat) (hs : s < 3) : ∀ h ∈ all, h.s = s → h.life = T.life → h.num ≠ T.g s + 1 := by
  intro h hh e1 e2 e3
  obtain ⟨_, _, h1, h2⟩ := I.each h hh
  cases ht : h.turned with
  | true => have := h1 ht; omega
  | false =>
    obtain ⟨_, _, h3, _⟩ := h2 ht
    rw [e1] at h3
    omega

theorem Inv.add {T : Tb} {all : List Hd} (I : Inv T all) (s : Nat) (hs : s < 3) (x : Int) (hl : 1 ≤ T.life) :
    Inv (T.add s (.int .i64 x)) (all ++ [⟨s, T.life, T.g s + 1, x, false, false⟩]) ∧ sumTo (T.add s (.int .i64 x)).cnt 3 = sumTo T.cnt 3 + 1 := by
  have hg := I.nums s hs
  refine ⟨⟨I.ns, ?_, ?_, ?_, ?_⟩, ?_⟩
  · intro h hh
    rcases List.mem_append.1 hh with hh | hh
    · obtain ⟨h1, h2, h3, h4⟩ := I.each h hh
      refine ⟨h1, h2, h3, fun ht => ?_⟩
      obtain ⟨a, b, c, d⟩ := h4 ht
      refine ⟨a, b, ?_, ?_⟩
      · simp only [Tb.add]; split
        · rename_i e; rw [e] at c; omega
        · exact c
      · simp only [Tb.add]; split
        · rename_i e
          rw [← d, e, setAt, if_neg]
          rw [e] at c
          omega
        · exact d
    · simp only [List.mem_singleton] at hh
      subst hh
      refine ⟨hs, hl, by simp, fun _ => ⟨rfl, by simp; omega, by simp [Tb.add], by simp [Tb.add, setAt]⟩⟩
  · rw [List.pairwise_append]
    refine ⟨I.uniq, by simp, ?_⟩
    intro a ha b hb
    simp only [List.mem_singleton] at hb
    subst hb
    intro ta _ e1 e2
    exact I.new s hs a ha e1 ((I.each a ha).2.2.2 ta).1 e2
  · intro s' y hs' hy
    simp only [Tb.add] at hy ⊢
    split at hy
    · rename_i e
      rw [if_pos e]
      subst e
      rw [setAt, if_neg (by omega)]
      exact I.high s' y hs' (by omega)
    · rename_i e
      rw [if_neg e]
      exact I.high s' y hs' hy
  · intro s' hs'
    have := I.nums s' hs'
    simp only [Tb.add]
    split <;> omega
  · have h0 := I.high s (T.g s + 1) hs (by omega)
    rcases lt3 hs with rfl | rfl | rfl <;> simp [sum3, Tb.add, cntPut, h0] <;> omega

theorem Inv.drop {T : Tb} {all : List Hd} (I : Inv T all) (i : Nat) (hi : i < all.length) (h1 : (all[i]).ended = false) (h2 : (all[i]).turned = false) (hc : 0 < T.cnt (all[i]).s) :
    Inv (T.drop (all[i]).s (all[i]).num) (all.set i { all[i] with ended := true }) ∧ sumTo (T.drop (all[i]).s (all[i]).num).cnt 3 + 1 = sumTo T.cnt 3 := by
  have hm : all[i] ∈ all := List.getElem_mem hi
  have hE := I.each _ hm
  have hu := List.pairwise_iff_getElem.1 I.uniq
  refine ⟨⟨I.ns, ?_, ?_, ?_, I.nums⟩, ?_⟩
  · intro h hh
    obtain ⟨j, hj, e⟩ := List.getElem_of_mem hh
    have hj' : j < all.length := by simpa using hj
    rw [List.getElem_set] at e
    split at e
    · subst e
      refine ⟨hE.1, hE.2.1, hE.2.2.1, fun _ => ?_⟩
      obtain ⟨a, b, c, d⟩ := hE.2.2.2 h2
      exact ⟨a, b, c, by simp [Tb.drop, setAt]⟩
    · rename_i hne
      subst e
      obtain ⟨k1, k2, k3, k4⟩ := I.each _ (List.getElem_mem hj')
      refine ⟨k1, k2, k3, fun ht => ?_⟩
      obtain ⟨a, b, c, d⟩ := k4 ht
      refine ⟨a, b, c, ?_⟩
      simp only [Tb.drop]
      split
      · rename_i es
        have hd : (all[j]).num ≠ (all[i]).num := by
          rcases Nat.lt_or_gt_of_ne hne with hlt | hgt
          · exact fun en => hu i j hi hj' hlt h2 ht es.symm en.symm
          · exact fun en => hu j i hj' hi hgt ht h2 es en
        rw [setAt, if_neg hd, ← es]
        exact d
      · exact d
  · rw [List.pairwise_iff_getElem]
    intro a b ha hb hab
    have ha' : a < all.length := by simpa using ha
    have hb' : b < all.length := by simpa using hb
    have := hu a b ha' hb' hab
    rw [List.getElem_set, List.getElem_set]
    split
    · rename_i e; subst e
      split
      · omega
      · exact this
    · split
      · rename_i e; subst e; exact this
      · exact this
  · intro s y hs hy
    have h3 := I.high s y hs hy
    simp only [Tb.drop]
    split
    · rename_i e
      subst e
      rw [setAt]
      split
      · rfl
      · exact h3
    · exact h3
  · have h3 := hE.1
    generalize (all[i]).s = s at *
    rcases lt3 h3 with rfl | rfl | rfl <;> simp [sum3, Tb.drop] <;> omega

theorem Inv.turn {T : Tb} {all : List Hd} (I : Inv T all) (H gb : Nat) : Inv (fresh H gb T.ns (T.life + 1)) (all.map fun h => { h with turned := true }) ∧ sumTo (fresh H gb T.ns (T.life + 1)).cnt 3 = 0 := by
  refine ⟨⟨I.ns, ?_, ?_, ?_, ?_⟩, ?_⟩
  · intro h hh
    obtain ⟨h0, hm, rfl⟩ := List.mem_map.1 hh
    obtain ⟨h1, h2, h3, h4⟩ := I.each h0 hm
    refine ⟨h1, h2, fun _ => ?_, by simp⟩
    show h0.life < T.life + 1
    cases ht : h0.turned with
    | true => have := h3 ht; omega
    | false => have := (h4 ht).1; omega
  · rw [List.pairwise_map]
    exact List.Pairwise.imp (fun _ h => by simp at h) I.uniq
  · intro s y _ _; rfl
  · intro s _; simp [fresh]
  · simp [sum3, fresh]

theorem Inv.find {T : Tb} {all : List Hd} (I : Inv T all) {h : Hd} (hh : h ∈ all) (z : Value) :
    T.find z h.s h.life h.num = if h.turned then (z, 180) else if h.ended then (z, 182) else (.int .i64 h.x, 0) := by
  obtain ⟨h1, h2, h3, h4⟩ := I.each h hh
  have hns := I.ns
  have en : ((h.s : Int)).toNat = h.s := by omega
  simp only [Tb.find, en]
  rw [if_neg (by omega)]
  cases ht : h.turned with
  | true => rw [if_pos ⟨h2, h3 ht⟩]; rfl
  | false =>
    obtain ⟨a, b, c, d⟩ := h4 ht
    rw [if_neg (by omega), if_neg (by omega), d]
    cases h.ended <;> rfl

open Go.RowKit
theorem mod3 (x : Int) : ∃ n : Nat, n < 3 ∧ (wrap64 (x.tmod 3 + 3)).tmod 3 = (n : Int) := by
  have h1 : x.tmod 3 < 3 := Int.tmod_lt_of_pos _ (by omega)
  have h2 : -3 < x.tmod 3 := by
    have h := Int.tmod_lt_of_pos (-x) (b := 3) (by omega)
    rw [Int.neg_tmod] at h
    omega
  have e : wrap64 (x.tmod 3 + 3) = x.tmod 3 + 3 := by unfold wrap64; omega
  rw [e]
  have h3 : 0 ≤ (x.tmod 3 + 3).tmod 3 := Int.tmod_nonneg _ (by omega)
  have h4 : (x.tmod 3 + 3).tmod 3 < 3 := Int.tmod_lt_of_pos _ (by omega)
  exact ⟨((x.tmod 3 + 3).tmod 3).toNat, by omega, by omega⟩

theorem modn (x : Int) (n : Nat) (h0 : 0 < n) (hn : n ≤ 4611686018427387904) : ∃ i : Nat, i < n ∧ (wrap64 (x.tmod (n : Int) + (n : Int))).tmod (n : Int) = (i : Int) := by
  have h1 : x.tmod n < n := Int.tmod_lt_of_pos _ (by omega)
  have h2 : -(n : Int) < x.tmod n := by
    have h := Int.tmod_lt_of_pos (-x) (b := n) (by omega)
    rw [Int.neg_tmod] at h
    omega
  have e : wrap64 (x.tmod (n : Int) + (n : Int)) = x.tmod (n : Int) + (n : Int) := by unfold wrap64; omega
  rw [e]
  have h3 : 0 ≤ (x.tmod (n : Int) + (n : Int)).tmod (n : Int) := Int.tmod_nonneg _ (by omega)
  have h4 : (x.tmod (n : Int) + (n : Int)).tmod (n : Int) < (n : Int) := Int.tmod_lt_of_pos _ (by omega)
  exact ⟨((x.tmod (n : Int) + (n : Int)).tmod (n : Int)).toNat, by omega, by omega⟩

/-- the first j are turned -/
def turnN : Nat → List Hd → List Hd
  | 0, l => l
  | _ + 1, [] => []
  | j + 1, h :: l => { h with turned := true } :: turnN j l

theorem turnN_length : ∀ (j : Nat) (l : List Hd), (turnN j l).length = l.length
  | 0, l => rfl
  | _ + 1, [] => rfl
  | j + 1, h :: l => by simp [turnN, turnN_length j l]

theorem turnN_get : ∀ (j : Nat) (l : List Hd), (turnN j l)[j]? = l[j]?
  | 0, l => rfl
  | _ + 1, [] => by simp [turnN]
  | j + 1, h :: l => by simpa [turnN] using turnN_get j l

theorem turnN_set : ∀ (j : Nat) (l : List Hd) (h : j < l.length), (turnN j l).set j { l[j] with turned := true } = turnN (j + 1) l
  | 0, [], h => by simp at h
  | 0, x :: l, h => by simp [turnN]
  | _ + 1, [], h => by simp at h
  | j + 1, x :: l, h => by
    have := turnN_set j l (by simpa using h)
    simp only [turnN, List.set_cons_succ, List.getElem_cons_succ]
    rw [this]

theorem turnN_all : ∀ (l : List Hd), turnN l.length l = l.map fun h => { h with turned := true }
  | [] => rfl
  | x :: l => by simp [turnN, turnN_all l]

theorem turnN_cells (j : Nat) (l : List Hd) (h : j < l.length) : (cellsOf (turnN j l)).set (j * 6 + 5) (.bool true) = cellsOf (turnN (j + 1) l) := by
  have hg := turnN_get j l
  have hl : j < (turnN j l).length := by rw [turnN_length]; exact h
  have e : (turnN j l)[j] = l[j] := by
    rw [List.getElem?_eq_getElem hl, List.getElem?_eq_getElem h] at hg
    exact Option.some.inj hg
  rw [cellsOf_set (turnN j l) j hl 5 (by omega) (.bool true) { l[j] with turned := true } (by rw [e]; rfl), turnN_set]

theorem newcells (w : World) (cs : List Value) (t : TypeId) : ∀ (j : Nat) (u : Value), cs[j]? = some u → (w.alloc (.cells cs.toArray t)).cell? ((⟨w.heap.size, 0, none⟩ : Addr).add j) = some u := by
  intro j u hu
  rw [Addr.add_lit]
  exact cellN rfl (by simpa using hu)

/-- a row of another element type lies apart from the table -/
theorem foot_ne {w : World} {tb : Nat} {T : Tb} (hT : TabAt w tb T) {g : Nat} {c : Array Value} {fr : Nat × Nat} {t : TypeId} (h : w.heap[g]? = some (.cells c t fr)) (h1 : t ≠ 80) (h2 : t ≠ 81) (h3 : t ≠ 3) : ∀ b, foot tb T b → b ≠ g := by
  intro b hb e
  subst e
  rcases hb with rfl | rfl | rfl | ⟨j, hj, rfl⟩
  · rw [hT.blkT] at h; simp at h; exact h1 h.2.1.symm
  · rw [hT.blkS] at h; simp at h; exact h2 h.2.1.symm
  · rw [hT.blkG] at h; simp at h; exact h3 h.2.1.symm
  · exact map_ne_cells (hT.maps j hj) h rfl

theorem row_block {w : World} {B g n cp : Nat} {e : TypeId} {size m : Nat} {xs : List Value} (h : w.ownsRow B e size (.slice (some ⟨g, 0, none⟩) n cp) m xs) : ∃ cur, w.heap[g]? = some (.cells cur e (0, 0)) := by
  rcases h.2 with ⟨h', _⟩ | ⟨g', cap', cur, h', _, hg, _⟩
  · simp at h'
  · simp at h'
    obtain ⟨rfl, _⟩ := h'
    exact ⟨cur, hg⟩

theorem row_kept {w w' : World} {B g n cp : Nat} {e : TypeId} {size m : Nat} {xs : List Value} (h : w.ownsRow B e size (.slice (some ⟨g, 0, none⟩) n cp) m xs) (hb : w'.heap[g]? = w.heap[g]?) : w'.ownsRow B e size (.slice (some ⟨g, 0, none⟩) n cp) m xs := by
  refine ⟨h.1, ?_⟩
  rcases h.2 with h' | ⟨g', cap', cur, h', hbg, hg, r⟩
  · exact .inl h'
  · simp at h'
    obtain ⟨rfl, rfl, rfl⟩ := h'
    exact .inr ⟨g, cp, cur, rfl, hbg, hb.trans hg, r⟩

theorem row_form {w : World} {B n : Nat} {e : TypeId} {size : Nat} {v : Value} {xs : List Value} (h : w.ownsRow B e size v n xs) (hn : 0 < n) : ∃ g cp, v = .slice (some ⟨g, 0, none⟩) n cp := by
  rcases h.2 with ⟨_, h'⟩ | ⟨g', cap', cur, h', _⟩
  · omega
  · exact ⟨g', cap', h'⟩

theorem held_cell {w : World} {B g n cp : Nat} {all : List Hd} (h : w.ownsRow B 48 6 (.slice (some ⟨g, 0, none⟩) n cp) n (cellsOf all)) (i : Nat) (hi : i < all.length) (c : Nat) (hc : c < 6) (v : Value) (hv : (all[i]).cells[c]? = some v) :
    w.cell? ⟨g, i * 6 + c, none⟩ = some v := by
  have := h.cells (g := g) rfl (i * 6 + c) v (by rw [cellsOf_get _ _ hi _ hc]; exact hv)
  rw [Addr.add_lit] at this
  simpa using this
end Go.Proofs.Ytonjoboilpoamaa.holds
