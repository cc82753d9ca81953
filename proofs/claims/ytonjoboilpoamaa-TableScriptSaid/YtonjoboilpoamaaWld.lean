/- Small facts on worlds: blocks behind a store or a new block; for any program. -/
import Derived.Test.YtonjoboilpoamaaMap
import Derived.Deep.QuietTactic
namespace Go.Proofs.Ytonjoboilpoamaa.wld
open Go.RowKit Go.ChangeMaps Go.MapKept

theorem set_same {w : World} {b o : Nat} {c : Array Value} {t : TypeId} {fr : Nat × Nat} (h : w.heap[b]? = some (.cells c t fr)) (v : Value) :
    (w.setCell ⟨b, o, none⟩ v).heap[b]? = some (.cells (c.setIfInBounds o v) t fr) := by
  simp [World.setCell, Array.getElem?_modify, h]

theorem set_other {w : World} {b : Nat} {a : Addr} (h : b ≠ a.block) (v : Value) : (w.setCell a v).heap[b]? = w.heap[b]? := Below.heap_setCell _ _ _ _ h

theorem alloc_other {w : World} {b : Nat} (h : b < w.heap.size) (o : Obj) : (w.alloc o).heap[b]? = w.heap[b]? := Below.heap_alloc _ _ _ h

theorem alloc_same (w : World) (o : Obj) : (w.alloc o).heap[w.heap.size]? = some o := (MapKept.heap_alloc w o).1

theorem size_alloc (w : World) (o : Obj) : (w.alloc o).heap.size = w.heap.size + 1 := by simp

theorem size_set (w : World) (a : Addr) (v : Value) : (w.setCell a v).heap.size = w.heap.size := by simp [World.setCell]

theorem lt_of_block {w : World} {b : Nat} {o : Obj} (h : w.heap[b]? = some o) : b < w.heap.size := (Array.getElem?_eq_some_iff.1 h).1

theorem cell_of {w : World} {b o : Nat} {c : Array Value} {t : TypeId} {fr : Nat × Nat} (h : w.heap[b]? = some (.cells c t fr)) {v : Value} (hv : c[o]? = some v) : w.cell? ⟨b, o, none⟩ = some v := by
  simp [World.cell?, h, hv]

theorem free_of {w : World} {b o : Nat} {c : Array Value} {t : TypeId} (h : w.heap[b]? = some (.cells c t (0, 0))) : w.frozen? ⟨b, o, none⟩ = false := by
  simp [World.frozen?, h]

theorem cellA {w : World} {a : Addr} {v : Value} (h : w.cell? a = some v) (o : Obj) : (w.alloc o).cell? a = some v :=
  (World.grownBy_alloc w o none).cell h (by simp)

theorem cellSet {w : World} {a p : Addr} {v : Value} (h : w.cell? a = some v) (hne : a.block ≠ p.block) (u : Value) : (w.setCell p u).cell? a = some v :=
  (World.cell?_of_block (set_other hne u)).trans h

theorem cellPut {w : World} {p : Addr} {u v : Value} (h : w.cell? p = some u) (hs : p.spot = none) : (w.setCell p v).cell? p = some v := by
  obtain ⟨b, o, sp⟩ := p
  cases hs
  simp only [World.cell?] at h ⊢
  split at h
  · rename_i c e fr hb
    have hb' : w.heap[b]? = some (.cells c e fr) := hb
    simp at h
    rw [show (w.setCell ⟨b, o, none⟩ v).heap[b]? = _ from set_same hb' v]
    have hlt : o < c.size := (Array.getElem?_eq_some_iff.1 h).1
    simp [hlt]
  · cases h

theorem cellOff {w : World} {b o o' : Nat} {v : Value} (h : w.cell? ⟨b, o, none⟩ = some v) (hne : o' ≠ o) (u : Value) : (w.setCell ⟨b, o', none⟩ u).cell? ⟨b, o, none⟩ = some v := by
  rw [World.cell?_setCell_other (a := ⟨b, o', none⟩) (b := ⟨b, o, none⟩) _ _ (by intro e; cases e; exact hne rfl)]
  exact h

theorem cellN {w : World} {H o : Nat} {c : Array Value} {t : TypeId} {fr : Nat × Nat} {v : Value} (h : w.heap.size = H) (hv : c[o]? = some v) : (w.alloc (.cells c t fr)).cell? ⟨H, o, none⟩ = some v := by
  subst h
  exact cell_of (alloc_same w _) hv

theorem freeN {w : World} {H o : Nat} {c : Array Value} {t : TypeId} (h : w.heap.size = H) : (w.alloc (.cells c t (0, 0))).frozen? ⟨H, o, none⟩ = false := by
  subst h
  exact free_of (alloc_same w _)

/-- w' is w but for the blocks of F (and new ones). -/
structure Kept (F : Nat → Prop) (w w' : World) : Prop where
  os : w'.os = w.os
  tape : w'.tape = w.tape
  output : w'.output = w.output
  size : w.heap.size ≤ w'.heap.size
  block : ∀ b, b < w.heap.size → ¬ F b → w'.heap[b]? = w.heap[b]?

theorem Kept.refl (F : Nat → Prop) (w : World) : Kept F w w := ⟨rfl, rfl, rfl, Nat.le_refl _, fun _ _ _ => rfl⟩

theorem Kept.trans {F : Nat → Prop} {a b c : World} (h : Kept F a b) (k : Kept F b c) : Kept F a c :=
  ⟨k.os.trans h.os, k.tape.trans h.tape, k.output.trans h.output, Nat.le_trans h.size k.size, fun i hi hF => (k.block i (Nat.lt_of_lt_of_le hi h.size) hF).trans (h.block i hi hF)⟩

theorem Kept.mono {F G : Nat → Prop} {w w' : World} (h : Kept F w w') (hg : ∀ b, b < w.heap.size → F b → G b) : Kept G w w' :=
  ⟨h.os, h.tape, h.output, h.size, fun i hi hG => h.block i hi (fun hF => hG (hg i hi hF))⟩

/-- The second step may write what the first has made, too. -/
theorem Kept.then {F G : Nat → Prop} {a b c : World} (h : Kept F a b) (k : Kept G b c) (hg : ∀ i, i < a.heap.size → G i → F i) : Kept F a c :=
  ⟨k.os.trans h.os, k.tape.trans h.tape, k.output.trans h.output, Nat.le_trans h.size k.size, fun i hi hF => (k.block i (Nat.lt_of_lt_of_le hi h.size) (fun hG => hF (hg i hi hG))).trans (h.block i hi hF)⟩

theorem Kept.of_below {w w' : World} (h : Below w.heap.size w w') (F : Nat → Prop) : Kept F w w' := ⟨h.os, h.tape, h.output, h.size, fun b hb _ => h.block b hb⟩

theorem Kept.to_below {F : Nat → Prop} {B : Nat} {w w' : World} (h : Kept F w w') (hF : ∀ b, b < B → ¬ F b) (hB : B ≤ w.heap.size) : Below B w w' :=
  ⟨h.os, h.tape, h.output, h.size, fun b hb => h.block b (by omega) (hF b hb)⟩

theorem Kept.alloc {F : Nat → Prop} {a w : World} (h : Kept F a w) (o : Obj) : Kept F a (w.alloc o) :=
  h.trans ⟨rfl, rfl, rfl, by simp, fun b hb _ => alloc_other hb o⟩

theorem Kept.drew {F : Nat → Prop} {a w : World} (h : Kept F a w) : Kept F a w.drew := ⟨h.os, h.tape, h.output, h.size, h.block⟩
theorem Kept.drewN {F : Nat → Prop} {a w : World} (h : Kept F a w) (n : Nat) : Kept F a (w.drewN n) := ⟨h.os, h.tape, h.output, h.size, h.block⟩

theorem Kept.set {F : Nat → Prop} {a w : World} (h : Kept F a w) {p : Addr} (hp : a.heap.size ≤ p.block ∨ F p.block) (v : Value) : Kept F a (w.setCell p v) :=
  ⟨h.os, h.tape, h.output, by rw [size_set]; exact h.size, fun i hi hF => (set_other (fun e => by subst e; rcases hp with hp | hp; omega; exact hF hp) v).trans (h.block i hi hF)⟩

theorem Kept.setBlock {F : Nat → Prop} {a w : World} (h : Kept F a w) {b : Nat} {o o' : Obj} (hb : w.heap[b]? = some o) (hp : a.heap.size ≤ b ∨ F b) : Kept F a (setBlock w b o') :=
  ⟨h.os, h.tape, h.output, by simpa [ChangeMaps.setBlock] using h.size, fun i hi hF => by
    have hne : i ≠ b := fun e => by subst e; rcases hp with hp | hp; omega; exact hF hp
    show (w.heap.setIfInBounds b o')[i]? = _
    rw [Array.getElem?_setIfInBounds_ne (Ne.symm hne)]
    exact h.block i hi hF⟩

theorem Kept.cell {F : Nat → Prop} {w w' : World} (h : Kept F w w') {p : Addr} {v : Value} (hc : w.cell? p = some v) (hp : ¬ F p.block) : w'.cell? p = some v :=
  (World.cell?_of_block (h.block p.block (World.block_lt_of_cell? w _ hc) hp)).trans hc

open Go.Proofs.Ytonjoboilpoamaa.imap

/-- how many entries there are behind a store -/
def cntPut (f : Int → Option Value) (a : Int) (n : Nat) : Nat := if (f a).isSome then n else n + 1

/-- 'm[k] = v' at the operation. -/
theorem wpList_put {P : Program} (w : World) {ops : Array Oper} {rest : List Oper} {o : Oper} {a : Act} {Q : Exit → Act → World → Prop}
    (hg : o.guard = none) (m x v : Operand) (t : TypeId) (hop : o.op = Op.mapUpdate t m x v)
    (k e : TypeId) (hk : P.underlying k = some (.int .i64)) (ht : P.underlying t = some (.map k e)) (b n : Nat) (f : Int → Option Value)
    (hm : a.eval m = .map (some b)) (h : IntMap w b f n) (key : Int) (ha : (Lit.int .i64 key).wf = true) (val : Value) (hx : a.eval x = .int .i64 key) (hv : a.eval v = val)
    (hK : ∀ w', IntMap w' b (setAt f key (some val)) (cntPut f key n) → Kept (fun i => i = b) w w' → wpList P ops Q rest (a.put o.dst undef) w') :
    wpList P ops Q (o :: rest) a w := by
  refine wpList_plain hg fun K' hK' => ?_
  obtain ⟨es, cl, es', cl', hb, hrun, h2⟩ := h.put hk ht ha val
  unfold Oper.wp
  simp [execOp, hop, hm, hx, hv, hrun, Result.andThen]
  exact hK' _ _ (hK _ h2 ((Kept.refl _ _).setBlock hb (.inr rfl)))

theorem Kept.free {F : Nat → Prop} {w w' : World} (h : Kept F w w') {p : Addr} (hc : w.frozen? p = false) (hl : p.block < w.heap.size) (hp : ¬ F p.block) : w'.frozen? p = false :=
  (World.frozen?_of_block (h.block p.block hl hp)).trans hc
end Go.Proofs.Ytonjoboilpoamaa.wld
