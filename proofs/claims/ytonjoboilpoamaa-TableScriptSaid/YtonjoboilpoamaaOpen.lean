/- How a script that comes in is read: its cells. -/
import Derived.Test.YtonjoboilpoamaaH1
import Derived.ProofKit
import Derived.OpenShut
import Derived.Deep.Slices
import Derived.Deep.Fields
import Derived.ChangeSame
namespace Go.Proofs.Ytonjoboilpoamaa.opens
set_option linter.unusedVariables false
open Go.ChangeShapes Go.WideShapes Go.Deep Go.RowKit Go.Proofs.Ytonjoboilpoamaa.holds

section
variable {H : Type} {enc : TypeId × Value → H} {P : Program} {w : World} {base : Nat} {spare : Nat → Bool} {held : Bool}
theorem open_slice_fields {t e : TypeId} {fs : Array Field} {fuel : Nat} {cs : List Value} {x : DataW H × List MemPlace} (ht : P.underlying t = some (.slice e)) (he : P.underlying e = some (.struct fs))
    (hone : oneCellFields P fs = true) (hC : P.cellsOf e = fs.size) (h : DataW.trod enc P w base spare held fuel t cs = some x) :
    (cs = [.slice none 0 0] ∧ x = (.nil, [])) ∨
    ∃ (a : Addr) (len cap m : Nat) (D : Nat → DataW H) (Pl : Nat → List MemPlace), cs = [.slice (some a) len cap] ∧ base ≤ a.block ∧ len ≤ cap ∧ cap ≤ maxLen ∧ m = (if spare a.block then cap else len) ∧
      x = (.slice ((List.range len).map D) ((List.range (m - len)).map fun j => D (len + j)), MemPlace.row a (m * fs.size) ++ (List.range m).flatMap Pl) ∧
      ∀ i, i < m → ∃ (ys : List (DataW H × List MemPlace)) (n : Nat), D i = .agg (ys.map (·.1)) ∧ Pl i = ys.flatMap (·.2) ∧ ys.length = fs.size ∧
        ∀ (j : Nat) (f : Field), fs[j]? = some f → ∃ (v : Value) (y : DataW H × List MemPlace), w.cell? (a.add (i * fs.size + j)) = some v ∧ ys[j]? = some y ∧ DataW.trod enc P w base spare held n f.type [v] = some y := by
  rcases open_slice ht h with h0 | ⟨a, len, cap, m, n, D, Pl, hcs, hb, hl, hm, hmm, hx, hi⟩
  · exact .inl h0
  · refine .inr ⟨a, len, cap, m, D, Pl, hcs, hb, hl, hm, hmm, by rw [hC] at hx; exact hx, fun i him => ?_⟩
    obtain ⟨cs', hc, ht'⟩ := hi i him
    rw [hC] at hc
    obtain ⟨ys, n', hn', hy, hlen, hyl, hf⟩ := DataW.trod_struct he ht'
    obtain ⟨_, hcl, hat⟩ := World.cells?_some hc
    simp only [Prod.mk.injEq] at hy
    refine ⟨ys, n', hy.1, hy.2, hyl, fun j f hj => ?_⟩
    obtain ⟨ho, hk⟩ := hone_of hone j f hj
    have hjl : j < fs.size := (Array.getElem?_eq_some_iff.1 hj).1
    have hcell := hat j hjl
    have hv : cs'[j]? = some (cs'[j]'(by omega)) := List.getElem?_eq_getElem (by omega)
    have h1 := hf j f hj
    rw [ho, hk] at h1
    have hone' : (cs'.drop j).take 1 = [cs'[j]'(by omega)] := by
      rw [List.drop_eq_getElem_cons (by omega)]
      rfl
    rw [hone'] at h1
    have hys : ys[j]? = some (ys[j]'(by omega)) := List.getElem?_eq_getElem (by omega)
    refine ⟨_, _, ?_, hys, h1.trans hys⟩
    rw [← Go.Deep.add_add, hcell, hv]
end

theorem list_of {α : Type} [Inhabited α] (n : Nat) (R : Nat → α → Prop) (h : ∀ i, i < n → ∃ a, R i a) : ∃ l : List α, l.length = n ∧ ∀ i (hi : i < l.length), R i l[i] := by
  induction n with
  | zero => exact ⟨[], rfl, fun i hi => absurd hi (by simp)⟩
  | succ n ih =>
    obtain ⟨l, hl, hr⟩ := ih (fun i hi => h i (by omega))
    obtain ⟨a, ha⟩ := h n (by omega)
    refine ⟨l ++ [a], by simp [hl], fun i hi => ?_⟩
    rw [List.getElem_append]
    split
    · rename_i hlt; exact hr i hlt
    · rename_i hge
      have : i = n := by simp at hi; omega
      subst this
      simpa using ha

theorem spot_none {w : World} {a : Addr} {v : Value} (h : w.cell? (a.add 0) = some v) : ∃ b off, a = ⟨b, off, none⟩ := by
  obtain ⟨b, off, spot⟩ := a
  have hspot : spot = none := by simpa [Addr.add] using World.cell?_spot h
  subst hspot
  exact ⟨b, off, rfl⟩

theorem cell_lit {w : World} {b off k j : Nat} {v : Value} (h : w.cell? ((⟨b, off, none⟩ : Addr).add (k + j)) = some v) : w.cell? ⟨b, off + k + j, none⟩ = some v := by
  rw [Addr.add_lit] at h
  rw [Nat.add_assoc]
  exact h

/-- all fields are within int -/
def WfOps (ops : List Op5) : Prop := ∀ i (h : i < ops.length), (Lit.int .i64 (ops[i]).kind).wf = true ∧ (Lit.int .i64 (ops[i]).who).wf = true ∧ (Lit.int .i64 (ops[i]).ses).wf = true ∧ (Lit.int .i64 (ops[i]).a).wf = true ∧ (Lit.int .i64 (ops[i]).b).wf = true

theorem open_script {H : Type} {enc : TypeId × Value → H} {w : World} {base : Nat} {spare : Nat → Bool} {held : Bool} {fuel : Nat} {A : Option Addr} {len cap : Nat} {x : DataW H × List MemPlace} (h : DataW.trod enc Try.prog w base spare held fuel 39 [.slice A len cap] = some x) :
    ∃ ops : List Op5, ops.length = len ∧ Script w A ops ∧ WfOps ops ∧ ((x.1 = .nil ∧ len = 0) ∨ ∃ el sp, x.1 = .slice el sp ∧ el.length = len) := by
  rcases open_slice_fields Try.underlying39 Try.underlying45 (by kernel_rfl) (by kernel_rfl) h with ⟨hcs, rfl⟩ | ⟨a, len', cap', m, D, Pl, hcs, _, hl, hm, hmm, hx, hi⟩
  · simp at hcs
    obtain ⟨rfl, rfl, rfl⟩ := hcs
    exact ⟨[], rfl, fun i hi => absurd hi (by simp), fun i hi => absurd hi (by simp), .inl ⟨rfl, rfl⟩⟩
  · simp at hcs
    obtain ⟨rfl, rfl, rfl⟩ := hcs
    have hle : len ≤ m := by rw [hmm]; split <;> omega
    rcases Nat.eq_zero_or_pos len with h0 | hpos
    · subst h0
      exact ⟨[], rfl, fun i hi => absurd hi (by simp), fun i hi => absurd hi (by simp), .inr ⟨_, _, by rw [hx], by simp⟩⟩
    obtain ⟨b, off, rfl⟩ : ∃ b off, a = ⟨b, off, none⟩ := by
      obtain ⟨ys, n, _, _, _, hf⟩ := hi 0 (by omega)
      obtain ⟨v0, y0, c0, _, t0⟩ := hf 0 _ rfl
      exact spot_none (by simpa using c0)
    obtain ⟨ops, ho, hr⟩ := list_of (α := Op5) len (fun i o => (w.cell? ⟨b, off + i * 5, none⟩ = some (.int .i64 o.kind) ∧ w.cell? ⟨b, off + i * 5 + 1, none⟩ = some (.int .i64 o.who) ∧
        w.cell? ⟨b, off + i * 5 + 2, none⟩ = some (.int .i64 o.ses) ∧ w.cell? ⟨b, off + i * 5 + 3, none⟩ = some (.int .i64 o.a) ∧ w.cell? ⟨b, off + i * 5 + 4, none⟩ = some (.int .i64 o.b)) ∧
        ((Lit.int .i64 o.kind).wf = true ∧ (Lit.int .i64 o.who).wf = true ∧ (Lit.int .i64 o.ses).wf = true ∧ (Lit.int .i64 o.a).wf = true ∧ (Lit.int .i64 o.b).wf = true)) (fun i hil => by
      obtain ⟨ys, n, _, _, _, hf⟩ := hi i (by omega)
      obtain ⟨v0, y0, c0, _, t0⟩ := hf 0 _ rfl
      obtain ⟨v1, y1, c1, _, t1⟩ := hf 1 _ rfl
      obtain ⟨v2, y2, c2, _, t2⟩ := hf 2 _ rfl
      obtain ⟨v3, y3, c3, _, t3⟩ := hf 3 _ rfl
      obtain ⟨v4, y4, c4, _, t4⟩ := hf 4 _ rfl
      obtain ⟨a0, e0, _, w0⟩ := DataW.trod_int Try.underlying3 t0
      obtain ⟨a1, e1, _, w1⟩ := DataW.trod_int Try.underlying3 t1
      obtain ⟨a2, e2, _, w2⟩ := DataW.trod_int Try.underlying3 t2
      obtain ⟨a3, e3, _, w3⟩ := DataW.trod_int Try.underlying3 t3
      obtain ⟨a4, e4, _, w4⟩ := DataW.trod_int Try.underlying3 t4
      simp at e0 e1 e2 e3 e4
      subst e0 e1 e2 e3 e4
      exact ⟨⟨a0, a1, a2, a3, a4⟩, ⟨cell_lit (k := i * 5) (j := 0) c0, cell_lit (k := i * 5) (j := 1) c1, cell_lit (k := i * 5) (j := 2) c2, cell_lit (k := i * 5) (j := 3) c3, cell_lit (k := i * 5) (j := 4) c4⟩, w0, w1, w2, w3, w4⟩)
    refine ⟨ops, ho, fun i hi' => ⟨b, off, rfl, (hr i hi').1⟩, fun i hi' => (hr i hi').2, .inr ⟨_, _, by rw [hx], by simp⟩⟩
end Go.Proofs.Ytonjoboilpoamaa.opens
