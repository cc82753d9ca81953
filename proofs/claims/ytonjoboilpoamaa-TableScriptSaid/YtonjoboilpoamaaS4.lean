/- TableScript: the walk of called. -/
import Derived.Test.YtonjoboilpoamaaS3
import Derived.Deep.RegionHeld3
import Derived.Deep.DrawnRows
namespace Go.Proofs.Ytonjoboilpoamaa.scr
set_option linter.unusedVariables false
set_option linter.unusedSimpArgs false
open Go.RowKit Go.Proofs.Ytonjoboilpoamaa.tab Go.Proofs.Ytonjoboilpoamaa.imap Go.Proofs.Ytonjoboilpoamaa.PTableScript

/-- both tables stand, tied, over w0 -/
structure At (w0 w : World) (t : Tp) (d : Doc) (v : Value) (k : Nat) : Prop where
  stands : Stands w t
  tied : Tied t d
  row : Row w w0.heap.size v d.l
  feet : ∀ b, feet t b → w0.heap.size ≤ b
  len : d.l.length ≤ k
  low : 0 ≤ d.L
  high : d.L ≤ 4611686018427387904 + k

def own (t : Tp) (v : Value) (b : Nat) : Prop := feet t b ∨ v.ownBlock = some b

theorem At.kept {w0 w w' : World} {t : Tp} {d : Doc} {v : Value} {k : Nat} {F : Nat → Prop} (h : At w0 w t d v k) (hk : KeptW F w w') (hF : ∀ b, own t v b → ¬ F b) : At w0 w' t d v k :=
  ⟨h.stands.kept hk (fun b hb => hF b (.inl hb)), h.tied, h.row.kept hk (fun b hb => hF b (.inr hb)), h.feet, h.len, h.low, h.high⟩

def CallPost (w0 w : World) (t : Tp) (v : Value) (k : Nat) (e : Ending) (w' : World) : Prop :=
  ∃ t' d' v', e = .returned (.tuple #[docV d' v', .bool true]) ∧ tp t' = tp t ∧ At w0 w' t' d' v' (k + 1) ∧ (∀ b, own t' v' b → own t v b ∨ w.heap.size ≤ b) ∧ KeptW (own t v) w w'

theorem At.same {w0 w w' : World} {t : Tp} {d : Doc} {v : Value} {k : Nat} (h : At w0 w t d v k) (hk : KeptW (fun _ => False) w w') : CallPost w0 w t v k (.returned (.tuple #[docV d v, .bool true])) w' := by
  have h2 := h.kept hk (fun _ _ h => h)
  exact ⟨t, d, v, rfl, rfl, ⟨h2.stands, h2.tied, h2.row, h2.feet, Nat.le_succ_of_le h2.len, h2.low, by have := h2.high; push_cast; omega⟩, fun b hb => .inl hb, hk.mono (fun _ _ h => h.elim)⟩

/-- called's own four blocks, from H on -/
structure Ent (H : Nat) (W : World) (b : Bool) (ns L : Int) (sl : Value) (kind who ses oa ob : Int) : Prop where
  c0 : W.cell? ⟨H, 0, none⟩ = some (.bool b)
  c1 : W.cell? ⟨H, 1, none⟩ = some (.int .i64 ns)
  c2 : W.cell? ⟨H, 2, none⟩ = some (.int .i64 L)
  c3 : W.cell? ⟨H, 3, none⟩ = some sl
  o0 : W.cell? ⟨H + 1, 0, none⟩ = some (.int .i64 kind)
  o1 : W.cell? ⟨H + 1, 1, none⟩ = some (.int .i64 who)
  o2 : W.cell? ⟨H + 1, 2, none⟩ = some (.int .i64 ses)
  o3 : W.cell? ⟨H + 1, 3, none⟩ = some (.int .i64 oa)
  o4 : W.cell? ⟨H + 1, 4, none⟩ = some (.int .i64 ob)
  q0 : W.cell? ⟨H + 1 + 1, 0, none⟩ = some (.bool false)
  q1 : W.cell? ⟨H + 1 + 1, 1, none⟩ = some (.int .i64 0)
  q2 : W.cell? ⟨H + 1 + 1, 2, none⟩ = some (.int .i64 0)
  q3 : W.cell? ⟨H + 1 + 1, 3, none⟩ = some (.slice none 0 0)
  f0 : W.frozen? ⟨H + 1 + 1, 0, none⟩ = false
  f1 : W.frozen? ⟨H + 1 + 1, 1, none⟩ = false
  f2 : W.frozen? ⟨H + 1 + 1, 2, none⟩ = false
  f3 : W.frozen? ⟨H + 1 + 1, 3, none⟩ = false
  h0 : W.cell? ⟨H + 1 + 1 + 1, 0, none⟩ = some (.int .i64 oa)
  h1 : W.cell? ⟨H + 1 + 1 + 1, 1, none⟩ = some (.int .i64 ob)
  size : H + 4 ≤ W.heap.size

def entered (w : World) (b : Bool) (ns L : Int) (sl : Value) (kind who ses oa ob : Int) : World :=
  ((((w.alloc (.cells #[.bool b, .int .i64 ns, .int .i64 L, sl] 58)).alloc (.cells #[.int .i64 kind, .int .i64 who, .int .i64 ses, .int .i64 oa, .int .i64 ob] 45)).alloc
    (.cells #[.bool false, .int .i64 0, .int .i64 0, .slice none 0 0] 58)).alloc (.cells #[.int .i64 oa, .int .i64 ob] 33))

theorem entered_ent (w : World) (b : Bool) (ns L : Int) (sl : Value) (kind who ses oa ob : Int) : Ent w.heap.size (entered w b ns L sl kind who ses oa ob) b ns L sl kind who ses oa ob := by
  have z1 : (w.alloc (.cells #[.bool b, .int .i64 ns, .int .i64 L, sl] 58)).heap.size = w.heap.size + 1 := by simp
  have z2 : ((w.alloc (.cells #[.bool b, .int .i64 ns, .int .i64 L, sl] 58)).alloc (.cells #[.int .i64 kind, .int .i64 who, .int .i64 ses, .int .i64 oa, .int .i64 ob] 45)).heap.size = w.heap.size + 1 + 1 := by simp
  have z3 : (((w.alloc (.cells #[.bool b, .int .i64 ns, .int .i64 L, sl] 58)).alloc (.cells #[.int .i64 kind, .int .i64 who, .int .i64 ses, .int .i64 oa, .int .i64 ob] 45)).alloc
    (.cells #[.bool false, .int .i64 0, .int .i64 0, .slice none 0 0] 58)).heap.size = w.heap.size + 1 + 1 + 1 := by simp
  unfold entered
  refine ⟨?_, ?_, ?_, ?_, ?_, ?_, ?_, ?_, ?_, ?_, ?_, ?_, ?_, ?_, ?_, ?_, ?_, ?_, ?_, by simp⟩
  · exact wld.cellA (wld.cellA (wld.cellA (wld.cellN rfl rfl) _) _) _
  · exact wld.cellA (wld.cellA (wld.cellA (wld.cellN rfl rfl) _) _) _
  · exact wld.cellA (wld.cellA (wld.cellA (wld.cellN rfl rfl) _) _) _
  · exact wld.cellA (wld.cellA (wld.cellA (wld.cellN rfl rfl) _) _) _
  · exact wld.cellA (wld.cellA (wld.cellN z1 rfl) _) _
  · exact wld.cellA (wld.cellA (wld.cellN z1 rfl) _) _
  · exact wld.cellA (wld.cellA (wld.cellN z1 rfl) _) _
  · exact wld.cellA (wld.cellA (wld.cellN z1 rfl) _) _
  · exact wld.cellA (wld.cellA (wld.cellN z1 rfl) _) _
  · exact wld.cellA (wld.cellN z2 rfl) _
  · exact wld.cellA (wld.cellN z2 rfl) _
  · exact wld.cellA (wld.cellN z2 rfl) _
  · exact wld.cellA (wld.cellN z2 rfl) _
  · exact freeA (wld.freeN z2) (by simp) _
  · exact freeA (wld.freeN z2) (by simp) _
  · exact freeA (wld.freeN z2) (by simp) _
  · exact freeA (wld.freeN z2) (by simp) _
  · exact wld.cellN z3 rfl
  · exact wld.cellN z3 rfl

theorem entered_kept (w : World) (F : Nat → Prop) (b : Bool) (ns L : Int) (sl : Value) (kind who ses oa ob : Int) : KeptW F w (entered w b ns L sl kind who ses oa ob) :=
  ((((wld.Kept.refl F w).alloc _).alloc _).alloc _).alloc _

theorem Ent.kept {H : Nat} {W W' : World} {b : Bool} {ns L : Int} {sl : Value} {kind who ses oa ob : Int} {F : Nat → Prop} (h : Ent H W b ns L sl kind who ses oa ob) (hk : KeptW F W W') (hF : ∀ b, F b → b < H) :
    Ent H W' b ns L sl kind who ses oa ob := by
  have n0 : ¬ F H := fun x => by have := hF _ x; omega
  have n1 : ¬ F (H + 1) := fun x => by have := hF _ x; omega
  have n2 : ¬ F (H + 1 + 1) := fun x => by have := hF _ x; omega
  have n3 : ¬ F (H + 1 + 1 + 1) := fun x => by have := hF _ x; omega
  have l2 : H + 1 + 1 < W.heap.size := by have := h.size; omega
  exact ⟨hk.cell h.c0 n0, hk.cell h.c1 n0, hk.cell h.c2 n0, hk.cell h.c3 n0, hk.cell h.o0 n1, hk.cell h.o1 n1, hk.cell h.o2 n1, hk.cell h.o3 n1, hk.cell h.o4 n1,
    hk.cell h.q0 n2, hk.cell h.q1 n2, hk.cell h.q2 n2, hk.cell h.q3 n2, hk.free h.f0 l2 n2, hk.free h.f1 l2 n2, hk.free h.f2 l2 n2, hk.free h.f3 l2 n2, hk.cell h.h0 n3, hk.cell h.h1 n3, Nat.le_trans h.size hk.size⟩

def put4 (W : World) (p : Nat) (x0 x1 x2 x3 : Value) : World := (((W.setCell ⟨p, 0, none⟩ x0).setCell ⟨p, 1, none⟩ x1).setCell ⟨p, 2, none⟩ x2).setCell ⟨p, 3, none⟩ x3

theorem put4_cells {W : World} {p : Nat} {y0 y1 y2 y3 : Value} (x0 x1 x2 x3 : Value) (q0 : W.cell? ⟨p, 0, none⟩ = some y0) (q1 : W.cell? ⟨p, 1, none⟩ = some y1) (q2 : W.cell? ⟨p, 2, none⟩ = some y2) (q3 : W.cell? ⟨p, 3, none⟩ = some y3) :
    (put4 W p x0 x1 x2 x3).cell? ⟨p, 0, none⟩ = some x0 ∧ (put4 W p x0 x1 x2 x3).cell? ⟨p, 1, none⟩ = some x1 ∧ (put4 W p x0 x1 x2 x3).cell? ⟨p, 2, none⟩ = some x2 ∧ (put4 W p x0 x1 x2 x3).cell? ⟨p, 3, none⟩ = some x3 := by
  unfold put4
  refine ⟨?_, ?_, ?_, ?_⟩
  · exact wld.cellOff (wld.cellOff (wld.cellOff (wld.cellPut q0 rfl) (by decide) _) (by decide) _) (by decide) _
  · exact wld.cellOff (wld.cellOff (wld.cellPut (wld.cellOff q1 (by decide) _) rfl) (by decide) _) (by decide) _
  · exact wld.cellOff (wld.cellPut (wld.cellOff (wld.cellOff q2 (by decide) _) (by decide) _) rfl) (by decide) _
  · exact wld.cellPut (wld.cellOff (wld.cellOff (wld.cellOff q3 (by decide) _) (by decide) _) (by decide) _) rfl

theorem put4_kept {w W : World} {F : Nat → Prop} {p : Nat} {x0 x1 x2 x3 : Value} (h : KeptW F w W) (hp : w.heap.size ≤ p) : KeptW F w (put4 W p x0 x1 x2 x3) :=
  ((((h.set (p := ⟨p, 0, none⟩) (.inl hp) _).set (p := ⟨p, 1, none⟩) (.inl hp) _).set (p := ⟨p, 2, none⟩) (.inl hp) _).set (p := ⟨p, 3, none⟩) (.inl hp) _)

theorem put4_own (W : World) (p : Nat) (x0 x1 x2 x3 : Value) : KeptW (fun b => b = p) W (put4 W p x0 x1 x2 x3) :=
  (((((wld.Kept.refl (fun b => b = p) W).set (p := ⟨p, 0, none⟩) (.inr rfl) _).set (p := ⟨p, 1, none⟩) (.inr rfl) _).set (p := ⟨p, 2, none⟩) (.inr rfl) _).set (p := ⟨p, 3, none⟩) (.inr rfl) _)

set_option maxRecDepth 100000 in
set_option maxHeartbeats 8000000 in
theorem called_find (w0 w : World) (hB : Below w0.heap.size w0 w) (t : Tp) (d : Doc) (v : Value) (k : Nat) (hA : At w0 w t d v k) (hk : k < 4398046511104) (who ses oa ob : Int) :
    Calls Try.prog 21 #[tp t, docV d v, .agg #[.int .i64 2, .int .i64 who, .int .i64 ses, .int .i64 oa, .int .i64 ob]] w (CallPost w0 w t v k) := by
  obtain ⟨A, c, rfl, hc, hC⟩ := hA.row.shape
  have HF := Lib.hid (fun (W : World) (hW : KeptW (fun _ => False) w W) => t_find t d ses oa ob W (hA.stands.kept hW (fun _ _ h => h)) hA.tied)
  have HP := Lib.hid (fun (W : World) (hW : KeptW (fun _ => False) w W) => r_place d (.slice A d.l.length c) ses oa ob w0 W (hA.row.kept hW (fun _ _ h => h)) (by have := hA.len; omega))
  have HE := Lib.hid (fun (W : World) (hW : KeptW (fun _ => False) w W) => hA.same hW)
  have HI := Lib.hid (@Tied.place ses oa ob _ _ hA.tied)
  have HC := Lib.hid hC
  generalize tp t = tv at *
  have hX : d.findX ses oa ob = if (d.place ses oa ob).2 = 0 then (rd_T88 d.l (d.place ses oa ob).1).f2 else 0 := rfl
  have HX := Lib.hid hX
  clear hX hA hC
  generalize hp : d.place ses oa ob = pl at *
  obtain ⟨pi, pc⟩ := pl
  simp only [docV] at HP HE ⊢
  generalize d.findX ses oa ob = fx at *
  go_enter Try.func21, Try.ntmps21
  go_wp2_with fail
  have E1 := Lib.hid (entered_ent w d.there d.ns d.L (.slice A d.l.length c) 2 who ses oa ob)
  have K1 := Lib.hid (entered_kept w (fun _ => False) d.there d.ns d.L (.slice A d.l.length c) 2 who ses oa ob)
  change Calls Try.prog 19 _ (entered w d.there d.ns d.L (.slice A d.l.length c) 2 who ses oa ob) _
  generalize entered w d.there d.ns d.L (.slice A d.l.length c) 2 who ses oa ob = W1 at *
  refine (HF.out W1 K1.out).mono ?_
  rintro e w2 ⟨rfl, hb2⟩
  have K2 := Lib.hid (K1.out.then (wld.Kept.of_below hb2 (fun _ => False)) (fun _ _ h => h))
  have E2 := E1.out.kept (wld.Kept.of_below hb2 (fun _ => False)) (fun _ h => h.elim)
  clear E1 K1 hb2
  obtain ⟨c0, c1, c2, c3, o0, o1, o2, o3, o4, q0, q1, q2, q3, f0, f1, f2, f3, h0, h1, hsz⟩ := E2
  go_wp2_with fail
  refine (HP.out w2 K2.out).mono ?_
  rintro e w3 ⟨rfl, hb3⟩
  have K3 := Lib.hid (K2.out.then (wld.Kept.of_below hb3 (fun _ => False)) (fun _ _ h => h))
  have E3 := (Ent.mk c0 c1 c2 c3 o0 o1 o2 o3 o4 q0 q1 q2 q3 f0 f1 f2 f3 h0 h1 hsz).kept (wld.Kept.of_below hb3 (fun _ => False)) (fun _ h => h.elim)
  clear c0 c1 c2 c3 o0 o1 o2 o3 o4 q0 q1 q2 q3 f0 f1 f2 f3 h0 h1 hsz K2 hb3
  obtain ⟨c0, c1, c2, c3, o0, o1, o2, o3, o4, q0, q1, q2, q3, f0, f1, f2, f3, h0, h1, hsz⟩ := E3
  by_cases c0' : pc = 0
  · obtain ⟨i, hi, rfl⟩ := HI.out c0'
    subst c0'
    obtain ⟨ad, hA, hc0, _, hc2, _⟩ := at_T88 HC.out (i : Int) (by omega) (by omega)
    have hx := HX.out
    rw [if_pos rfl] at hx
    rw [← hx] at hc2
    clear hx
    subst hA
    obtain ⟨b, off, e⟩ : ∃ b off, ad.add ((i : Int).toNat * 4) = ⟨b, off, none⟩ := by
      have := World.cell?_spot hc0
      generalize ad.add ((i : Int).toNat * 4) = z at *
      obtain ⟨b, off, sp⟩ := z
      simp at this
      exact ⟨b, off, by rw [this]⟩
    rw [e] at hc2
    have ein : (i : Int).toNat = i := by omega
    rw [ein] at e
    have g2 : w3.cell? ⟨b, off + 2, none⟩ = some (.int .i64 fx) := K3.out.cell hc2 (fun h => h)
    clear hc0 hc2
    go_wp2_with fail
    obtain ⟨z0, z1, z2, z3⟩ := put4_cells (.bool d.there) (.int .i64 d.ns) (.int .i64 d.L) (.slice (some ad) d.l.length c) q0 q1 q2 q3
    exact bodyPost_ret (v := .tuple #[.agg #[.bool d.there, .int .i64 d.ns, .int .i64 d.L, .slice (some ad) d.l.length c], .bool true]) (by simp only [put4] at z0 z1 z2 z3; simp [results, Try.results21, go_sem, z0, z1, z2, z3]) rfl (HE.out _ (put4_kept K3.out (by omega)))
  · have c0'' : (pc == 0) = false := by simpa using c0'
    have hx := HX.out
    rw [if_neg c0'] at hx
    subst hx
    go_wp2_with fail
    obtain ⟨z0, z1, z2, z3⟩ := put4_cells (.bool d.there) (.int .i64 d.ns) (.int .i64 d.L) (.slice A d.l.length c) q0 q1 q2 q3
    exact bodyPost_ret (v := .tuple #[.agg #[.bool d.there, .int .i64 d.ns, .int .i64 d.L, .slice A d.l.length c], .bool true]) (by simp only [put4] at z0 z1 z2 z3; simp [results, Try.results21, go_sem, z0, z1, z2, z3]) rfl (HE.out _ (put4_kept K3.out (by omega)))
end Go.Proofs.Ytonjoboilpoamaa.scr
