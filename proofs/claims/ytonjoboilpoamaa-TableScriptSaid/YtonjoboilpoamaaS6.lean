/- TableScript: the walk of called, End. -/
import Derived.Test.YtonjoboilpoamaaS4
namespace Go.Proofs.Ytonjoboilpoamaa.scr
set_option linter.unusedVariables false
set_option linter.unusedSimpArgs false
open Go.RowKit Go.Proofs.Ytonjoboilpoamaa.tab Go.Proofs.Ytonjoboilpoamaa.imap Go.Proofs.Ytonjoboilpoamaa.PTableScript

theorem close_post {w0 w W3 w4 Wf : World} {t t' : Tp} {d d' : Doc} {sl sl' : Value} {k : Nat} (hB : w0.heap.size ≤ w.heap.size) (hA : At w0 w t d sl k) (hS : Stands W3 t') (hT : Tied t' d') (htp : tp t' = tp t)
    (hft : ∀ b, feet t' b → feet t b ∨ w.heap.size + 4 ≤ b) (K3 : KeptW (feet t) w W3) (g3 : w.heap.size + 4 ≤ W3.heap.size) (hr : Row w4 w0.heap.size sl' d'.l)
    (ho : ∀ b, sl'.ownBlock = some b → sl.ownBlock = some b ∨ W3.heap.size ≤ b) (hk4 : KeptW (fun b => sl.ownBlock = some b) W3 w4) (hkf : KeptW (fun b => b = w.heap.size + 1 + 1) w4 Wf)
    (hl : d'.l.length ≤ d.l.length + 1) (h0 : 0 ≤ d'.L) (h1 : d'.L ≤ 4611686018427387904 + k + 1) : CallPost w0 w t sl k (.returned (.tuple #[docV d' sl', .bool true])) Wf := by
  have s4 := hS.kept hk4 (fun b hb h => by
    rcases hft b hb with h2 | h2
    · exact hA.row.apart hA.stands h2 h
    · have := hA.row.lt h; omega)
  have s5 := s4.kept hkf (fun b hb h => by
    rcases hft b hb with h2 | h2
    · have := hA.stands.lt h2; omega
    · omega)
  have r5 := hr.kept hkf (fun b hb h => by
    rcases ho b hb with h2 | h2
    · have := hA.row.lt h2; omega
    · omega)
  refine ⟨t', d', sl', rfl, htp, ⟨s5, hT, r5, ?_, ?_, h0, by push_cast; omega⟩, ?_, ?_⟩
  · intro b hb
    rcases hft b hb with h2 | h2
    · exact hA.feet b h2
    · have hh := K3.size
      omega
  · have := hA.len; omega
  · intro b hb
    rcases hb with hb | hb
    · exact (hft b hb).imp (fun h => .inl h) (fun h => by omega)
    · exact (ho b hb).imp (fun h => .inr h) (fun h => by omega)
  · exact ((K3.mono (fun b _ h => .inl h)).then hk4 (fun b _ h => .inr h)).then hkf (fun b hb h => by omega)

theorem turn_len (d : Doc) (h : 0 ≤ d.L) : d.turn.l.length ≤ d.l.length + 1 ∧ 0 ≤ d.turn.L ∧ d.turn.L ≤ d.L + 1 := by
  unfold Doc.turn
  split
  · simp; omega
  · simp [h]; omega

theorem ends_len (d : Doc) (s x y : Int) : (d.ends s x y).1.l.length ≤ d.l.length + 1 ∧ (d.ends s x y).1.L = d.L := by
  unfold Doc.ends
  split <;> simp

set_option maxRecDepth 100000 in
set_option maxHeartbeats 8000000 in
theorem called_end (w0 w : World) (hB : Below w0.heap.size w0 w) (t : Tp) (d : Doc) (v : Value) (k : Nat) (hA : At w0 w t d v k) (hk : k < 4398046511104) (who ses oa ob : Int) :
    Calls Try.prog 21 #[tp t, docV d v, .agg #[.int .i64 3, .int .i64 who, .int .i64 ses, .int .i64 oa, .int .i64 ob]] w (CallPost w0 w t v k) := by
  obtain ⟨A, c, rfl, hc, hC⟩ := hA.row.shape
  have HA := Lib.hid (fun (W : World) (hW : KeptW (fun _ => False) w W) => t_end t d ses oa ob W (hA.stands.kept hW (fun _ _ h => h)) hA.tied)
  have HR := Lib.hid (fun (W : World) (hW : Below w0.heap.size w0 W) (hR : Row W w0.heap.size (.slice A d.l.length c) d.l) => r_end t d hA.tied (.slice A d.l.length c) ses oa ob w0 W hW hR (by have := hA.len; omega))
  have HAt := Lib.hid hA
  have HL := Lib.hid (ends_len d ses oa ob)
  clear hA hC
  generalize htv : tp t = tv at *
  generalize d.ends ses oa ob = r at *
  obtain ⟨d', rc⟩ := r
  simp only [docV] at HR ⊢
  go_enter Try.func21, Try.ntmps21
  go_wp2_with fail
  have E1 := Lib.hid (entered_ent w d.there d.ns d.L (.slice A d.l.length c) 3 who ses oa ob)
  have K1 := Lib.hid (entered_kept w (fun _ => False) d.there d.ns d.L (.slice A d.l.length c) 3 who ses oa ob)
  change Calls Try.prog 16 _ (entered w d.there d.ns d.L (.slice A d.l.length c) 3 who ses oa ob) _
  generalize entered w d.there d.ns d.L (.slice A d.l.length c) 3 who ses oa ob = W1 at *
  refine (HA.out W1 K1.out).mono ?_
  rintro e w2 ⟨rfl, t', hS2, hT2, htp, hft, hk2⟩
  have K2 := Lib.hid (((K1.out.mono (fun _ _ h => h.elim)).then hk2 (fun _ _ h => h) : KeptW (feet t) w w2))
  have E2 := E1.out.kept hk2 (fun b hb => HAt.out.stands.lt hb)
  clear E1 K1 hk2
  obtain ⟨c0, c1, c2, c3, o0, o1, o2, o3, o4, q0, q1, q2, q3, f0, f1, f2, f3, h0, h1, hsz⟩ := E2
  have l0 : w.heap.size < w2.heap.size := by omega
  have l1 : w.heap.size + 1 < w2.heap.size := by omega
  have l2 : w.heap.size + 1 + 1 < w2.heap.size := by omega
  have l3 : w.heap.size + 1 + 1 + 1 < w2.heap.size := by omega
  go_wp2_with fail
  have E3 := Ent.mk c0 c1 c2 c3 o0 o1 o2 o3 o4 q0 q1 q2 q3 f0 f1 f2 f3 h0 h1 hsz
  have gs2 : w.heap.size ≤ w2.heap.size := K2.out.size
  have gs4 : w.heap.size + 4 ≤ w2.heap.size := hsz
  have K3 := K2
  have HS3 := Lib.hid hS2
  clear c0 c1 c2 c3 o0 o1 o2 o3 o4 q0 q1 q2 q3 f0 f1 f2 f3 h0 h1 hsz l0 l1 l2 l3 K2 hS2
  obtain ⟨W3, rfl⟩ : ∃ W3, W3 = w2 := ⟨_, rfl⟩
  have B3 : Below w0.heap.size w0 W3 := hB.trans (K3.out.to_below (fun b hb h => by have := HAt.out.feet b h; omega) hB.size)
  have R3 := HAt.out.row.kept K3.out (fun b hb h => HAt.out.row.apart HAt.out.stands h hb)
  refine (HR.out W3 B3 R3).mono ?_
  rintro e w4 ⟨v', rfl, hr4, ho4, hk4⟩
  have E4 := E3.kept hk4 (fun b hb => HAt.out.row.lt hb)
  have gl : ∀ b, (Value.slice A d.l.length c).ownBlock = some b → b < w.heap.size := fun b hb => HAt.out.row.lt hb
  have gw := K3.out.size
  obtain ⟨A', c', rfl, hc', _⟩ := hr4.shape
  obtain ⟨c0, c1, c2, c3, o0, o1, o2, o3, o4, q0, q1, q2, q3, f0, f1, f2, f3, h0, h1, hsz⟩ := E4
  have l0 : w.heap.size < w4.heap.size := by omega
  have l1 : w.heap.size + 1 < w4.heap.size := by omega
  have l2 : w.heap.size + 1 + 1 < w4.heap.size := by omega
  have l3 : w.heap.size + 1 + 1 + 1 < w4.heap.size := by omega
  have x2 : ¬ w.heap.size + 1 + 1 = w4.heap.size := by omega
  go_wp2_with fail
  obtain ⟨z0, z1, z2, z3⟩ := put4_cells (.bool d'.there) (.int .i64 d'.ns) (.int .i64 d'.L) (.slice A' d'.l.length c') q0 q1 q2 q3
  replace z0 := wld.cellA z0 (.cells #[.bool d'.there, .int .i64 d'.ns, .int .i64 d'.L, .slice A' d'.l.length c'] 58)
  replace z1 := wld.cellA z1 (.cells #[.bool d'.there, .int .i64 d'.ns, .int .i64 d'.L, .slice A' d'.l.length c'] 58)
  replace z2 := wld.cellA z2 (.cells #[.bool d'.there, .int .i64 d'.ns, .int .i64 d'.L, .slice A' d'.l.length c'] 58)
  replace z3 := wld.cellA z3 (.cells #[.bool d'.there, .int .i64 d'.ns, .int .i64 d'.L, .slice A' d'.l.length c'] 58)
  refine bodyPost_ret (v := .tuple #[.agg #[.bool d'.there, .int .i64 d'.ns, .int .i64 d'.L, .slice A' d'.l.length c'], .bool true]) (by simp only [put4] at z0 z1 z2 z3; simp [results, Try.results21, go_sem, z0, z1, z2, z3]) rfl ?_
  have hl := HL.out
  exact close_post hB.size HAt.out HS3.out hT2 (htp.trans htv.symm) (fun b hb => .inl (by rw [← hft]; exact hb)) K3.out gs4 hr4 ho4 hk4 ((put4_own w4 _ _ _ _ _).alloc _) hl.1 (by rw [hl.2]; exact HAt.out.low) (by rw [hl.2]; have := HAt.out.high; omega)

set_option maxRecDepth 100000 in
set_option maxHeartbeats 8000000 in
theorem called_turn (w0 w : World) (hB : Below w0.heap.size w0 w) (t : Tp) (d : Doc) (v : Value) (k : Nat) (hA : At w0 w t d v k) (hk : k < 4398046511104) (who ses oa ob : Int) :
    Calls Try.prog 21 #[tp t, docV d v, .agg #[.int .i64 6, .int .i64 who, .int .i64 ses, .int .i64 oa, .int .i64 ob]] w (CallPost w0 w t v k) := by
  obtain ⟨A, c, rfl, hc, hC⟩ := hA.row.shape
  have HA := Lib.hid (fun (W : World) (hW : KeptW (fun _ => False) w W) => t_turn t d W (hA.stands.kept hW (fun _ _ h => h)) hA.tied (by have := hA.high; omega))
  have HR := Lib.hid (fun (W : World) (hW : Below w0.heap.size w0 W) (hR : Row W w0.heap.size (.slice A d.l.length c) d.l) => r_turn d (.slice A d.l.length c) w0 W hW hR hA.low (by have := hA.high; omega))
  have HAt := Lib.hid hA
  have HL := Lib.hid (turn_len d hA.low)
  clear hA hC
  generalize htv : tp t = tv at *
  generalize d.turn = d' at *
  simp only [docV] at HR ⊢
  go_enter Try.func21, Try.ntmps21
  go_wp2_with fail
  have E1 := Lib.hid (entered_ent w d.there d.ns d.L (.slice A d.l.length c) 6 who ses oa ob)
  have K1 := Lib.hid (entered_kept w (fun _ => False) d.there d.ns d.L (.slice A d.l.length c) 6 who ses oa ob)
  change Calls Try.prog 17 _ (entered w d.there d.ns d.L (.slice A d.l.length c) 6 who ses oa ob) _
  generalize entered w d.there d.ns d.L (.slice A d.l.length c) 6 who ses oa ob = W1 at *
  refine (HA.out W1 K1.out).mono ?_
  rintro e w2 ⟨rfl, t', hS2, hT2, htp, hft, hk2⟩
  have hft' : ∀ b, feet t' b → feet t b ∨ w.heap.size + 4 ≤ b := fun b hb => (hft b hb).imp (fun h => h) (fun h => Nat.le_trans E1.out.size h)
  have K2 := Lib.hid (((K1.out.mono (fun _ _ h => h.elim)).then hk2 (fun _ _ h => h) : KeptW (feet t) w w2))
  have E2 := E1.out.kept hk2 (fun b hb => HAt.out.stands.lt hb)
  clear E1 K1 hk2 hft
  obtain ⟨c0, c1, c2, c3, o0, o1, o2, o3, o4, q0, q1, q2, q3, f0, f1, f2, f3, h0, h1, hsz⟩ := E2
  have l0 : w.heap.size < w2.heap.size := by omega
  have l1 : w.heap.size + 1 < w2.heap.size := by omega
  have l2 : w.heap.size + 1 + 1 < w2.heap.size := by omega
  have l3 : w.heap.size + 1 + 1 + 1 < w2.heap.size := by omega
  go_wp2_with fail
  have E3 := Ent.mk c0 c1 c2 c3 o0 o1 o2 o3 o4 q0 q1 q2 q3 f0 f1 f2 f3 h0 h1 hsz
  have gs4 : w.heap.size + 4 ≤ w2.heap.size := hsz
  have K3 := K2
  have HS3 := Lib.hid hS2
  clear c0 c1 c2 c3 o0 o1 o2 o3 o4 q0 q1 q2 q3 f0 f1 f2 f3 h0 h1 hsz l0 l1 l2 l3 K2 hS2
  have B3 : Below w0.heap.size w0 w2 := hB.trans (K3.out.to_below (fun b hb h => by have := HAt.out.feet b h; omega) hB.size)
  have R3 := HAt.out.row.kept K3.out (fun b hb h => HAt.out.row.apart HAt.out.stands h hb)
  refine (HR.out w2 B3 R3).mono ?_
  rintro e w4 ⟨v', rfl, hr4, ho4, hk4⟩
  have E4 := E3.kept hk4 (fun b hb => HAt.out.row.lt hb)
  obtain ⟨A', c', rfl, hc', _⟩ := hr4.shape
  obtain ⟨c0, c1, c2, c3, o0, o1, o2, o3, o4, q0, q1, q2, q3, f0, f1, f2, f3, h0, h1, hsz⟩ := E4
  have l0 : w.heap.size < w4.heap.size := by omega
  have l1 : w.heap.size + 1 < w4.heap.size := by omega
  have l2 : w.heap.size + 1 + 1 < w4.heap.size := by omega
  have l3 : w.heap.size + 1 + 1 + 1 < w4.heap.size := by omega
  go_wp2_with fail
  obtain ⟨z0, z1, z2, z3⟩ := put4_cells (.bool d'.there) (.int .i64 d'.ns) (.int .i64 d'.L) (.slice A' d'.l.length c') q0 q1 q2 q3
  refine bodyPost_ret (v := .tuple #[.agg #[.bool d'.there, .int .i64 d'.ns, .int .i64 d'.L, .slice A' d'.l.length c'], .bool true]) (by simp only [put4] at z0 z1 z2 z3; simp [results, Try.results21, go_sem, z0, z1, z2, z3]) rfl ?_
  have hl := HL.out
  exact close_post hB.size HAt.out HS3.out hT2 (htp.trans htv.symm) hft' K3.out gs4 hr4 ho4 hk4 (put4_own w4 _ _ _ _ _) hl.1 hl.2.1 (by have := HAt.out.high; omega)

set_option maxRecDepth 100000 in
set_option maxHeartbeats 8000000 in
theorem called_none (w0 w : World) (hB : Below w0.heap.size w0 w) (t : Tp) (d : Doc) (v : Value) (k : Nat) (hA : At w0 w t d v k) (kind : Int) (n1 : (kind == 1) = false) (n2 : (kind == 2) = false) (n3 : (kind == 3) = false) (n4 : (kind == 4) = false) (n5 : (kind == 5) = false) (n6 : (kind == 6) = false) (who ses oa ob : Int) :
    Calls Try.prog 21 #[tp t, docV d v, .agg #[.int .i64 kind, .int .i64 who, .int .i64 ses, .int .i64 oa, .int .i64 ob]] w (CallPost w0 w t v k) := by
  obtain ⟨A, c, rfl, hc, hC⟩ := hA.row.shape
  have HE := Lib.hid (fun (W : World) (hW : KeptW (fun _ => False) w W) => hA.same hW)
  clear hA hC
  generalize htv : tp t = tv at *
  simp only [docV] at HE ⊢
  go_enter Try.func21, Try.ntmps21
  go_wp2_with fail
  exact bodyPost_ret (v := .tuple #[.agg #[.bool d.there, .int .i64 d.ns, .int .i64 d.L, .slice A d.l.length c], .bool true]) (by simp [results, Try.results21, go_sem]) rfl (HE.out _ (((((wld.Kept.refl _ w).alloc _).alloc _).alloc _).alloc _))

end Go.Proofs.Ytonjoboilpoamaa.scr
