/- TableScript: the walk of called, Add. -/
import Derived.Test.YtonjoboilpoamaaS4
namespace Go.Proofs.Ytonjoboilpoamaa.scr
set_option linter.unusedVariables false
set_option linter.unusedSimpArgs false
open Go.RowKit Go.Proofs.Ytonjoboilpoamaa.tab Go.Proofs.Ytonjoboilpoamaa.imap Go.Proofs.Ytonjoboilpoamaa.PTableScript

theorem add_len (d : Doc) (s x : Int) : (d.add s x).1.l.length ≤ d.l.length + 1 ∧ (d.add s x).1.L = d.L := by
  unfold Doc.add
  split
  · split <;> simp
  · simp

set_option maxRecDepth 100000 in
set_option maxHeartbeats 8000000 in
theorem called_add (w0 w : World) (hB : Below w0.heap.size w0 w) (t : Tp) (d : Doc) (v : Value) (k : Nat) (hA : At w0 w t d v k) (hk : k < 4398046511104) (who ses oa ob : Int) :
    Calls Try.prog 21 #[tp t, docV d v, .agg #[.int .i64 1, .int .i64 who, .int .i64 ses, .int .i64 oa, .int .i64 ob]] w (CallPost w0 w t v k) := by
  obtain ⟨A, c, rfl, hc, hC⟩ := hA.row.shape
  have HA := Lib.hid (fun (W : World) (hW : KeptW (fun _ => False) w W) => t_add t d ses oa W (hA.stands.kept hW (fun _ _ h => h)) hA.tied (by have := hA.len; omega))
  have HR := Lib.hid (fun (W : World) (hW : Below w0.heap.size w0 W) (hR : Row W w0.heap.size (.slice A d.l.length c) d.l) => r_add d (.slice A d.l.length c) ses oa w0 W hW hR (by have := hA.len; omega))
  have HAt := Lib.hid hA
  have HL := Lib.hid (add_len d ses oa)
  clear hA hC
  generalize htv : tp t = tv at *
  generalize d.add ses oa = r at *
  obtain ⟨d', rl, rn, rc⟩ := r
  simp only [docV] at HR ⊢
  go_enter Try.func21, Try.ntmps21
  go_wp2_with fail
  have E1 := Lib.hid (entered_ent w d.there d.ns d.L (.slice A d.l.length c) 1 who ses oa ob)
  have K1 := Lib.hid (entered_kept w (fun _ => False) d.there d.ns d.L (.slice A d.l.length c) 1 who ses oa ob)
  change Calls Try.prog 15 _ (entered w d.there d.ns d.L (.slice A d.l.length c) 1 who ses oa ob) _
  generalize entered w d.there d.ns d.L (.slice A d.l.length c) 1 who ses oa ob = W1 at *
  refine (HA.out W1 K1.out).mono ?_
  rintro e w2 ⟨rfl, t', hS2, hT2, htp, hft, hk2⟩
  have K2 := Lib.hid (((K1.out.mono (fun _ _ h => h.elim)).then hk2 (fun _ _ h => h) : KeptW (feet t) w w2))
  have E2 := E1.out.kept hk2 (fun b hb => HAt.out.stands.lt hb)
  clear E1 K1 hk2
  obtain ⟨c0, c1, c2, c3, o0, o1, o2, o3, o4, q0, q1, q2, q3, f0, f1, f2, f3, h0, h1, hsz⟩ := E2
  have l0 : w.heap.size < w2.heap.size := by omega
  have l1 : w.heap.size + 1 < w2.heap.size := by omega
  have l2 : w.heap.size + 1 + 1 < w2.heap.size := by omega
  have l3 : w.heap.size + 1 + 1 + 1 < w2.heap.size := by omega
  go_wp2_with fail
  have E3 : Ent w.heap.size (w2.alloc (.cells #[.int .i64 rl, .int .i64 rn] 33)) d.there d.ns d.L (.slice A d.l.length c) 1 who ses oa ob :=
    (Ent.mk c0 c1 c2 c3 o0 o1 o2 o3 o4 q0 q1 q2 q3 f0 f1 f2 f3 h0 h1 hsz).kept ((wld.Kept.refl (fun _ => False) w2).alloc _) (fun _ h => h.elim)
  have n0 : (w2.alloc (.cells #[.int .i64 rl, .int .i64 rn] 33)).cell? ⟨w2.heap.size, 0, none⟩ = some (.int .i64 rl) := wld.cellN rfl rfl
  have n1 : (w2.alloc (.cells #[.int .i64 rl, .int .i64 rn] 33)).cell? ⟨w2.heap.size, 1, none⟩ = some (.int .i64 rn) := wld.cellN rfl rfl
  have ln : w2.heap.size < (w2.alloc (.cells #[.int .i64 rl, .int .i64 rn] 33)).heap.size := by simp
  have gs2 : w.heap.size ≤ w2.heap.size := K2.out.size
  have gs4 : w.heap.size + 4 ≤ w2.heap.size := hsz
  have K3 := Lib.hid (K2.out.alloc (.cells #[.int .i64 rl, .int .i64 rn] 33))
  have HS3 := Lib.hid (hS2.kept ((wld.Kept.refl (fun _ => False) w2).alloc (.cells #[.int .i64 rl, .int .i64 rn] 33)) (fun _ _ h => h))
  clear c0 c1 c2 c3 o0 o1 o2 o3 o4 q0 q1 q2 q3 f0 f1 f2 f3 h0 h1 hsz l0 l1 l2 l3 K2 hS2
  generalize w2.alloc (.cells #[.int .i64 rl, .int .i64 rn] 33) = W3 at *
  have B3 : Below w0.heap.size w0 W3 := hB.trans (K3.out.to_below (fun b hb h => by have := HAt.out.feet b h; omega) hB.size)
  have R3 := HAt.out.row.kept K3.out (fun b hb h => HAt.out.row.apart HAt.out.stands h hb)
  refine (HR.out W3 B3 R3).mono ?_
  rintro e w4 ⟨v', rfl, hr4, ho4, hk4⟩
  have E4 := E3.kept hk4 (fun b hb => HAt.out.row.lt hb)
  have gl : ∀ b, (Value.slice A d.l.length c).ownBlock = some b → b < w.heap.size := fun b hb => HAt.out.row.lt hb
  have gw := K3.out.size
  have m0 := hk4.cell n0 (fun h => by have := gl _ h; simp only at this; omega)
  have m1 := hk4.cell n1 (fun h => by have := gl _ h; simp only at this; omega)
  have lm : w2.heap.size < w4.heap.size := Nat.lt_of_lt_of_le ln hk4.size
  obtain ⟨A', c', rfl, hc', _⟩ := hr4.shape
  obtain ⟨c0, c1, c2, c3, o0, o1, o2, o3, o4, q0, q1, q2, q3, f0, f1, f2, f3, h0, h1, hsz⟩ := E4
  have l0 : w.heap.size < w4.heap.size := by omega
  have l1 : w.heap.size + 1 < w4.heap.size := by omega
  have l2 : w.heap.size + 1 + 1 < w4.heap.size := by omega
  have l3 : w.heap.size + 1 + 1 + 1 < w4.heap.size := by omega
  go_wp2_with fail
  obtain ⟨wl, hwl⟩ : ∃ wl, wl = w4.alloc (.cells #[.bool d'.there, .int .i64 d'.ns, .int .i64 d'.L, .slice A' d'.l.length c'] 58) := ⟨_, rfl⟩
  rw [← hwl]
  have E5 : Ent w.heap.size wl d.there d.ns d.L (.slice A d.l.length c) 1 who ses oa ob := by
    rw [hwl]
    exact (Ent.mk c0 c1 c2 c3 o0 o1 o2 o3 o4 q0 q1 q2 q3 f0 f1 f2 f3 h0 h1 hsz).kept ((wld.Kept.refl (fun _ => False) w4).alloc _) (fun _ h => h.elim)
  have p0 : wl.cell? ⟨w4.heap.size, 0, none⟩ = some (.bool d'.there) := by rw [hwl]; exact wld.cellN rfl rfl
  have p1 : wl.cell? ⟨w4.heap.size, 1, none⟩ = some (.int .i64 d'.ns) := by rw [hwl]; exact wld.cellN rfl rfl
  have p2 : wl.cell? ⟨w4.heap.size, 2, none⟩ = some (.int .i64 d'.L) := by rw [hwl]; exact wld.cellN rfl rfl
  have p3 : wl.cell? ⟨w4.heap.size, 3, none⟩ = some (.slice A' d'.l.length c') := by rw [hwl]; exact wld.cellN rfl rfl
  have mm0 : wl.cell? ⟨w2.heap.size, 0, none⟩ = some (.int .i64 rl) := by rw [hwl]; exact wld.cellA m0 _
  have mm1 : wl.cell? ⟨w2.heap.size, 1, none⟩ = some (.int .i64 rn) := by rw [hwl]; exact wld.cellA m1 _
  have KL := Lib.hid ((hk4.alloc (.cells #[.bool d'.there, .int .i64 d'.ns, .int .i64 d'.L, .slice A' d'.l.length c'] 58)))
  rw [← hwl] at KL
  have HW := Lib.hid hwl
  have x1 : ¬ w.heap.size + 1 + 1 = w2.heap.size := by omega
  have x2 : ¬ w.heap.size + 1 + 1 = w4.heap.size := by omega
  clear hwl m0 m1 c0 c1 c2 c3 o0 o1 o2 o3 o4 q0 q1 q2 q3 f0 f1 f2 f3 h0 h1 hsz l0 l1 l2 l3
  obtain ⟨c0, c1, c2, c3, o0, o1, o2, o3, o4, q0, q1, q2, q3, f0, f1, f2, f3, h0, h1, hsz⟩ := E5
  go_region
  go_wp2_with fail
  obtain ⟨z0, z1, z2, z3⟩ := put4_cells (.bool d'.there) (.int .i64 d'.ns) (.int .i64 d'.L) (.slice A' d'.l.length c') q0 q1 q2 q3
  refine bodyPost_ret (v := .tuple #[.agg #[.bool d'.there, .int .i64 d'.ns, .int .i64 d'.L, .slice A' d'.l.length c'], .bool true]) (by simp only [put4] at z0 z1 z2 z3; simp [results, Try.results21, go_sem, z0, z1, z2, z3]) rfl ?_
  have g3 : w.heap.size + 3 ≤ W3.heap.size := by omega
  have k4 : KeptW (own t (.slice A d.l.length c)) w wl := (K3.out.mono (fun b _ h => .inl h)).then KL.out (fun b _ h => .inr h)
  have hS5 := HS3.out.kept KL.out (fun b hb h => HAt.out.row.apart HAt.out.stands (by rw [← hft]; exact hb) h)
  have hS6 := hS5.kept (put4_own wl (w.heap.size + 1 + 1) (.bool d'.there) (.int .i64 d'.ns) (.int .i64 d'.L) (.slice A' d'.l.length c')) (fun b hb h => by
    rw [hft] at hb
    have := HAt.out.stands.lt hb
    omega)
  have hr5 : Row wl w0.heap.size (.slice A' d'.l.length c') d'.l := by rw [HW.out]; exact hr4.kept ((wld.Kept.refl (fun _ => False) w4).alloc _) (fun _ _ h => h)
  have hr6 := hr5.kept (put4_own wl (w.heap.size + 1 + 1) (.bool d'.there) (.int .i64 d'.ns) (.int .i64 d'.L) (.slice A' d'.l.length c')) (fun b hb h => by
    rcases ho4 b hb with h1 | h1
    · have := gl b h1; omega
    · omega)
  have hl := HL.out
  refine ⟨t', d', _, rfl, htp.trans htv.symm, ⟨?_, hT2, ?_, by rw [hft]; exact HAt.out.feet, by have := HAt.out.len; omega, by rw [hl.2]; exact HAt.out.low, by rw [hl.2]; have := HAt.out.high; push_cast; omega⟩, ?_, ?_⟩
  · exact hS6.kept ((wld.Kept.refl (fun _ => False) _).drew) (fun _ _ h => h)
  · exact hr6.kept ((wld.Kept.refl (fun _ => False) _).drew) (fun _ _ h => h)
  · intro b hb
    rcases hb with hb | hb
    · rw [hft] at hb; exact .inl (.inl hb)
    · rcases ho4 b hb with h1 | h1
      · exact .inl (.inr h1)
      · exact .inr (by omega)
  · exact (put4_kept k4 (by omega)).drew
end Go.Proofs.Ytonjoboilpoamaa.scr
