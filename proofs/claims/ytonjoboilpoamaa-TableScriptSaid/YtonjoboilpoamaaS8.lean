/- TableScript: the walk of called, Life. -/
import Derived.Test.YtonjoboilpoamaaS4
namespace Go.Proofs.Ytonjoboilpoamaa.scr
set_option linter.unusedVariables false
set_option linter.unusedSimpArgs false
open Go.RowKit Go.Proofs.Ytonjoboilpoamaa.tab Go.Proofs.Ytonjoboilpoamaa.imap Go.Proofs.Ytonjoboilpoamaa.PTableScript

attribute [local go_sem ↓] Go.wp_at_zero Go.wp_at_succ
set_option maxRecDepth 100000 in
set_option maxHeartbeats 8000000 in
theorem called_life (w0 w : World) (hB : Below w0.heap.size w0 w) (t : Tp) (d : Doc) (v : Value) (k : Nat) (hA : At w0 w t d v k) (hk : k < 4398046511104) (who ses oa ob : Int) :
    Calls Try.prog 21 #[tp t, docV d v, .agg #[.int .i64 5, .int .i64 who, .int .i64 ses, .int .i64 oa, .int .i64 ob]] w (CallPost w0 w t v k) := by
  obtain ⟨A, c, rfl, hc, hC⟩ := hA.row.shape
  have HO := Lib.hid (fun (W : World) (hW : KeptW (fun _ => False) w W) => t_life t d W (hA.stands.kept hW (fun _ _ h => h)) hA.tied)
  have HE := Lib.hid (fun (W : World) (hW : KeptW (fun _ => False) w W) => hA.same hW)
  clear hA hC
  generalize htv : tp t = tv at *
  simp only [docV] at HE ⊢
  go_enter Try.func21, Try.ntmps21
  go_wp2_with fail
  have E1 := entered_ent w d.there d.ns d.L (.slice A d.l.length c) 5 who ses oa ob
  have K1 := Lib.hid (entered_kept w (fun _ => False) d.there d.ns d.L (.slice A d.l.length c) 5 who ses oa ob)
  obtain ⟨W1, hW1⟩ : ∃ W1, W1 = entered w d.there d.ns d.L (.slice A d.l.length c) 5 who ses oa ob := ⟨_, rfl⟩
  unfold entered at hW1
  rw [← hW1]
  rw [show entered w d.there d.ns d.L (.slice A d.l.length c) 5 who ses oa ob = W1 from hW1.symm] at E1 K1
  clear hW1
  have HE1 := Lib.hid E1
  have FK : ∀ W W', KeptW (fun _ => False) W W' → Ent w.heap.size W d.there d.ns d.L (.slice A d.l.length c) 5 who ses oa ob → Ent w.heap.size W' d.there d.ns d.L (.slice A d.l.length c) 5 who ses oa ob := fun W W' hk h => h.kept hk (fun _ h => h.elim)
  have HFK := Lib.hid FK
  have HE1' := Lib.hid (FK W1 W1.drew ((wld.Kept.refl _ _).drew) E1)
  clear FK
  obtain ⟨c0, c1, c2, c3, o0, o1, o2, o3, o4, q0, q1, q2, q3, f0, f1, f2, f3, h0, h1, hsz⟩ := E1
  clear o0 o1 o2 o3 o4 h0 h1 hsz
  have HSZ := Lib.hid HE1.out.size
  clear HE1 HE1' HFK
  go_region_with (go_at_call 23; refine (HO.out _ (by first | exact K1.out.drew | exact K1.out)).mono ?_; rintro e w' ⟨rfl, rfl⟩)
  all_goals
    go_wp2_with fail
    obtain ⟨z0, z1, z2, z3⟩ := put4_cells (.bool d.there) (.int .i64 d.ns) (.int .i64 d.L) (.slice A d.l.length c) q0 q1 q2 q3
    exact bodyPost_ret (v := .tuple #[.agg #[.bool d.there, .int .i64 d.ns, .int .i64 d.L, .slice A d.l.length c], .bool true]) (by simp only [put4] at z0 z1 z2 z3; simp [results, Try.results21, go_sem, z0, z1, z2, z3]) rfl (HE.out _ (by repeat' (first | exact K1.out | refine wld.Kept.drew ?_ | refine wld.Kept.set ?_ (.inl (by simp; omega)) _)))
end Go.Proofs.Ytonjoboilpoamaa.scr
