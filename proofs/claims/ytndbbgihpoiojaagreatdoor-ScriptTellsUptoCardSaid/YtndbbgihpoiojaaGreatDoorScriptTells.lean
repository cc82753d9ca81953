/- Script: the law ScriptTells: its second form's card. -/
import Derived.Test.YtndbbgihpoiojaaGreatDoorScriptTells5
set_option linter.unusedVariables false
set_option linter.unusedSimpArgs false
set_option maxRecDepth 100000
set_option maxHeartbeats 8000000
namespace Go.Proofs.YtndbbgihpoiojaaGreatDoor.Q
open Go.RowKit Go.Proofs.YtndbbgihpoiojaaGreatDoorW.PrintWords Go.Proofs.YtndbbgihpoiojaaGreatDoorW.PrintLast Go.Proofs.YtndbbgihpoiojaaGreatDoorW.PrintMore
attribute [local go_sem] max2_int min2_int max_two min_two max_three min_three max_four min_four   -- for this text's walks alone
def cloisterlaw26_ScriptTells.f (k : Nat) (a0_0 : Int) (a0_1 : Int) (a0_2 : Int) (a0_3 : Int) (a0_4 : Int) (a0_5 : Bool) (l0_6 : List Int) (l0_7 : List (S62)) (a0_8 : Bool) (a0_9 : Int) : Option (Bool) := (script_Tell.f k a0_0 a0_1 a0_2 a0_3 a0_4 a0_5 l0_6 l0_7 a0_8 a0_9).bind fun t270 => ((cloisterref26_Tell.f k a0_0 a0_1 a0_2 a0_3 a0_4 a0_5 l0_6 l0_7 a0_8 a0_9).bind fun t271 => (if t270.toList = t271.toList then ((cloisterlaw26_scriptFixed.f).bind fun t272 => (some t272)) else (some false)))
def cloisterlaw26_ScriptTells.T1 : Bool × List (List Nat × List Nat) := (true, [([], []), ([0], [0]), ([], []), ([2, 1], [2]), ([1, 3], [1, 3]), ([4, 3], [4]), ([5, 5], [5]), ([5, 6], [5, 6]), ([7, 6, 0, 1, 2, 3, 4, 5, 6, 7], [7])])
def cloisterlaw26_ScriptTells.B1 : List Nat := [0, 1, 0, 7, 15, 31, 63, 127, 255]
theorem cloisterlaw26_ScriptTells.tab1 : rtab .any (opsOf Tryz.f4 1) = cloisterlaw26_ScriptTells.T1 := by kernel_rfl
theorem cloisterlaw26_ScriptTells.bits1 : waitsOk cloisterlaw26_ScriptTells.T1.2 cloisterlaw26_ScriptTells.B1 = true := by kernel_rfl
theorem cloisterlaw26_ScriptTells.calls (k : Nat) (a0_0 : Int) (a0_1 : Int) (a0_2 : Int) (a0_3 : Int) (a0_4 : Int) (a0_5 : Bool) (A0_6 : Option Addr) (c0_6 : Nat) (l0_6 : List Int) (A0_7 : Option Addr) (c0_7 : Nat) (l0_7 : List (S62)) (a0_8 : Bool) (a0_9 : Int) (r : Bool) (w : World) (hr0_6 : Kd.C (Kd.int .u8) w A0_6 l0_6.length l0_6) (hc0_6 : l0_6.length ≤ c0_6) (hr0_7 : Kd.C k62 w A0_7 l0_7.length l0_7) (hc0_7 : l0_7.length ≤ c0_7) (hE : sc.Env w) (h : cloisterlaw26_ScriptTells.f k a0_0 a0_1 a0_2 a0_3 a0_4 a0_5 l0_6 l0_7 a0_8 a0_9 = some r) :
 Calls Tryz.prog 4 #[.agg #[.int .i64 a0_0, .int .i64 a0_1, .int .i64 a0_2, .int .i64 a0_3, .int .i64 a0_4, .bool a0_5, .slice A0_6 l0_6.length c0_6, .slice A0_7 l0_7.length c0_7, .bool a0_8, .int .i64 a0_9]] w fun e w' => e = .returned (.bool r) ∧ Below w.heap.size w w' := by
 have hu41 := Tryz.underlying41
 have HR0_6 := am_ hr0_6
 have HC0_6 := am_ hc0_6
 clear hr0_6 hc0_6
 have HR0_7 := am_ hr0_7
 have HC0_7 := am_ hc0_7
 clear hr0_7 hc0_7
 have HE := am_ hE
 clear hE
 have HB := am_ (Below.refl w.heap.size w)
 have H : ((script_Tell.f k a0_0 a0_1 a0_2 a0_3 a0_4 a0_5 l0_6 l0_7 a0_8 a0_9).bind fun t270 => ((cloisterref26_Tell.f k a0_0 a0_1 a0_2 a0_3 a0_4 a0_5 l0_6 l0_7 a0_8 a0_9).bind fun t271 => (if t270.toList = t271.toList then ((cloisterlaw26_scriptFixed.f).bind fun t272 => (some t272)) else (some false)))) = some r := h
 clear h
 replace H := Option.bind_eq_some_iff.mp H
 obtain ⟨t270, A20, H⟩ := H
 have A2 := am_ A20
 clear A20
 replace H := Option.bind_eq_some_iff.mp H
 obtain ⟨t271, A30, H⟩ := H
 have A3 := am_ A30
 clear A30
 by_cases c4 : t270.toList = t271.toList
 rw [if_pos c4] at H
 have c4b0 : (t270.toList == t271.toList) = true := beq_iff_eq.mpr c4
 have c4b1 : (t270.toList != t271.toList) = false := bne_eq_false_iff_eq.mpr c4
 clear c4
 replace H := Option.bind_eq_some_iff.mp H
 obtain ⟨t272, A50, H⟩ := H
 have A5 := am_ A50
 clear A50
 obtain rfl := Option.some.inj H
 go_enter Tryz.func4, Tryz.ntmps4
 try go_wp2_with (first | ((with_reducible refine gate_dst (N := 1) rfl ?_); refine box_event ?hg (N := 1) ?hd (cs := #[.int .i64 a0_0, .int .i64 a0_1, .int .i64 a0_2, .int .i64 a0_3, .int .i64 a0_4, .bool a0_5, .slice A0_6 l0_6.length c0_6, .slice A0_7 l0_7.length c0_7, .bool a0_8, .int .i64 a0_9]) (t := 41) ?hr ?_; (case hd => rfl); (case hg => rfl); (case hr => first | (go_simp; done) | (go_simp; rfl)); intro gb269 hg w6 hbox hb; have BK269 := am_ (hbox); have GW269 := am_ ((by rw [hg]; exact (below_size (by repeat (first | (with_reducible first | exact HB.out | apply b1_ | apply b2_ | apply b3_) | exact HB.out))) : w.heap.size ≤ gb269)); have GE269 := am_ ((by rw [hg]; exact (below_size (by repeat (first | (with_reducible first | exact HB.out | apply b1_ | apply b2_ | apply b3_) | exact HB.out))) : w.heap.size ≤ gb269)); replace HB := am_ (below_step (by repeat (first | (with_reducible first | exact HB.out | apply b1_ | apply b2_ | apply b3_) | exact HB.out)) hb); clear hb hbox hg))
 replace BK269 := am_ (d2_ BK269.out)
 replace HB := am_ (b3_ HB.out)
 refine start_ (n := 9) (S := fun w' => w'.cell? ⟨gb269, 0, none⟩ = some (.int .i64 a0_0) ∧ w'.cell? ⟨gb269, 1, none⟩ = some (.int .i64 a0_1) ∧ w'.cell? ⟨gb269, 2, none⟩ = some (.int .i64 a0_2) ∧ w'.cell? ⟨gb269, 3, none⟩ = some (.int .i64 a0_3) ∧ w'.cell? ⟨gb269, 4, none⟩ = some (.int .i64 a0_4) ∧ w'.cell? ⟨gb269, 5, none⟩ = some (.bool a0_5) ∧ w'.cell? ⟨gb269, 6, none⟩ = some (.slice A0_6 l0_6.length c0_6) ∧ w'.cell? ⟨gb269, 7, none⟩ = some (.slice A0_7 l0_7.length c0_7) ∧ w'.cell? ⟨gb269, 8, none⟩ = some (.bool a0_8) ∧ w'.cell? ⟨gb269, 9, none⟩ = some (.int .i64 a0_9)) (ds := []) #[false, false, false, false, false, false, false, false, false] (by kernel_rfl) rfl rfl (c10_ BK269.out) (fun hHeld => ?_); refine with_tabW cloisterlaw26_ScriptTells.tab1 cloisterlaw26_ScriptTells.bits1 (fun HT_ HW_ => ?_)
 generalize w6.drew = w7 at BK269 HB hHeld ⊢
 refine ta_ 0 3 (bs_ 9 1) rfl rfl (take_ofW HT_.out HW_.out (by kernel_rfl)) rfl (by rintro w' ⟨s0, s1, s2, s3, s4, s5, s6, s7, s8, s9⟩; go_simp; with_reducible rfl) hHeld (by simp only [Act.put, aS, aZ, aC, i64_w, i32_w]; rfl) (fun _ _ _ h => h) ?_
 refine ta_ 2 5 (bs_ 9 5) rfl rfl (take_ofW HT_.out HW_.out (by kernel_rfl)) rfl (by rintro w' ⟨s0, s1, s2, s3, s4, s5, s6, s7, s8, s9⟩; go_simp; with_reducible rfl) hHeld (by simp only [Act.put, aS, aZ, aC, i64_w, i32_w]; rfl) (fun _ _ _ h => h) ?_
 refine one_ (i := 1) (N := some 4) (bs_ 9 7) rfl rfl (one_of HT_.out (by kernel_rfl)) (by decide) (fun K hK => ?_)
 refine goes_ Tryz.func18 (by kernel_rfl) rfl #[.agg #[.int .i64 a0_0, .int .i64 a0_1, .int .i64 a0_2, .int .i64 a0_3, .int .i64 a0_4, .bool a0_5, .slice A0_6 l0_6.length c0_6, .slice A0_7 l0_7.length c0_7, .bool a0_8, .int .i64 a0_9]] (by rfl) rfl rfl (by (try simp only [aT, aK, aL]); first | done | rfl | (simp only [List.length_drop, List.length_take]; rfl)) ?_
 with_reducible refine (script_Tell.calls k a0_0 a0_1 a0_2 a0_3 a0_4 a0_5 _ _ l0_6 _ _ l0_7 a0_8 a0_9 t270 _ ?side1 ?side2 ?side3 ?side4 ?side5 A2.out).mono ?_
 (case side1 => repeat (first | exact (Kd.C_below HR0_6.out HB.out) | (with_reducible refine Kd.C_alloc ?_ _) | (with_reducible refine Kd.C_drewN ?_ _) | (with_reducible refine Kd.C_drew ?_)))
 (case side2 => exact HC0_6.out)
 (case side3 => repeat (first | exact (Kd.C_below HR0_7.out HB.out) | (with_reducible refine Kd.C_alloc ?_ _) | (with_reducible refine Kd.C_drewN ?_ _) | (with_reducible refine Kd.C_drew ?_)))
 (case side4 => exact HC0_7.out)
 (case side5 => exact sc.Env.below HE.out (by repeat (first | (with_reducible first | exact HB.out | apply b1_ | apply b2_ | apply b3_ | refine b4_ ?_ GE269.out) | exact HB.out)))
 rintro e w8 ⟨rfl, hb⟩
 refine ⟨_, rfl, ?_⟩
 replace BK269 := am_ (blk_below (by (with_reducible repeat (first | refine d1_ ?_ _ | refine d2_ ?_ | refine d3_ ?_ _)); exact BK269.out) hb)
 replace HB := am_ (below_step (by repeat (first | (with_reducible first | exact HB.out | apply b1_ | apply b2_ | apply b3_ | refine b4_ ?_ GE269.out) | exact HB.out)) hb)
 (try clear hb)
 refine hK.out _ _ (c10_ BK269.out) (fun hHeld => ?_)
 clear hK K
 refine no_ (by simp only [Act.put, aS, aZ, aC, i64_w, i32_w]; rfl) ?_
 refine one_ (i := 3) (N := some 6) (bs_ 9 15) rfl rfl (one_of HT_.out (by kernel_rfl)) (by decide) (fun K hK => ?_)
 refine goes_ Tryz.func19 (by kernel_rfl) rfl #[.agg #[.int .i64 a0_0, .int .i64 a0_1, .int .i64 a0_2, .int .i64 a0_3, .int .i64 a0_4, .bool a0_5, .slice A0_6 l0_6.length c0_6, .slice A0_7 l0_7.length c0_7, .bool a0_8, .int .i64 a0_9]] (by rfl) rfl rfl (by (try simp only [aT, aK, aL]); first | done | rfl | (simp only [List.length_drop, List.length_take]; rfl)) ?_
 with_reducible refine (cloisterref26_Tell.calls k a0_0 a0_1 a0_2 a0_3 a0_4 a0_5 _ _ l0_6 _ _ l0_7 a0_8 a0_9 t271 _ ?side1 ?side2 ?side3 ?side4 ?side5 A3.out).mono ?_
 (case side1 => repeat (first | exact (Kd.C_below HR0_6.out HB.out) | (with_reducible refine Kd.C_alloc ?_ _) | (with_reducible refine Kd.C_drewN ?_ _) | (with_reducible refine Kd.C_drew ?_)))
 (case side2 => exact HC0_6.out)
 (case side3 => repeat (first | exact (Kd.C_below HR0_7.out HB.out) | (with_reducible refine Kd.C_alloc ?_ _) | (with_reducible refine Kd.C_drewN ?_ _) | (with_reducible refine Kd.C_drew ?_)))
 (case side4 => exact HC0_7.out)
 (case side5 => exact sc.Env.below HE.out (by repeat (first | (with_reducible first | exact HB.out | apply b1_ | apply b2_ | apply b3_ | refine b4_ ?_ GE269.out) | exact HB.out)))
 rintro e w9 ⟨rfl, hb⟩
 refine ⟨_, rfl, ?_⟩
 replace BK269 := am_ (blk_below (by (with_reducible repeat (first | refine d1_ ?_ _ | refine d2_ ?_ | refine d3_ ?_ _)); exact BK269.out) hb)
 replace HB := am_ (below_step (by repeat (first | (with_reducible first | exact HB.out | apply b1_ | apply b2_ | apply b3_ | refine b4_ ?_ GE269.out) | exact HB.out)) hb)
 (try clear hb)
 refine hK.out _ _ (c10_ BK269.out) (fun hHeld => ?_)
 clear hK K
 refine no_ (by simp only [Act.put, aS, aZ, aC, i64_w, i32_w]; rfl) ?_
 refine pu_ 4 7 (bs_ 9 31) rfl rfl (any_of HT_.out (by kernel_rfl)) rfl (by intro w'; go_simp; with_reducible rfl) (by simp only [Act.put, aS, aZ, aC, i64_w, i32_w]; rfl) (fun _ _ _ h => h) ?_
 refine pu_ 5 8 (bs_ 9 63) rfl rfl (any_of HT_.out (by kernel_rfl)) rfl (by intro w'; go_simp; with_reducible rfl) (by simp only [Act.put, aS, aZ, aC, i64_w, i32_w]; rfl) (fun _ _ _ h => h) ?_
 refine one_ (i := 6) (N := some 9) (bs_ 9 127) rfl rfl (one_of HT_.out (by kernel_rfl)) (by decide) (fun K hK => ?_)
 refine goes_ Tryz.func17 (by kernel_rfl) rfl #[] (by rfl) rfl rfl (by (try simp only [aT, aK, aL]); first | done | rfl | (simp only [List.length_drop, List.length_take]; rfl)) ?_
 with_reducible refine (cloisterlaw26_scriptFixed.calls  t272 _ ?side1 A5.out).mono ?_
 (case side1 => exact sc.Env.below HE.out (by repeat (first | (with_reducible first | exact HB.out | apply b1_ | apply b2_ | apply b3_ | refine b4_ ?_ GE269.out) | exact HB.out)))
 rintro e w10 ⟨rfl, hb⟩
 refine ⟨_, rfl, ?_⟩
 replace BK269 := am_ (blk_below (by (with_reducible repeat (first | refine d1_ ?_ _ | refine d2_ ?_ | refine d3_ ?_ _)); exact BK269.out) hb)
 replace HB := am_ (below_step (by repeat (first | (with_reducible first | exact HB.out | apply b1_ | apply b2_ | apply b3_ | refine b4_ ?_ GE269.out) | exact HB.out)) hb)
 (try clear hb)
 refine hK.out _ _ (c10_ BK269.out) (fun hHeld => ?_)
 clear hK K
 refine no_ (by simp only [Act.put, aS, aZ, aC, i64_w, i32_w]; rfl) ?_
 rotate_left
 rw [if_neg c4] at H
 have c4b0 : (t270.toList == t271.toList) = false := beq_eq_false_iff_ne.mpr c4
 have c4b1 : (t270.toList != t271.toList) = true := bne_iff_ne.mpr c4
 obtain rfl := Option.some.inj H
 go_enter Tryz.func4, Tryz.ntmps4
 try go_wp2_with (first | ((with_reducible refine gate_dst (N := 1) rfl ?_); refine box_event ?hg (N := 1) ?hd (cs := #[.int .i64 a0_0, .int .i64 a0_1, .int .i64 a0_2, .int .i64 a0_3, .int .i64 a0_4, .bool a0_5, .slice A0_6 l0_6.length c0_6, .slice A0_7 l0_7.length c0_7, .bool a0_8, .int .i64 a0_9]) (t := 41) ?hr ?_; (case hd => rfl); (case hg => rfl); (case hr => first | (go_simp; done) | (go_simp; rfl)); intro gb269 hg w11 hbox hb; have BK269 := am_ (hbox); have GW269 := am_ ((by rw [hg]; exact (below_size (by repeat (first | (with_reducible first | exact HB.out | apply b1_ | apply b2_ | apply b3_) | exact HB.out))) : w.heap.size ≤ gb269)); have GE269 := am_ ((by rw [hg]; exact (below_size (by repeat (first | (with_reducible first | exact HB.out | apply b1_ | apply b2_ | apply b3_) | exact HB.out))) : w.heap.size ≤ gb269)); replace HB := am_ (below_step (by repeat (first | (with_reducible first | exact HB.out | apply b1_ | apply b2_ | apply b3_) | exact HB.out)) hb); clear hb hbox hg))
 replace BK269 := am_ (d2_ BK269.out)
 replace HB := am_ (b3_ HB.out)
 refine start_ (n := 9) (S := fun w' => w'.cell? ⟨gb269, 0, none⟩ = some (.int .i64 a0_0) ∧ w'.cell? ⟨gb269, 1, none⟩ = some (.int .i64 a0_1) ∧ w'.cell? ⟨gb269, 2, none⟩ = some (.int .i64 a0_2) ∧ w'.cell? ⟨gb269, 3, none⟩ = some (.int .i64 a0_3) ∧ w'.cell? ⟨gb269, 4, none⟩ = some (.int .i64 a0_4) ∧ w'.cell? ⟨gb269, 5, none⟩ = some (.bool a0_5) ∧ w'.cell? ⟨gb269, 6, none⟩ = some (.slice A0_6 l0_6.length c0_6) ∧ w'.cell? ⟨gb269, 7, none⟩ = some (.slice A0_7 l0_7.length c0_7) ∧ w'.cell? ⟨gb269, 8, none⟩ = some (.bool a0_8) ∧ w'.cell? ⟨gb269, 9, none⟩ = some (.int .i64 a0_9)) (ds := []) #[false, false, false, false, false, false, false, false, false] (by kernel_rfl) rfl rfl (c10_ BK269.out) (fun hHeld => ?_); refine with_tabW cloisterlaw26_ScriptTells.tab1 cloisterlaw26_ScriptTells.bits1 (fun HT_ HW_ => ?_)
 generalize w11.drew = w12 at BK269 HB hHeld ⊢
 refine ta_ 0 3 (bs_ 9 1) rfl rfl (take_ofW HT_.out HW_.out (by kernel_rfl)) rfl (by rintro w' ⟨s0, s1, s2, s3, s4, s5, s6, s7, s8, s9⟩; go_simp; with_reducible rfl) hHeld (by simp only [Act.put, aS, aZ, aC, i64_w, i32_w]; rfl) (fun _ _ _ h => h) ?_
 refine ta_ 2 5 (bs_ 9 5) rfl rfl (take_ofW HT_.out HW_.out (by kernel_rfl)) rfl (by rintro w' ⟨s0, s1, s2, s3, s4, s5, s6, s7, s8, s9⟩; go_simp; with_reducible rfl) hHeld (by simp only [Act.put, aS, aZ, aC, i64_w, i32_w]; rfl) (fun _ _ _ h => h) ?_
 refine one_ (i := 1) (N := some 4) (bs_ 9 7) rfl rfl (one_of HT_.out (by kernel_rfl)) (by decide) (fun K hK => ?_)
 refine goes_ Tryz.func18 (by kernel_rfl) rfl #[.agg #[.int .i64 a0_0, .int .i64 a0_1, .int .i64 a0_2, .int .i64 a0_3, .int .i64 a0_4, .bool a0_5, .slice A0_6 l0_6.length c0_6, .slice A0_7 l0_7.length c0_7, .bool a0_8, .int .i64 a0_9]] (by rfl) rfl rfl (by (try simp only [aT, aK, aL]); first | done | rfl | (simp only [List.length_drop, List.length_take]; rfl)) ?_
 with_reducible refine (script_Tell.calls k a0_0 a0_1 a0_2 a0_3 a0_4 a0_5 _ _ l0_6 _ _ l0_7 a0_8 a0_9 t270 _ ?side1 ?side2 ?side3 ?side4 ?side5 A2.out).mono ?_
 (case side1 => repeat (first | exact (Kd.C_below HR0_6.out HB.out) | (with_reducible refine Kd.C_alloc ?_ _) | (with_reducible refine Kd.C_drewN ?_ _) | (with_reducible refine Kd.C_drew ?_)))
 (case side2 => exact HC0_6.out)
 (case side3 => repeat (first | exact (Kd.C_below HR0_7.out HB.out) | (with_reducible refine Kd.C_alloc ?_ _) | (with_reducible refine Kd.C_drewN ?_ _) | (with_reducible refine Kd.C_drew ?_)))
 (case side4 => exact HC0_7.out)
 (case side5 => exact sc.Env.below HE.out (by repeat (first | (with_reducible first | exact HB.out | apply b1_ | apply b2_ | apply b3_ | refine b4_ ?_ GE269.out) | exact HB.out)))
 rintro e w13 ⟨rfl, hb⟩
 refine ⟨_, rfl, ?_⟩
 replace BK269 := am_ (blk_below (by (with_reducible repeat (first | refine d1_ ?_ _ | refine d2_ ?_ | refine d3_ ?_ _)); exact BK269.out) hb)
 replace HB := am_ (below_step (by repeat (first | (with_reducible first | exact HB.out | apply b1_ | apply b2_ | apply b3_ | refine b4_ ?_ GE269.out) | exact HB.out)) hb)
 (try clear hb)
 refine hK.out _ _ (c10_ BK269.out) (fun hHeld => ?_)
 clear hK K
 refine no_ (by simp only [Act.put, aS, aZ, aC, i64_w, i32_w]; rfl) ?_
 refine one_ (i := 3) (N := some 6) (bs_ 9 15) rfl rfl (one_of HT_.out (by kernel_rfl)) (by decide) (fun K hK => ?_)
 refine goes_ Tryz.func19 (by kernel_rfl) rfl #[.agg #[.int .i64 a0_0, .int .i64 a0_1, .int .i64 a0_2, .int .i64 a0_3, .int .i64 a0_4, .bool a0_5, .slice A0_6 l0_6.length c0_6, .slice A0_7 l0_7.length c0_7, .bool a0_8, .int .i64 a0_9]] (by rfl) rfl rfl (by (try simp only [aT, aK, aL]); first | done | rfl | (simp only [List.length_drop, List.length_take]; rfl)) ?_
 with_reducible refine (cloisterref26_Tell.calls k a0_0 a0_1 a0_2 a0_3 a0_4 a0_5 _ _ l0_6 _ _ l0_7 a0_8 a0_9 t271 _ ?side1 ?side2 ?side3 ?side4 ?side5 A3.out).mono ?_
 (case side1 => repeat (first | exact (Kd.C_below HR0_6.out HB.out) | (with_reducible refine Kd.C_alloc ?_ _) | (with_reducible refine Kd.C_drewN ?_ _) | (with_reducible refine Kd.C_drew ?_)))
 (case side2 => exact HC0_6.out)
 (case side3 => repeat (first | exact (Kd.C_below HR0_7.out HB.out) | (with_reducible refine Kd.C_alloc ?_ _) | (with_reducible refine Kd.C_drewN ?_ _) | (with_reducible refine Kd.C_drew ?_)))
 (case side4 => exact HC0_7.out)
 (case side5 => exact sc.Env.below HE.out (by repeat (first | (with_reducible first | exact HB.out | apply b1_ | apply b2_ | apply b3_ | refine b4_ ?_ GE269.out) | exact HB.out)))
 rintro e w14 ⟨rfl, hb⟩
 refine ⟨_, rfl, ?_⟩
 replace BK269 := am_ (blk_below (by (with_reducible repeat (first | refine d1_ ?_ _ | refine d2_ ?_ | refine d3_ ?_ _)); exact BK269.out) hb)
 replace HB := am_ (below_step (by repeat (first | (with_reducible first | exact HB.out | apply b1_ | apply b2_ | apply b3_ | refine b4_ ?_ GE269.out) | exact HB.out)) hb)
 (try clear hb)
 refine hK.out _ _ (c10_ BK269.out) (fun hHeld => ?_)
 clear hK K
 refine no_ (by simp only [Act.put, aS, aZ, aC, i64_w, i32_w]; rfl) ?_
 refine pu_ 4 7 (bs_ 9 31) rfl rfl (any_of HT_.out (by kernel_rfl)) rfl (by intro w'; go_simp; with_reducible rfl) (by simp only [Act.put, aS, aZ, aC, i64_w, i32_w]; rfl) (fun _ _ _ h => h) ?_
 refine pu_ 5 8 (bs_ 9 63) rfl rfl (any_of HT_.out (by kernel_rfl)) rfl (by intro w'; go_simp; with_reducible rfl) (by simp only [Act.put, aS, aZ, aC, i64_w, i32_w]; rfl) (fun _ _ _ h => h) ?_
 refine pure_ (i := 6) (N := some 9) (v := undef) (a' := ?_) (bs_ 9 127) rfl rfl (any_of HT_.out (by kernel_rfl)) (fun _ _ _ h => h) (Or.inr ⟨by rfl, rfl⟩) ?_ ?_
 rotate_left
 · simp only [Act.put, aS, aZ, aC, i64_w, i32_w]
   rfl
 rotate_left
 all_goals
  refine pu_ 7 10 (bs_ 9 255) rfl rfl (any_of HT_.out (by kernel_rfl)) rfl (by intro w'; go_simp; with_reducible rfl) (by simp only [Act.put, aS, aZ, aC, i64_w, i32_w]; rfl) (fun _ _ _ h => h) ?_
  refine pu_ 8 2 (bs_ 9 511) rfl rfl (any_of HT_.out (by kernel_rfl)) rfl (by intro w'; go_simp; with_reducible rfl) (by simp only [Act.put, aS, aZ, aC, i64_w, i32_w]; rfl) (fun _ _ _ h => h) ?_
  refine done_ (done_of HT_.out (by kernel_rfl)) ?_
  try go_wp2
  go_ret
  exact ⟨by first | rfl | (simp [errW_none, errW_some] <;> rfl) | (simp [*, errW_none, errW_some] <;> rfl), by repeat (first | (with_reducible first | exact HB.out | apply b1_ | apply b2_ | apply b3_ | refine b4_ ?_ GE269.out) | exact HB.out)⟩
end Go.Proofs.YtndbbgihpoiojaaGreatDoor.Q
namespace Go.Proofs.YtndbbgihpoiojaaGreatDoor.Q
open Go.RowKit Go.Proofs.YtndbbgihpoiojaaGreatDoorW.PrintWords Go.Proofs.YtndbbgihpoiojaaGreatDoorW.PrintLast
theorem bt_of (s : ByteArray) (i : Nat) (b : UInt8) (h : s.data.toList[i]? = some b) : bt s (i : Int) = (b.toNat : Int) := by
 obtain ⟨⟨l⟩⟩ := s
 have h' : l[i]? = some b := h
 obtain ⟨hi, rfl⟩ := List.getElem?_eq_some_iff.1 h'
 have hs : ((i : Int)).toNat < (ByteArray.mk ⟨l⟩).size := by
  show ((i : Int)).toNat < l.toArray.size
  simpa using hi
 rw [← bt_at _ _ hs]
 rfl
theorem hex_bt : ∀ (k : Nat), k < 16 → bt (⟨#[48, 49, 50, 51, 52, 53, 54, 55, 56, 57, 65, 66, 67, 68, 69, 70]⟩ : ByteArray) (k : Int) = ((sc.hexD k).toNat : Int) := by
 intro k hk
 have : k = 0 ∨ k = 1 ∨ k = 2 ∨ k = 3 ∨ k = 4 ∨ k = 5 ∨ k = 6 ∨ k = 7 ∨ k = 8 ∨ k = 9 ∨ k = 10 ∨ k = 11 ∨ k = 12 ∨ k = 13 ∨ k = 14 ∨ k = 15 := by omega
 rcases this with rfl | rfl | rfl | rfl | rfl | rfl | rfl | rfl | rfl | rfl | rfl | rfl | rfl | rfl | rfl | rfl <;> decide
theorem pct_nums (b : UInt8) : ([37, bt (⟨#[48, 49, 50, 51, 52, 53, 54, 55, 56, 57, 65, 66, 67, 68, 69, 70]⟩ : ByteArray) ((Int.tdiv (b.toNat : Int) 16) % 256), bt (⟨#[48, 49, 50, 51, 52, 53, 54, 55, 56, 57, 65, 66, 67, 68, 69, 70]⟩ : ByteArray) (Int.tmod (b.toNat : Int) 16)] : List Int) = nums8 (sc.pct b) := by
 have hb := b.toNat_lt
 have e1 : (Int.tdiv (b.toNat : Int) 16) % 256 = ((b.toNat / 16 : Nat) : Int) := by
  rw [Int.tdiv_eq_ediv_of_nonneg (by omega)]
  omega
 have e2 : Int.tmod (b.toNat : Int) 16 = ((b.toNat % 16 : Nat) : Int) := by
  rw [Int.tmod_eq_emod_of_nonneg (by omega)]
  omega
 rw [e1, e2, hex_bt _ (by omega), hex_bt _ (by omega)]
 rfl
theorem pct_len (b : UInt8) : (sc.pct b).length = 3 := rfl
theorem l1_end {k : Nat} {x0 : ByteArray} {x3 : List Int} {x5 x7 : Int} (h : ¬ x7 < x5) (h0 : 0 ≤ x5) (h1 : x5 ≤ (x0.size : Int)) : cloisterref26_Quote.l1 (k + 1) x0 x3 x5 x7 = cloisterref26_Quote.l0 k (x0.extract (x5 : Int).toNat x0.size) x3 := by
 rw [cloisterref26_Quote.l1, if_neg h, if_pos h0, if_pos h1]
theorem l1_step {k : Nat} {x0 : ByteArray} {x3 : List Int} {x5 : Int} {i : Nat} {b : UInt8} (h : (i : Int) < x5) (h1 : (i : Int) < (x0.size : Int)) (hb : bt x0 (i : Int) = (b.toNat : Int)) (hl : x3.length + 3 < 140737488355328) (hi : i < 1099511627776) : cloisterref26_Quote.l1 (k + 1) x0 x3 x5 (i : Int) = cloisterref26_Quote.l1 k x0 (x3 ++ nums8 (sc.pct b)) x5 ((i + 1 : Nat) : Int) := by
 have hb2 := b.toNat_lt
 have e1 : (Int.tdiv (b.toNat : Int) 16) % 256 = ((b.toNat / 16 : Nat) : Int) := by
  rw [Int.tdiv_eq_ediv_of_nonneg (by omega)]
  omega
 have e2 : Int.tmod (b.toNat : Int) 16 = ((b.toNat % 16 : Nat) : Int) := by
  rw [Int.tmod_eq_emod_of_nonneg (by omega)]
  omega
 have hw1 : wrap64 ((i : Int) + 1) = ((i + 1 : Nat) : Int) := by unfold wrap64; omega
 have hp : x3.length + (nums8 (sc.pct b)).length < 140737488355328 := by rw [nums8_length, pct_len]; exact hl
 have d0 : 0 ≤ (Int.tdiv (b.toNat : Int) 16) % 256 := by rw [e1]; exact Int.natCast_nonneg _
 have d1 : (Int.tdiv (b.toNat : Int) 16) % 256 < 16 := by rw [e1]; omega
 have m0 : 0 ≤ Int.tmod (b.toNat : Int) 16 := by rw [e2]; exact Int.natCast_nonneg _
 have m1 : Int.tmod (b.toNat : Int) 16 < 16 := by rw [e2]; omega
 rw [cloisterref26_Quote.l1, if_pos h, if_pos (Int.natCast_nonneg i), if_pos h1]
 rw [hb, if_pos d0, if_pos d1, if_pos m0, if_pos m1, pct_nums, hw1, Option.bind_some, if_pos hp]
theorem rq_l1 (M : Nat) (hM : M < 140737488355328) (x0 : ByteArray) (wd : Nat) (hw : wd ≤ x0.size) (hs : x0.size ≤ 1099511627776) (K d : Nat) : ∀ (i : Nat) (acc : List UInt8), i + d = wd → acc.length + 3 * d ≤ M →
 cloisterref26_Quote.l1 (K + 1 + d) x0 (nums8 acc) wd i = cloisterref26_Quote.l0 K (x0.extract wd x0.size) (nums8 (acc ++ ((x0.data.toList.take wd).drop i).flatMap sc.pct)) := by
 induction d with
 | zero =>
  intro i acc hi hl
  have hd : (x0.data.toList.take wd).drop i = [] := by
   apply List.drop_eq_nil_of_le
   have := List.length_take_le wd x0.data.toList
   omega
  rw [hd, Nat.add_zero, l1_end (by omega) (by omega) (by omega), List.flatMap_nil, List.append_nil]
  rfl
 | succ d ih =>
  intro i acc hi hl
  have hil : i < x0.data.toList.length := by rw [← Lib.size_eq]; omega
  obtain ⟨b, hb⟩ : ∃ b, x0.data.toList[i]? = some b := ⟨_, List.getElem?_eq_getElem hil⟩
  have hbt := bt_of x0 i b hb
  have ih := ih (i + 1) (acc ++ sc.pct b) (by omega) (by rw [List.length_append, pct_len]; omega)
  have hd : (x0.data.toList.take wd).drop i = b :: (x0.data.toList.take wd).drop (i + 1) := by
   have hi2 : i < (x0.data.toList.take wd).length := by simp only [List.length_take]; omega
   rw [List.drop_eq_getElem_cons hi2]
   congr 1
   have : (x0.data.toList.take wd)[i]? = some b := by rw [List.getElem?_take, if_pos (by omega), hb]
   exact (List.getElem?_eq_some_iff.1 this).2
  have hlen : (nums8 acc).length + 3 < 140737488355328 := by rw [nums8_length]; omega
  rw [← Nat.add_assoc, l1_step (b := b) (by omega) (by omega) hbt hlen (by omega), ← nums8_append, ih, hd, List.flatMap_cons, List.append_assoc]
theorem j1_eq (k : Nat) (x0 : ByteArray) (x3 : List Int) (c wd : Nat) (x6 : Bool) :
 cloisterref26_Quote.j1 (k + 1) x0 x3 (c : Int) (wd : Int) x6 = cloisterref26_Quote.j2 k x0 x3 (wd : Int) (x6 && (decide (32 < c) && decide (c ≤ 126) && c != 34 && c != 37 || decide (161 ≤ c))) := by
 rw [cloisterref26_Quote.j1]
 cases x6 with
 | false => rfl
 | true =>
  rw [if_pos rfl, Bool.true_and]
  have e161 : decide ((c : Int) ≥ 161) = decide (161 ≤ c) := decide_eq_decide.2 (by omega)
  rw [e161]
  by_cases h1 : 32 < c
  · rw [if_pos (show (c : Int) ≥ 33 by omega)]
    by_cases h2 : c ≤ 126
    · rw [if_pos (show (c : Int) ≤ 126 by omega)]
      by_cases h3 : c = 34
      · rw [if_pos (show (c : Int) = 34 by omega)]; subst h3; rfl
      rw [if_neg (show ¬ (c : Int) = 34 by omega)]
      by_cases h4 : c = 37
      · rw [if_pos (show (c : Int) = 37 by omega)]; subst h4; rfl
      rw [if_neg (show ¬ (c : Int) = 37 by omega)]
      congr 1
      simp [h1, h2, h3, h4]
    rw [if_neg (show ¬ (c : Int) ≤ 126 by omega)]
    congr 1
    simp [h2]
  rw [if_neg (show ¬ (c : Int) ≥ 33 by omega)]
  congr 1
  simp [h1]
theorem l0_j2 (k : Nat) (x : ByteArray) (x3 : List Int) (h : x.size ≠ 0) : cloisterref26_Quote.l0 (k + 2) x x3 = cloisterref26_Quote.j2 k x x3 (((Lib.decodeGo x).2 : Nat) : Int) (sc.qok (Lib.decodeGo x).1 (Lib.decodeGo x).2) := by
 have h0 : (x.size : Int) > 0 := by omega
 rw [cloisterref26_Quote.l0, if_pos h0]
 unfold utf8_DecodeRuneInString.f
 rw [Option.bind_some]
 by_cases hc : (Lib.decodeGo x).1 = 65533
 · rw [if_pos (by show ((Lib.decodeGo x).1 : Int) = 65533; rw [hc]; rfl), j1_eq]
   congr 1
   unfold sc.qok
   rw [hc]
   congr 1
   have e : (((Lib.decodeGo x).2 : Int) > 1) ↔ 1 < (Lib.decodeGo x).2 := Int.ofNat_lt
   simp [e]
 rw [if_neg (by show ¬ ((Lib.decodeGo x).1 : Int) = 65533; intro h; exact hc (by omega)), j1_eq]
 congr 1
 unfold sc.qok
 simp [hc]
theorem l0_end (k : Nat) (x : ByteArray) (acc : List UInt8) (h : x.size = 0) (hl : acc.length < 140737488355328) : cloisterref26_Quote.l0 (k + 1) x (nums8 acc) = some ⟨(acc ++ [34]).toArray⟩ := by
 have h0 : ¬ (x.size : Int) > 0 := by omega
 have hl' : (nums8 acc).length < 140737488355328 := by rw [nums8_length]; exact hl
 rw [cloisterref26_Quote.l0, if_neg h0, if_pos hl']
 congr 1
 rw [← strOf_nums8, nums8_append]
 rfl
theorem decGo_L (x : ByteArray) (h : x.size ≠ 0) : Lib.decodeGo x = Lib.decodeL x.data.toList := by
 unfold Lib.decodeGo
 rw [if_neg h]
 rfl
theorem ext_drop (x : ByteArray) (n : Nat) : (x.extract n x.size).data.toList = x.data.toList.drop n := by
 rw [extract_data, List.take_of_length_le]
 rw [List.length_drop, data_length]
 exact Nat.le_refl _
theorem rq_l0 (M : Nat) (hM : M < 140737488355328) (n : Nat) : ∀ (x : ByteArray) (acc : List UInt8), x.size ≤ n → x.size ≤ 1099511627776 → acc.length + 3 * x.size ≤ M →
 ∃ k, cloisterref26_Quote.l0 k x (nums8 acc) = some ⟨(acc ++ (sc.qt x.data.toList ++ [34])).toArray⟩ := by
 induction n with
 | zero =>
  intro x acc h1 _ h2
  have h0 : x.size = 0 := by omega
  have hd : x.data.toList = [] := List.length_eq_zero_iff.1 (by rw [data_length]; exact h0)
  refine ⟨1, ?_⟩
  rw [l0_end 0 x acc h0 (by omega), hd]
  rfl
 | succ n ih =>
  intro x acc h1 hb h2
  by_cases h0 : x.size = 0
  · exact ih x acc (by omega) hb h2
  have hne : x.data.toList ≠ [] := fun h => h0 (by rw [← data_length, h]; rfl)
  have hw := sc.width_posL x.data.toList
  have hw2 := Lib.decodeL_le _ hne
  rw [data_length] at hw2
  have hq := sc.qt_step hne
  have hql := sc.qform_length x.data.toList (Lib.decodeL x.data.toList).1 (Lib.decodeL x.data.toList).2
  generalize hC : (Lib.decodeL x.data.toList).1 = C at hq hql
  generalize hW : (Lib.decodeL x.data.toList).2 = W at hq hw hw2 hql
  have hsz : (x.extract W x.size).size = x.size - W := by rw [← data_length, ext_drop, List.length_drop, data_length]
  have hacc : (acc ++ sc.qform x.data.toList C W).length + 3 * (x.extract W x.size).size ≤ M := by
   rw [List.length_append, hsz]; omega
  obtain ⟨K, hK⟩ := ih (x.extract W x.size) (acc ++ sc.qform x.data.toList C W) (by omega) (by omega) hacc
  rw [ext_drop] at hK
  rw [hq]
  have hres : ∀ t : List UInt8, acc ++ (sc.qform x.data.toList C W ++ t ++ [34]) = acc ++ sc.qform x.data.toList C W ++ (t ++ [34]) := fun t => by simp only [List.append_assoc]
  rw [hres, ← hK]
  cases hok : sc.qok C W with
  | true =>
   refine ⟨K + 1 + 2, ?_⟩
   have hx : (x.extract 0 (W : Int).toNat).size = W := by
    rw [← data_length, extract_data, Int.toNat_natCast, List.drop_zero, Nat.sub_zero, List.length_take, data_length]; exact Nat.min_eq_left hw2
   have hg : (nums8 acc).length + (x.extract 0 (W : Int).toNat).size < 140737488355328 := by rw [hx, nums8_length]; omega
   rw [l0_j2 _ _ _ h0, decGo_L x h0, hC, hW, hok, cloisterref26_Quote.j2, if_pos rfl, if_pos (Int.natCast_nonneg W), if_pos (Int.ofNat_le.2 hw2), if_pos hg]
   rw [bytesOf_nums8, ← nums8_append, Int.toNat_natCast, extract_data, List.drop_zero, Nat.sub_zero]
   unfold sc.qform
   rw [hok, if_pos rfl]
  | false =>
   refine ⟨K + 1 + W + 1 + 2, ?_⟩
   rw [l0_j2 _ _ _ h0, decGo_L x h0, hC, hW, hok, cloisterref26_Quote.j2, if_neg Bool.false_ne_true]
   have := rq_l1 M hM x W hw2 hb K W 0 acc (Nat.zero_add W) (by omega)
   rw [show ((0 : Nat) : Int) = 0 from rfl] at this
   rw [this]
   unfold sc.qform
   rw [hok, if_neg Bool.false_ne_true, List.drop_zero]
theorem rq_f (x : ByteArray) (h : x.size ≤ 1099511627776) : ∃ k, cloisterref26_Quote.f k x = some ⟨(sc.quoteL x.data.toList).toArray⟩ := by
 obtain ⟨k, hk⟩ := rq_l0 (3 * x.size + 1) (by omega) x.size x [34] (Nat.le_refl _) h (by show 1 + 3 * x.size ≤ _; omega)
 exact ⟨k, hk⟩
end Go.Proofs.YtndbbgihpoiojaaGreatDoor.Q
namespace Go.Proofs.YtndbbgihpoiojaaGreatDoor.Q
open Go.RowKit Go.Proofs.YtndbbgihpoiojaaGreatDoorW.PrintWords Go.Proofs.YtndbbgihpoiojaaGreatDoorW.PrintLast Go.Proofs.YtndbbgihpoiojaaGreatDoorW.PrintMore
theorem up_ {α : Type} {f : Nat → Option α} (hm : ∀ k, LeO (f k) (f (k + 1))) {k : Nat} {r : α} (h : f k = some r) {m : Nat} (hk : k ≤ m) : f m = some r := by
 induction hk with
 | refl => exact h
 | step _ ih => exact hm _ _ ih
theorem bind_id {α : Type} (x : Option α) : (x.bind fun t => some t) = x := by cases x <;> rfl
def inI (x : Int) : Prop := -9223372036854775808 ≤ x ∧ x ≤ 9223372036854775807
theorem num_f {x : Int} (h : inI x) : script_number.f x = some (itoaB x) := by
 have h' : -9223372036854775808 ≤ x ∧ x ≤ 9223372036854775807 := h
 unfold script_number.f strconv_Itoa.f
 rw [if_pos h']
 rfl
theorem itoa_f {x : Int} (h : inI x) : strconv_Itoa.f x = some (itoaB x) := by
 have h' : -9223372036854775808 ≤ x ∧ x ≤ 9223372036854775807 := h
 unfold strconv_Itoa.f
 rw [if_pos h']
 rfl
theorem quo_f {x : ByteArray} (h : x.size ≤ 1099511627776) : script_Quote.f x = some (quoteB x) := by
 unfold script_Quote.f
 rw [if_pos h]
 rfl
def pairW (p : S62) : List ByteArray := [quoteB p.f0, quoteB (strOfNums p.f1)]
def txnW (d e : Int) : List ByteArray := if (!(d == 0) || (!(e == 0))) = true then [⟨#[116, 120, 110]⟩, itoaB d, itoaB e] else []
def foundW (b : Bool) : List ByteArray := if b = true then [⟨#[102, 111, 117, 110, 100]⟩] else []
def valueW (l : List Int) : List ByteArray := if (l.length : Int) > 0 then [⟨#[118, 97, 108, 117, 101]⟩, quoteB (strOfNums l)] else []
def headW (l : List S62) : List ByteArray := if (l.length : Int) > 0 then [⟨#[112, 97, 105, 114, 115]⟩, itoaB (l.length : Int)] else []
def moreW (b : Bool) : List ByteArray := if b = true then [⟨#[109, 111, 114, 101]⟩] else []
def stampW (x : Int) : List ByteArray := if x = 0 then [] else [⟨#[115, 116, 97, 109, 112]⟩, itoaB x]
def slotW (a b c : Int) : List ByteArray := [⟨#[115, 108, 111, 116]⟩, itoaB a, ⟨#[115, 101, 115, 115, 105, 111, 110]⟩, itoaB b, ⟨#[99, 111, 100, 101]⟩, itoaB c]
abbrev spB : ByteArray := ⟨#[32]⟩
abbrev LIM (n : Nat) : Prop := n < 8796093022208
theorem lim_le {n m : Nat} (h : LIM m) (hn : n ≤ m) : LIM n := Nat.lt_of_le_of_lt hn h
theorem pairs_len (ps : List S62) : (ps.flatMap pairW).length = 2 * ps.length := by
 induction ps with
 | nil => rfl
 | cons p ps ih => rw [List.flatMap_cons, List.length_append, ih]; show 2 + 2 * ps.length = 2 * (ps.length + 1); omega
section
variable (a b c d e : Int) (fd : Bool) (vl : List Int) (ps : List S62) (mo : Bool) (st : Int)
theorem s_j0 (k : Nat) (W : List ByteArray) (h : LIM W.length) : script_Tell.j0 (k + 1) W a b c d e fd vl ps mo st = script_Tell.j1 k (W ++ foundW fd) a b c d e fd vl ps mo st := by
 rw [script_Tell.j0]
 unfold foundW
 cases fd
 · rw [if_neg Bool.false_ne_true, if_neg Bool.false_ne_true, List.append_nil]
 rw [if_pos rfl, if_pos rfl, if_pos h]
theorem s_j1 (k : Nat) (W : List ByteArray) (h : LIM (W.length + 2)) (hv : (strOfNums vl).size ≤ 1099511627776) : script_Tell.j1 (k + 1) W a b c d e fd vl ps mo st = script_Tell.j2 k (W ++ valueW vl) a b c d e fd vl ps mo st := by
 rw [script_Tell.j1]
 unfold valueW
 split
 · rw [quo_f hv, Option.bind_some, Option.bind_some]
   exact if_pos h
 rw [List.append_nil]
theorem s_j2 (k : Nat) (W : List ByteArray) (h : LIM (W.length + 2)) (hp : inI (ps.length : Int)) : script_Tell.j2 (k + 1) W a b c d e fd vl ps mo st = script_Tell.j3 k (W ++ headW ps) a b c d e fd vl ps mo st := by
 rw [script_Tell.j2]
 unfold headW
 split
 · rw [num_f hp, Option.bind_some, Option.bind_some]
   exact if_pos h
 rw [List.append_nil]
theorem s_j5 (k : Nat) (W : List ByteArray) (h : LIM (W.length + 2)) (hp : inI st) : script_Tell.j5 (k + 1) W a b c d e fd vl ps mo st = strings_Join.f (W ++ stampW st) spB := by
 rw [script_Tell.j5]
 unfold stampW
 split
 · rw [List.append_nil]
   exact bind_id _
 rw [num_f hp, Option.bind_some, Option.bind_some]
 refine (if_pos h).trans ?_
 exact bind_id _
theorem s_end (k : Nat) (W : List ByteArray) (i : Nat) (hi : ps.length ≤ i) (h : LIM W.length) : script_Tell.l0 (k + 1) W ps (ps.length : Int) (i : Int) a b c d e fd vl ps mo st = script_Tell.j5 k (W ++ moreW mo) a b c d e fd vl ps mo st := by
 rw [script_Tell.l0, if_neg (by omega)]
 unfold moreW
 cases mo
 · rw [if_neg Bool.false_ne_true, if_neg Bool.false_ne_true, List.append_nil]
 rw [if_pos rfl, if_pos rfl, if_pos h]
theorem rd_at (i : Nat) (p : S62) (h : ps[i]? = some p) : rd_T62 ps (i : Int) = p := by
 unfold rd_T62
 rw [Int.toNat_natCast, List.getD_eq_getElem?_getD, h]
 rfl
theorem s_step (k : Nat) (W : List ByteArray) (i : Nat) (p : S62) (hp : ps[i]? = some p) (h0 : p.f0.size ≤ 1099511627776) (h1 : (strOfNums p.f1).size ≤ 1099511627776) (hi : i < 1099511627776) (h : LIM (W.length + 2)) :
 script_Tell.l0 (k + 1) W ps (ps.length : Int) (i : Int) a b c d e fd vl ps mo st = script_Tell.l0 k (W ++ pairW p) ps (ps.length : Int) ((i + 1 : Nat) : Int) a b c d e fd vl ps mo st := by
 have hl := (List.getElem?_eq_some_iff.1 hp).1
 rw [script_Tell.l0, if_pos (Int.ofNat_lt.2 hl), if_pos (Int.natCast_nonneg i), if_pos (Int.ofNat_lt.2 hl), rd_at ps i p hp, quo_f h0, Option.bind_some, quo_f h1, Option.bind_some, Option.bind_some]
 rw [if_pos (show W.length + [quoteB p.f0, quoteB (strOfNums p.f1)].length < 8796093022208 from h), w64 (by omega) (by omega)]
 rfl
theorem s_l0 (M : Nat) (hM : LIM M) (hps : ∀ p ∈ ps, p.f0.size ≤ 1099511627776 ∧ (strOfNums p.f1).size ≤ 1099511627776) (hn : ps.length ≤ 1099511627776) (k q : Nat) : ∀ (i : Nat) (W : List ByteArray), i + q = ps.length → W.length + 2 * q ≤ M →
 script_Tell.l0 (k + 1 + q) W ps (ps.length : Int) (i : Int) a b c d e fd vl ps mo st = script_Tell.j5 k (W ++ (ps.drop i).flatMap pairW ++ moreW mo) a b c d e fd vl ps mo st := by
 induction q with
 | zero =>
  intro i W hi hl
  rw [Nat.add_zero, s_end _ _ _ _ _ _ _ _ _ _ _ _ i (by omega) (lim_le hM (by omega)), List.drop_eq_nil_of_le (by omega), List.flatMap_nil, List.append_nil]
 | succ q ih =>
  intro i W hi hl
  have hlt : i < ps.length := by omega
  have hm := hps _ (List.getElem_mem hlt)
  rw [← Nat.add_assoc, s_step _ _ _ _ _ _ _ _ _ _ _ _ i ps[i] (List.getElem?_eq_getElem hlt) hm.1 hm.2 (by omega) (lim_le hM (by omega)), ih (i + 1) _ (by omega) (by rw [List.length_append]; show W.length + 2 + 2 * q ≤ M; omega), List.drop_eq_getElem_cons hlt, List.flatMap_cons]
  simp only [List.append_assoc]
def tellW : List ByteArray := slotW a b c ++ txnW d e ++ foundW fd ++ valueW vl ++ headW ps ++ ps.flatMap pairW ++ moreW mo ++ stampW st
theorem s_f (hab : inI a ∧ inI b ∧ inI c ∧ inI d ∧ inI e ∧ inI st) (M : Nat) (hM : LIM M) (hl : 17 + 2 * ps.length ≤ M) (hv : (strOfNums vl).size ≤ 1099511627776)
 (hps : ∀ p ∈ ps, p.f0.size ≤ 1099511627776 ∧ (strOfNums p.f1).size ≤ 1099511627776) (hn : ps.length ≤ 1099511627776) (k : Nat) :
 script_Tell.f (k + 1 + 1 + ps.length + 1 + 1 + 1 + 1) a b c d e fd vl ps mo st = strings_Join.f (tellW a b c d e fd vl ps mo st) spB := by
 obtain ⟨h1, h2, h3, h4, h5, h6⟩ := hab
 have hp : inI (ps.length : Int) := ⟨by omega, by omega⟩
 have lt : (txnW d e).length ≤ 3 := by unfold txnW; split <;> simp
 have lf : (foundW fd).length ≤ 1 := by unfold foundW; split <;> simp
 have lv : (valueW vl).length ≤ 2 := by unfold valueW; split <;> simp
 have lh : (headW ps).length ≤ 2 := by unfold headW; split <;> simp
 have lm : (moreW mo).length ≤ 1 := by unfold moreW; split <;> simp
 have ls : (slotW a b c).length = 6 := rfl
 have lp := pairs_len ps
 have hbase : script_Tell.f (k + 1 + 1 + ps.length + 1 + 1 + 1 + 1) a b c d e fd vl ps mo st = script_Tell.j0 (k + 1 + 1 + ps.length + 1 + 1 + 1 + 1) (slotW a b c ++ txnW d e) a b c d e fd vl ps mo st := by
  unfold script_Tell.f
  rw [num_f h1, Option.bind_some, num_f h2, Option.bind_some, num_f h3, Option.bind_some, Option.bind_some]
  unfold txnW
  split
  · rw [num_f h4, Option.bind_some, num_f h5, Option.bind_some, Option.bind_some]
    exact if_pos (lim_le hM (show 6 + 3 ≤ M by omega))
  rw [List.append_nil]
  rfl
 rw [hbase, s_j0, s_j1 (hv := hv), s_j2 (hp := hp), script_Tell.j3]
 · have := s_l0 a b c d e fd vl ps mo st M hM hps hn (k + 1) ps.length 0 (slotW a b c ++ txnW d e ++ foundW fd ++ valueW vl ++ headW ps) (by omega) (by simp only [List.length_append]; omega)
   rw [show ((0 : Nat) : Int) = 0 from rfl] at this
   rw [List.drop_zero] at this
   rw [this, s_j5 (hp := h6)]
   · rfl
   refine lim_le hM ?_
   simp only [List.length_append]
   omega
 · refine lim_le hM ?_
   simp only [List.length_append]
   omega
 · refine lim_le hM ?_
   simp only [List.length_append]
   omega
 refine lim_le hM ?_
 simp only [List.length_append]
 omega
def QK (K : Nat) (x : ByteArray) : Prop := ∀ m, K ≤ m → cloisterref26_Quote.f m x = some (quoteB x)
theorem qk_of {x : ByteArray} (h : x.size ≤ 1099511627776) : ∃ K, QK K x := by
 obtain ⟨k, hk⟩ := rq_f x h
 exact ⟨k, fun m hm => up_ (cloisterref26_Quote.mono x) hk hm⟩
theorem qk_mono {K K' : Nat} {x : ByteArray} (h : QK K x) (hk : K ≤ K') : QK K' x := fun m hm => h m (Nat.le_trans hk hm)
theorem qk_all : ∀ (l : List ByteArray), (∀ x ∈ l, x.size ≤ 1099511627776) → ∃ K, ∀ x ∈ l, QK K x
 | [], _ => ⟨0, fun x hx => by cases hx⟩
 | x :: l, h => by
  obtain ⟨K, hK⟩ := qk_all l (fun y hy => h y (.tail _ hy))
  obtain ⟨K', hK'⟩ := qk_of (h x (.head _))
  refine ⟨K + K', fun y hy => ?_⟩
  cases hy with
  | head => exact qk_mono hK' (by omega)
  | tail _ hy => exact qk_mono (hK y hy) (by omega)
def LK (K : Nat) (W : List ByteArray) : Prop := ∀ m, K ≤ m → cloisterref26_line.f m W = some (joinB W spB)
theorem r_j0 (k : Nat) (W : List ByteArray) (h : LIM W.length) : cloisterref26_Tell.j0 (k + 1) W a b c d e fd vl ps mo st = cloisterref26_Tell.j1 k (W ++ foundW fd) a b c d e fd vl ps mo st := by
 rw [cloisterref26_Tell.j0]
 unfold foundW
 cases fd
 · rw [if_neg Bool.false_ne_true, if_neg Bool.false_ne_true, List.append_nil]
 rw [if_pos rfl, if_pos rfl, if_pos h]
theorem r_j1 (K k : Nat) (W : List ByteArray) (h : LIM (W.length + 2)) (hv : QK K (strOfNums vl)) (hk : K ≤ k) : cloisterref26_Tell.j1 (k + 1) W a b c d e fd vl ps mo st = cloisterref26_Tell.j2 k (W ++ valueW vl) a b c d e fd vl ps mo st := by
 rw [cloisterref26_Tell.j1]
 unfold valueW
 split
 · rw [hv k hk, Option.bind_some, Option.bind_some]
   exact if_pos h
 rw [List.append_nil]
theorem r_j4 (k : Nat) (W : List ByteArray) (h : LIM W.length) : cloisterref26_Tell.j4 (k + 1) W a b c d e fd vl ps mo st = cloisterref26_Tell.j5 k (W ++ moreW mo) a b c d e fd vl ps mo st := by
 rw [cloisterref26_Tell.j4]
 unfold moreW
 cases mo
 · rw [if_neg Bool.false_ne_true, if_neg Bool.false_ne_true, List.append_nil]
 rw [if_pos rfl, if_pos rfl, if_pos h]
theorem r_j5 (K k : Nat) (W : List ByteArray) (h : LIM (W.length + 2)) (hp : inI st) (hL : LK K (W ++ stampW st)) (hk : K ≤ k) : cloisterref26_Tell.j5 (k + 1) W a b c d e fd vl ps mo st = some (joinB (W ++ stampW st) spB) := by
 rw [cloisterref26_Tell.j5]
 revert hL
 unfold stampW
 split
 · rw [List.append_nil]
   intro hL
   rw [hL k hk]
   rfl
 intro hL
 rw [itoa_f hp, Option.bind_some, Option.bind_some]
 refine (if_pos h).trans ?_
 rw [hL k hk]
 rfl
theorem r_end (k : Nat) (W : List ByteArray) (i : Nat) (hi : ps.length ≤ i) : cloisterref26_Tell.l0 (k + 1) W ps (ps.length : Int) (i : Int) a b c d e fd vl ps mo st = cloisterref26_Tell.j4 k W a b c d e fd vl ps mo st := by
 rw [cloisterref26_Tell.l0, if_neg (by omega)]
theorem r_step (K k : Nat) (W : List ByteArray) (i : Nat) (p : S62) (hp : ps[i]? = some p) (h0 : QK K p.f0) (h1 : QK K (strOfNums p.f1)) (hk : K ≤ k) (hi : i < 1099511627776) (h : LIM (W.length + 2)) :
 cloisterref26_Tell.l0 (k + 1) W ps (ps.length : Int) (i : Int) a b c d e fd vl ps mo st = cloisterref26_Tell.l0 k (W ++ pairW p) ps (ps.length : Int) ((i + 1 : Nat) : Int) a b c d e fd vl ps mo st := by
 have hl := (List.getElem?_eq_some_iff.1 hp).1
 rw [cloisterref26_Tell.l0, if_pos (Int.ofNat_lt.2 hl), if_pos (Int.natCast_nonneg i), if_pos (Int.ofNat_lt.2 hl), rd_at ps i p hp, h0 k hk, Option.bind_some, h1 k hk, Option.bind_some, Option.bind_some]
 rw [if_pos (show W.length + [quoteB p.f0, quoteB (strOfNums p.f1)].length < 8796093022208 from h), w64 (by omega) (by omega)]
 rfl
theorem r_l0 (M K : Nat) (hM : LIM M) (hps : ∀ p ∈ ps, QK K p.f0 ∧ QK K (strOfNums p.f1)) (hn : ps.length ≤ 1099511627776) (k q : Nat) (hk : K ≤ k) : ∀ (i : Nat) (W : List ByteArray), i + q = ps.length → W.length + 2 * q ≤ M →
 cloisterref26_Tell.l0 (k + 1 + q) W ps (ps.length : Int) (i : Int) a b c d e fd vl ps mo st = cloisterref26_Tell.j4 k (W ++ (ps.drop i).flatMap pairW) a b c d e fd vl ps mo st := by
 induction q with
 | zero =>
  intro i W hi hl
  rw [Nat.add_zero, r_end _ _ _ _ _ _ _ _ _ _ _ _ i (by omega), List.drop_eq_nil_of_le (by omega), List.flatMap_nil, List.append_nil]
 | succ q ih =>
  intro i W hi hl
  have hlt : i < ps.length := by omega
  have hm := hps _ (List.getElem_mem hlt)
  rw [← Nat.add_assoc, r_step _ _ _ _ _ _ _ _ _ _ K _ _ i ps[i] (List.getElem?_eq_getElem hlt) hm.1 hm.2 (by omega) (by omega) (lim_le hM (by omega)), ih (i + 1) _ (by omega) (by rw [List.length_append]; show W.length + 2 + 2 * q ≤ M; omega), List.drop_eq_getElem_cons hlt, List.flatMap_cons]
  simp only [List.append_assoc]
theorem r_j2 (M K k : Nat) (W R : List ByteArray) (x : ByteArray) (hM : LIM M) (hl : W.length + 2 + 2 * ps.length ≤ M) (hps : ∀ p ∈ ps, QK K p.f0 ∧ QK K (strOfNums p.f1)) (hn : ps.length ≤ 1099511627776) (hk : K ≤ k)
 (hR : ∀ m, K ≤ m → cloisterref26_Tell.j4 (m + 1 + 1) (W ++ headW ps ++ ps.flatMap pairW) a b c d e fd vl ps mo st = some x) :
 cloisterref26_Tell.j2 (k + 1 + 1 + 1 + ps.length + 1) W a b c d e fd vl ps mo st = some x := by
 rw [cloisterref26_Tell.j2]
 have hp : inI (ps.length : Int) := ⟨by omega, by omega⟩
 by_cases h : (ps.length : Int) > 0
 · have hh : headW ps = [⟨#[112, 97, 105, 114, 115]⟩, itoaB (ps.length : Int)] := if_pos h
   rw [hh] at hR
   rw [if_pos h, itoa_f hp, Option.bind_some, Option.bind_some]
   refine (if_pos (show W.length + 2 < 8796093022208 from lim_le hM (by omega))).trans ?_
   have := r_l0 a b c d e fd vl ps mo st M K hM hps hn (k + 1 + 1) ps.length (by omega) 0 (W ++ [⟨#[112, 97, 105, 114, 115]⟩, itoaB (ps.length : Int)]) (by omega) (by rw [List.length_append]; show W.length + 2 + 2 * ps.length ≤ M; exact hl)
   rw [List.drop_zero, show ((0 : Nat) : Int) = 0 from rfl] at this
   rw [this]
   exact hR k hk
 have hh : headW ps = [] := if_neg h
 have h0 : ps.length = 0 := by omega
 have he : ps = [] := List.length_eq_zero_iff.1 h0
 rw [hh, List.append_nil, show ps.flatMap pairW = [] by rw [he]; rfl, List.append_nil] at hR
 rw [if_neg h, h0]
 exact hR (k + 1) (by omega)
theorem ap_data (x y : ByteArray) : (x ++ y).data.toList = x.data.toList ++ y.data.toList := by simp [ByteArray.data_append]
def tailAt (i : Nat) (L : List ByteArray) : List UInt8 := if i = 0 then Lib.join (L.map (·.data.toList)) [32] else Lib.joinTail [32] (L.map (·.data.toList))
theorem tailAt_cons (i : Nat) (x : ByteArray) (L : List ByteArray) : tailAt i (x :: L) = (if i = 0 then x.data.toList else [32] ++ x.data.toList) ++ tailAt (i + 1) L := by
 unfold tailAt
 rw [if_neg (Nat.succ_ne_zero i)]
 by_cases h : i = 0
 · rw [if_pos h, if_pos h, List.map_cons, Lib.join_cons]
 rw [if_neg h, if_neg h, List.map_cons]
 unfold Lib.joinTail
 rw [List.map_cons, List.flatten_cons]
theorem tailAt_nil (i : Nat) : tailAt i [] = [] := by unfold tailAt; split <;> rfl
theorem li_end (k : Nat) (x3 : ByteArray) (W : List ByteArray) (i : Nat) (h : W.length ≤ i) : cloisterref26_line.l0 (k + 1) x3 W (W.length : Int) (i : Int) = some x3 := by
 rw [cloisterref26_line.l0, if_neg (by omega)]
theorem li_step (k : Nat) (x3 x : ByteArray) (W : List ByteArray) (i : Nat) (h : W[i]? = some x) (hi : i < 1099511627776) (hb : (x3.data.toList ++ (if i = 0 then x.data.toList else [32] ++ x.data.toList)).length ≤ 140737488355328) :
 cloisterref26_line.l0 (k + 1) x3 W (W.length : Int) (i : Int) = cloisterref26_line.l0 k ⟨(x3.data.toList ++ (if i = 0 then x.data.toList else [32] ++ x.data.toList)).toArray⟩ W (W.length : Int) ((i + 1 : Nat) : Int) := by
 have hl := (List.getElem?_eq_some_iff.1 h).1
 have hr : rdOf ByteArray.empty W (i : Int) = x := by
  unfold rdOf
  rw [Int.toNat_natCast, List.getD_eq_getElem?_getD, h]
  rfl
 have hw : wrap64 ((i : Int) + 1) = ((i + 1 : Nat) : Int) := w64 (by omega) (by omega)
 rw [cloisterref26_line.l0, if_pos (Int.ofNat_lt.2 hl), if_pos (Int.natCast_nonneg i), if_pos (Int.ofNat_lt.2 hl), hr, hw]
 by_cases h0 : i = 0
 · rw [if_neg (show ¬ (i : Int) > 0 by omega)]
   rw [if_pos h0] at hb ⊢
   have hs : x3.size + x.size ≤ 9223372036854775807 := by
    rw [← data_length, ← data_length, ← List.length_append]
    exact Nat.le_trans hb (by decide)
   rw [if_pos hs]
   rw [show x3 ++ x = ⟨(x3.data.toList ++ x.data.toList).toArray⟩ from ba_ext (ap_data x3 x)]
 rw [if_pos (show (i : Int) > 0 by omega)]
 rw [if_neg h0] at hb ⊢
 have e1 : (x3 ++ (⟨#[32]⟩ : ByteArray)).data.toList = x3.data.toList ++ [32] := ap_data x3 ⟨#[32]⟩
 rw [← List.append_assoc, List.length_append, List.length_append] at hb
 have hs : x3.size + 1 ≤ 9223372036854775807 := by
  rw [← data_length]
  exact Nat.le_trans (Nat.le_trans (Nat.le_add_right _ _) hb) (by decide)
 have hs2 : (x3 ++ (⟨#[32]⟩ : ByteArray)).size + x.size ≤ 9223372036854775807 := by
  rw [← data_length, e1, ← data_length x, List.length_append]
  exact Nat.le_trans hb (by decide)
 rw [if_pos hs, if_pos hs2]
 rw [show x3 ++ (⟨#[32]⟩ : ByteArray) ++ x = ⟨(x3.data.toList ++ ([32] ++ x.data.toList)).toArray⟩ from ba_ext (by rw [ap_data, e1, List.append_assoc])]
theorem li_l0 (k : Nat) (W : List ByteArray) (hn : W.length ≤ 1099511627776) (q : Nat) : ∀ (i : Nat) (x3 : ByteArray), i + q = W.length → (x3.data.toList ++ tailAt i (W.drop i)).length ≤ 140737488355328 →
 cloisterref26_line.l0 (k + 1 + q) x3 W (W.length : Int) (i : Int) = some ⟨(x3.data.toList ++ tailAt i (W.drop i)).toArray⟩ := by
 induction q with
 | zero =>
  intro i x3 hi hb
  rw [Nat.add_zero, li_end _ _ _ _ (by omega), List.drop_eq_nil_of_le (by omega), tailAt_nil, List.append_nil, ba_eta]
 | succ q ih =>
  intro i x3 hi hb
  have hlt : i < W.length := by omega
  rw [List.drop_eq_getElem_cons hlt, tailAt_cons, ← List.append_assoc] at hb ⊢
  have hb' : (x3.data.toList ++ (if i = 0 then W[i].data.toList else [32] ++ W[i].data.toList)).length ≤ 140737488355328 := by
   rw [List.length_append] at hb
   exact Nat.le_trans (Nat.le_add_right _ _) hb
  rw [← Nat.add_assoc, li_step _ _ W[i] _ _ (List.getElem?_eq_getElem hlt) (by omega) hb', ih (i + 1) _ (by omega) hb]
theorem lk_of (W : List ByteArray) (hn : W.length ≤ 1099511627776) (hb : (joinB W spB).size ≤ 140737488355328) : LK (W.length + 1) W := by
 intro m hm
 obtain ⟨k, rfl⟩ : ∃ k, m = k + 1 + W.length := ⟨m - W.length - 1, by omega⟩
 have := li_l0 k W hn W.length 0 ⟨#[]⟩ (by omega) (by rw [← size_mk]; exact hb)
 exact this
theorem tellW_len (M : Nat) (hl : 17 + 2 * ps.length ≤ M) : (tellW a b c d e fd vl ps mo st).length ≤ M := by
 have lt : (txnW d e).length ≤ 3 := by unfold txnW; split <;> simp
 have lf : (foundW fd).length ≤ 1 := by unfold foundW; split <;> simp
 have lv : (valueW vl).length ≤ 2 := by unfold valueW; split <;> simp
 have lh : (headW ps).length ≤ 2 := by unfold headW; split <;> simp
 have lm : (moreW mo).length ≤ 1 := by unfold moreW; split <;> simp
 have l9 : (stampW st).length ≤ 2 := by unfold stampW; split <;> simp
 have ls : (slotW a b c).length = 6 := rfl
 have lp := pairs_len ps
 unfold tellW
 simp only [List.length_append]
 omega
theorem r_f (hab : inI a ∧ inI b ∧ inI c ∧ inI d ∧ inI e ∧ inI st) (M : Nat) (hM : LIM M) (hl : 17 + 2 * ps.length ≤ M) (hm : M ≤ 1099511627776) (hv : (strOfNums vl).size ≤ 1099511627776)
 (hps : ∀ p ∈ ps, p.f0.size ≤ 1099511627776 ∧ (strOfNums p.f1).size ≤ 1099511627776) (hj : (joinB (tellW a b c d e fd vl ps mo st) spB).size ≤ 140737488355328) :
 ∃ k, cloisterref26_Tell.f (k + 1 + 1 + 1 + ps.length + 1 + 1 + 1) a b c d e fd vl ps mo st = some (joinB (tellW a b c d e fd vl ps mo st) spB) := by
 obtain ⟨h1, h2, h3, h4, h5, h6⟩ := hab
 have lt : (txnW d e).length ≤ 3 := by unfold txnW; split <;> simp
 have lf : (foundW fd).length ≤ 1 := by unfold foundW; split <;> simp
 have lv : (valueW vl).length ≤ 2 := by unfold valueW; split <;> simp
 have lh : (headW ps).length ≤ 2 := by unfold headW; split <;> simp
 have lm : (moreW mo).length ≤ 1 := by unfold moreW; split <;> simp
 have ls : (slotW a b c).length = 6 := rfl
 have lp := pairs_len ps
 obtain ⟨Kv, hKv⟩ := qk_of hv
 obtain ⟨Kp, hKp⟩ := qk_all (ps.flatMap fun p => [p.f0, strOfNums p.f1]) (fun x hx => by
  obtain ⟨p, hp, hx⟩ := List.mem_flatMap.1 hx
  have := hps p hp
  simp only [List.mem_cons, List.not_mem_nil, or_false] at hx
  rcases hx with rfl | rfl
  · exact this.1
  exact this.2)
 have hL := lk_of (tellW a b c d e fd vl ps mo st) (Nat.le_trans (tellW_len a b c d e fd vl ps mo st M hl) hm) hj
 generalize hKL : (tellW a b c d e fd vl ps mo st).length + 1 = KL at hL
 obtain ⟨K, hK⟩ : ∃ K, K = Kv + Kp + KL := ⟨_, rfl⟩
 have hQv : QK K (strOfNums vl) := qk_mono hKv (by omega)
 have hQp : ∀ p ∈ ps, QK K p.f0 ∧ QK K (strOfNums p.f1) := fun p hp =>
  ⟨qk_mono (hKp _ (List.mem_flatMap.2 ⟨p, hp, .head _⟩)) (by omega), qk_mono (hKp _ (List.mem_flatMap.2 ⟨p, hp, .tail _ (.head _)⟩)) (by omega)⟩
 have hLK : LK K (tellW a b c d e fd vl ps mo st) := fun m hm => hL m (by omega)
 clear hKv hKp hL hK hps hv
 refine ⟨K, ?_⟩
 have hbase : cloisterref26_Tell.f (K + 1 + 1 + 1 + ps.length + 1 + 1 + 1) a b c d e fd vl ps mo st = cloisterref26_Tell.j0 (K + 1 + 1 + 1 + ps.length + 1 + 1 + 1) (slotW a b c ++ txnW d e) a b c d e fd vl ps mo st := by
  unfold cloisterref26_Tell.f
  rw [itoa_f h1, Option.bind_some, itoa_f h2, Option.bind_some, itoa_f h3, Option.bind_some, Option.bind_some]
  unfold txnW
  split
  · rw [itoa_f h4, Option.bind_some, itoa_f h5, Option.bind_some, Option.bind_some]
    exact if_pos (lim_le hM (show 6 + 3 ≤ M by omega))
  rw [List.append_nil]
  rfl
 rw [hbase, r_j0 (h := lim_le hM (by rw [List.length_append]; omega)), r_j1 (K := K) (hv := hQv) (hk := by omega) (h := lim_le hM (by simp only [List.length_append]; omega))]
 refine r_j2 a b c d e fd vl ps mo st M K K _ [] _ hM (by simp only [List.length_append]; omega) hQp (by omega) (Nat.le_refl _) (fun m hm => ?_)
 rw [r_j4 (h := lim_le hM (by simp only [List.length_append]; omega)), r_j5 (K := K) (hp := h6) (hk := hm) (h := lim_le hM (by simp only [List.length_append]; omega))]
 · rfl
 exact hLK
theorem tells_f (hab : inI a ∧ inI b ∧ inI c ∧ inI d ∧ inI e ∧ inI st) (M : Nat) (hM : LIM M) (hl : 17 + 2 * ps.length ≤ M) (hm : M ≤ 1099511627776) (hv : (strOfNums vl).size ≤ 1099511627776)
 (hps : ∀ p ∈ ps, p.f0.size ≤ 1099511627776 ∧ (strOfNums p.f1).size ≤ 1099511627776) (hj : (joinB (tellW a b c d e fd vl ps mo st) spB).size ≤ 140737488355328) :
 ∃ k, cloisterlaw26_ScriptTells.f k a b c d e fd vl ps mo st = some true := by
 obtain ⟨k, hk⟩ := r_f a b c d e fd vl ps mo st hab M hM hl hm hv hps hj
 have hs := s_f a b c d e fd vl ps mo st hab M hM hl hv hps (by omega) k
 have hjj : strings_Join.f (tellW a b c d e fd vl ps mo st) spB = some (joinB (tellW a b c d e fd vl ps mo st) spB) := by
  unfold strings_Join.f
  have hlen := tellW_len a b c d e fd vl ps mo st M hl
  exact if_pos ⟨Nat.le_trans (Nat.le_trans hlen hm) (by decide), hj⟩
 rw [hjj] at hs
 have hn : k + 1 + 1 + ps.length + 1 + 1 + 1 + 1 = k + 1 + 1 + 1 + ps.length + 1 + 1 + 1 := by omega
 rw [hn] at hs
 refine ⟨k + 1 + 1 + 1 + ps.length + 1 + 1 + 1, ?_⟩
 unfold cloisterlaw26_ScriptTells.f
 rw [hs, Option.bind_some, hk, Option.bind_some, if_pos rfl]
 rfl
end
end Go.Proofs.YtndbbgihpoiojaaGreatDoor.Q
namespace Go.Proofs.YtndbbgihpoiojaaGreatDoor.ev
open Go.RowKit Go.Lib
abbrev laidL : List (String × DataW Unit) := Rows.scriptQuotesRow.laid
theorem pow_eq : (Rows.laid_internal_strconv_uint64pow10 : DataW Unit) = tabData .u64 Lib.pow10Tab := by kernel_rfl
theorem acc_eq : (Rows.laid_unicode_utf8_acceptRanges : DataW Unit) = acceptData := by kernel_rfl
theorem first_eq : Rows.laid_unicode_utf8_first = firstData := Pinned.utf8First_eq
theorem nm0 : Tryz.prog.globalNamed "unicode/utf8.first" = some 0 := by kernel_rfl
theorem nm1 : Tryz.prog.globalNamed "unicode/utf8.acceptRanges" = some 1 := by kernel_rfl
theorem nm2 : Tryz.prog.globalNamed "internal/strconv.uint64pow10" = some 2 := by kernel_rfl
theorem nm6 : Tryz.prog.globalNamed "strconv.ErrSyntax" = some 6 := by kernel_rfl
theorem nm7 : Tryz.prog.globalNamed "strconv.ErrRange" = some 7 := by kernel_rfl
theorem ty2 : (Tryz.prog.globals[2]?).map (·.type) = some 163 := by kernel_rfl
theorem ty6 : (Tryz.prog.globals[6]?).map (·.type) = some 117 := by kernel_rfl
theorem ty7 : (Tryz.prog.globals[7]?).map (·.type) = some 117 := by kernel_rfl
theorem cells163 : Tryz.prog.cellsOf 163 = 20 := by kernel_rfl
theorem cellsU64 : Tryz.prog.cellsOf 67 = 1 := by kernel_rfl
theorem u8extra : U8Extra Tryz.prog Tryz.lays260_ren where
 n3 := nm0
 n4 := nm1
 y3 := by kernel_rfl
 y4 := by kernel_rfl
 c5 := by kernel_rfl
 c119 := by kernel_rfl
 c138 := by kernel_rfl
theorem iface_at {W : World} {n : String} {d : DataW Unit} {g : Nat} {nm : String} {d' : DataW Unit} (h : VarReads Tryz.prog W n d) (hd : d = .iface nm d') (hg : Tryz.prog.globalNamed n = some g) (ht : (Tryz.prog.globals[g]?).map (·.type) = some 117) : ∃ te pe, W.cell? ⟨g, 0, none⟩ = some (.iface te pe) := by
 subst hd
 obtain ⟨g', t, cs, fuel, p, hg', hty, hvar, hd⟩ := h
 obtain rfl := Option.some.inj (hg.symm.trans hg')
 obtain rfl := Option.some.inj (ht.symm.trans hty)
 obtain ⟨f1, u, v, hcs, _, _⟩ := iface_of_trod Tryz.underlying117 hd
 refine ⟨u, v, ?_⟩
 rw [World.var?_cell hg hvar 0, ← Array.getElem?_toList, hcs]
 rfl
theorem env_of {W : World} (hL : laidMet Tryz.prog laidL W) (hsh : W.ShapedOpen Tryz.prog) : sc.Env W where
 pow := by
  have h := Go.Lib.laidMet.reads hL (n := "internal/strconv.uint64pow10") (d := Rows.laid_internal_strconv_uint64pow10) (.tail _ (.tail _ (.head _)))
  rw [pow_eq] at h
  obtain ⟨g, t, cs, fuel, p, hg, hty, hvar, hd⟩ := h
  obtain rfl := Option.some.inj (nm2.symm.trans hg)
  obtain rfl := Option.some.inj (ty2.symm.trans hty)
  have hcs := cells_of_tab Tryz.underlying163 Tryz.underlying67 cellsU64 cells163 hd
  unfold TabIs
  rw [hvar, ← hcs]
 utf := by
  have h3 := Go.Lib.laidMet.reads hL (n := "unicode/utf8.first") (d := Rows.laid_unicode_utf8_first) (.tail _ (.tail _ (.tail _ (.tail _ (.tail _ (.tail _ (.head _)))))))
  have h4 := Go.Lib.laidMet.reads hL (n := "unicode/utf8.acceptRanges") (d := Rows.laid_unicode_utf8_acceptRanges) (.tail _ (.tail _ (.tail _ (.head _))))
  rw [first_eq] at h3
  rw [acc_eq] at h4
  exact utf8Tabs_of_readsT (U8Types.of260 Tryz.lays260) u8extra h3 h4
 max := Go.Proofs.cell_of_shapedOpen_int (zero := #[.int .i64 0]) (t := 3) hsh (of_decide_eq_true (by kernel_rfl)) (by kernel_rfl) rfl (by kernel_rfl) (by kernel_rfl) Tryz.underlying3
 syn := iface_at (Go.Lib.laidMet.reads hL (n := "strconv.ErrSyntax") (d := Rows.laid_strconv_ErrSyntax) (.tail _ (.tail _ (.tail _ (.tail _ (.tail _ (.head _))))))) rfl nm6 ty6
 rng := iface_at (Go.Lib.laidMet.reads hL (n := "strconv.ErrRange") (d := Rows.laid_strconv_ErrRange) (.tail _ (.tail _ (.tail _ (.tail _ (.head _)))))) rfl nm7 ty7
theorem own : ownKnob Tryz.prog.godebug = none := by kernel_rfl
abbrev synS : ByteArray := { data := #[105, 110, 118, 97, 108, 105, 100, 32, 115, 121, 110, 116, 97, 120] }
abbrev rngS : ByteArray := { data := #[118, 97, 108, 117, 101, 32, 111, 117, 116, 32, 111, 102, 32, 114, 97, 110, 103, 101] }
noncomputable def low : Nat := (World.holding Tryz.prog default ⟨#[], #[], []⟩).heap.size
def put (cs : Array Value) : Obj → Obj
 | .cells _ t frozen => .cells cs t frozen
 | o => o
def flat : DataW Unit → List Value
 | .agg l => l.flatMap fun d => match d with
  | .lit (.int k z) => [.int k z]
  | .agg m => m.flatMap fun d => match d with
   | .lit (.int k z) => [.int k z]
   | _ => []
  | _ => []
 | _ => []
noncomputable def laidWorld (os : Os) : World :=
 let w0 := World.holding Tryz.prog os ⟨#[.cells #[.string synS] 195, .cells #[.string rngS] 195], #[], []⟩
 { w0 with heap := (((((((w0.heap.modify 0 (put (flat firstData).toArray)).modify 1 (put (flat acceptData).toArray)).modify 2 (put (flat (tabData .u64 Lib.pow10Tab)).toArray)).modify 4 (put (flat Rows.laid_math_bits_deBruijn32tab).toArray)).modify 5 (put (flat Rows.laid_math_bits_deBruijn64tab).toArray)).modify 6 (put #[.iface 193 (.pointer (some ⟨low, 0, none⟩))])).modify 7 (put #[.iface 193 (.pointer (some ⟨low + 1, 0, none⟩))])) }
theorem laidWorld_met (os : Os) (args : Array Value) : laidMet Tryz.prog laidL ((laidWorld os).forCall (fun _ _ => 0) ⟨#[], args, []⟩).memory :=
 laidMet_of_run' 8 (by kernel_rfl) (by kernel_rfl)
theorem laidWorld_metH (os : Os) (args : Array Value) : laidMetH Tryz.prog laidL ((laidWorld os).forCall (fun _ _ => 0) ⟨#[], args, []⟩).memory := by
 rw [Go.MakeChecks.laidMetH_plain _ _ _ (by kernel_rfl)]
 exact laidWorld_met os args
end Go.Proofs.YtndbbgihpoiojaaGreatDoor.ev
namespace Go.Proofs.YtndbbgihpoiojaaGreatDoor.ev
open Go.RowKit Go.Lib Go.ChangeShapes Go.Proofs.YtndbbgihpoiojaaGreatDoorW.PrintWords Go.Proofs.YtndbbgihpoiojaaGreatDoor.Q
def Opens {α : Type} (d : Kd α) (t : TypeId) (wf : α → Prop) (wt : α → Nat) : Prop :=
 ∀ (H : Type) (enc : TypeId × Value → H) (w : World) (base : Nat) (sp : Nat → Bool) (held : Bool) (fuel : Nat) (cs : List Value) (x : DataW H × List MemPlace),
  DataW.trod enc Tryz.prog w base sp held fuel t cs = some x → ∃ a : α, d.K w a cs ∧ wf a ∧ wt a ≤ Rows.uptoBulk x.1
def InK (k : IntKind) (n : Int) : Prop := k.min ≤ n ∧ n ≤ k.max
theorem opens_int {t : TypeId} {k : IntKind} (ht : Tryz.prog.underlying t = some (.int k)) : Opens (Kd.int k) t (InK k) (fun _ => 1) := by
 intro H enc w base sp held fuel cs x h
 obtain ⟨n, rfl, rfl, hwf⟩ := DataW.trod_int ht h
 simp only [Lit.wf, Bool.and_eq_true, decide_eq_true_eq] at hwf
 exact ⟨n, rfl, hwf, by simp [Rows.uptoBulk]⟩
theorem opens_bool {t : TypeId} (ht : Tryz.prog.underlying t = some .bool) : Opens Kd.bool t (fun _ => True) (fun _ => 1) := by
 intro H enc w base sp held fuel cs x h
 obtain ⟨n, rfl, rfl⟩ := DataW.trod_bool ht h
 exact ⟨n, rfl, trivial, by simp [Rows.uptoBulk]⟩
theorem opens_string {t : TypeId} (ht : Tryz.prog.underlying t = some .string) : Opens Kd.string t (fun _ => True) (fun s => s.size + 1) := by
 intro H enc w base sp held fuel cs x h
 obtain ⟨n, rfl, rfl, _⟩ := DataW.trod_string ht h
 refine ⟨n, rfl, trivial, ?_⟩
 simp only [Rows.uptoBulk]
 have : n.data.toList.length = n.size := Array.length_toList
 omega
theorem bulkAll_map {H β : Type} (l : List β) (f : β → DataW H) : Rows.uptoBulkAll (l.map f) = (l.map fun b => Rows.uptoBulk (f b)).sum := by
 induction l with
 | nil => simp [Rows.uptoBulkAll]
 | cons b l ih => simp [Rows.uptoBulkAll, ih]
theorem sum_le_sum {β : Type} {f g : β → Nat} (l : List β) (h : ∀ b ∈ l, f b ≤ g b) : (l.map f).sum ≤ (l.map g).sum := by
 induction l with
 | nil => simp
 | cons b l ih =>
  have h0 := h b (.head _)
  have h1 := ih (fun c hc => h c (.tail _ hc))
  simp only [List.map_cons, List.sum_cons]
  omega
theorem list_of' {β : Type} (n : Nat) (Pr : Nat → β → Prop) (h : ∀ i, i < n → ∃ b, Pr i b) : ∃ l : List β, l.length = n ∧ ∀ (i : Nat) (b : β), l[i]? = some b → Pr i b := by
 induction n with
 | zero => exact ⟨[], rfl, fun i b hb => by simp at hb⟩
 | succ n ih =>
  obtain ⟨l, hl, hp⟩ := ih (fun i hi => h i (by omega))
  obtain ⟨b, hb⟩ := h n (by omega)
  refine ⟨l ++ [b], by simp [hl], fun i c hc => ?_⟩
  by_cases hi : i < n
  · rw [List.getElem?_append_left (by omega)] at hc
    exact hp i c hc
  have hil : i < (l ++ [b]).length := (List.getElem?_eq_some_iff.1 hc).1
  have : i = n := by simp [hl] at hil; omega
  subst this
  rw [List.getElem?_append_right (by omega), hl] at hc
  simp at hc
  rw [← hc]
  exact hb
theorem sum_range {β : Type} (l : List β) (f : β → Nat) (g : Nat → Nat) (h : ∀ i b, l[i]? = some b → f b ≤ g i) : (l.map f).sum ≤ ((List.range l.length).map g).sum := by
 have e : l.map f = (List.range l.length).map fun i => match l[i]? with | some b => f b | none => 0 := by
  apply List.ext_getElem?
  intro i
  simp only [List.getElem?_map]
  by_cases hi : i < l.length
  · simp [hi]
  simp [hi]
 rw [e]
 apply sum_le_sum
 intro i hi
 simp only [List.mem_range] at hi
 rw [List.getElem?_eq_getElem hi]
 exact h i _ (List.getElem?_eq_getElem hi)
theorem opens_slice {α : Type} {d : Kd α} {t te : TypeId} {wf : α → Prop} {wt : α → Nat} (e : Nat) (ht : Tryz.prog.underlying t = some (.slice te)) (hs : Tryz.prog.cellsOf te = d.sz) (hd : Opens d te wf wt) :
 Opens (Kd.slice e d) t (fun xs => ∀ a ∈ xs, wf a) (fun xs => (xs.map wt).sum + 1) := by
 intro H enc w base sp held fuel cs x h
 rcases Go.Deep.open_slice ht h with ⟨rfl, rfl⟩ | ⟨a, len, cap, m, n, D, Pl, rfl, hb, hlc, hcap, hm, rfl, hx⟩
 · refine ⟨[], ⟨none, 0, rfl, Nat.le_refl _, rfl, by simp, fun h => absurd h (by simp)⟩, ?_, ?_⟩
   · intro a ha
     exact absurd ha List.not_mem_nil
   show 0 + 1 ≤ Rows.uptoBulk (DataW.nil (H := H))
   simp [Rows.uptoBulk]
 have hle : len ≤ m := by rw [hm]; split <;> omega
 obtain ⟨l, hl, hp⟩ := list_of' len (fun i b => ∃ c, c.length = d.sz ∧ d.K w b c ∧ (∀ j u, c[j]? = some u → w.cell? (a.add (i * d.sz + j)) = some u) ∧ wf b ∧ wt b ≤ Rows.uptoBulk (D i)) (fun i hi => by
  obtain ⟨cs', h1, h2⟩ := hx i (by omega)
  obtain ⟨b, k1, k2, k3⟩ := hd H enc w base sp held n cs' _ h2
  refine ⟨b, cs', d.K_len k1, k1, ?_, k2, k3⟩
  obtain ⟨_, hlen, hcell⟩ := World.cells?_some h1
  rw [hs] at hcell hlen
  intro j u hu
  have hj : j < cs'.length := (List.getElem?_eq_some_iff.1 hu).1
  have := hcell j (by omega)
  rw [add_add] at this
  exact this.trans hu)
 subst hl
 refine ⟨l, ⟨some a, cap, rfl, hlc, rfl, ?_, fun _ => ⟨a, rfl, fun j p hj => ?_⟩⟩, fun b hb => ?_, ?_⟩
 · unfold maxLen at hcap; omega
 · obtain ⟨c, h1, h2, h3, _⟩ := hp j p hj
   exact ⟨c, h1, h2, h3⟩
 · obtain ⟨i, hi, rfl⟩ := List.mem_iff_getElem.1 hb
   obtain ⟨c, _, _, _, h4, _⟩ := hp i _ (List.getElem?_eq_getElem hi)
   exact h4
 simp only [Rows.uptoBulk]
 rw [bulkAll_map]
 have := sum_range l wt (fun i => Rows.uptoBulk (D i)) (fun i b hb => by obtain ⟨c, _, _, _, _, h5⟩ := hp i b hb; exact h5)
 omega
theorem fld {H : Type} {enc : TypeId × Value → H} {w : World} {base n : Nat} {sp : Nat → Bool} {held : Bool} {fs : Array Field} {cs : List Value} {xs : List (DataW H × List MemPlace)}
 (hf : ∀ (i : Nat) (f : Field), fs[i]? = some f → DataW.trod enc Tryz.prog w base sp held n f.type ((cs.drop f.offset).take (Tryz.prog.cellsOf f.type)) = xs[i]?)
 (i off ty sz : Nat) (y : DataW H × List MemPlace) (hfi : (fs[i]?).map (fun f => (f.offset, f.type)) = some (off, ty)) (hsz : Tryz.prog.cellsOf ty = sz) (hx : xs[i]? = some y) :
 DataW.trod enc Tryz.prog w base sp held n ty ((cs.drop off).take sz) = some y := by
 obtain ⟨f, h1, h2⟩ := Option.map_eq_some_iff.1 hfi
 obtain ⟨rfl, rfl⟩ := Prod.mk.inj h2
 rw [← hsz, ← hx]
 exact hf i f h1
theorem opens62 : Opens k62 62 (fun p => ∀ n ∈ p.f1, InK .u8 n) (fun p => p.f0.size + 1 + ((p.f1.map fun _ => 1).sum + 1)) := by
 intro H enc w base sp held fuel cs x h
 obtain ⟨xs, n, rfl, rfl, hl, hxl, hf⟩ := DataW.trod_struct Tryz.underlying62 h
 rw [show Tryz.prog.cellsOf 62 = 2 by kernel_rfl] at hl
 match xs, hxl, cs, hl with
 | [y0, y1], _, [v0, v1], _ =>
  have g0 := fld hf 0 0 9 1 y0 rfl (by kernel_rfl) rfl
  have g1 := fld hf 1 1 38 1 y1 rfl (by kernel_rfl) rfl
  obtain ⟨s, hs, _, ws⟩ := opens_string Tryz.underlying9 H enc w base sp held n [v0] y0 g0
  obtain ⟨l, hk, hwf, wl⟩ := opens_slice 5 Tryz.underlying38 (by kernel_rfl) (opens_int Tryz.underlying5) H enc w base sp held n [v1] y1 g1
  refine ⟨⟨s, l⟩, ⟨[v0], [v1], rfl, hs, hk⟩, hwf, ?_⟩
  simp only [List.map_cons, List.map_nil, Rows.uptoBulk, Rows.uptoBulkAll] at ws wl ⊢
  omega
theorem opens37 : Opens k37 37 (fun p => InK .i64 p.f0 ∧ InK .i64 p.f1) (fun _ => 2) := by
 intro H enc w base sp held fuel cs x h
 obtain ⟨xs, n, rfl, rfl, hl, hxl, hf⟩ := DataW.trod_struct Tryz.underlying37 h
 rw [show Tryz.prog.cellsOf 37 = 2 by kernel_rfl] at hl
 match xs, hxl, cs, hl with
 | [y0, y1], _, [v0, v1], _ =>
  have g0 := fld hf 0 0 3 1 y0 rfl (by kernel_rfl) rfl
  have g1 := fld hf 1 1 3 1 y1 rfl (by kernel_rfl) rfl
  obtain ⟨a0, h0, q0, w0⟩ := opens_int Tryz.underlying3 H enc w base sp held n [v0] y0 g0
  obtain ⟨a1, h1, q1, w1⟩ := opens_int Tryz.underlying3 H enc w base sp held n [v1] y1 g1
  refine ⟨⟨a0, a1⟩, ⟨[v0], [v1], rfl, h0, h1⟩, ⟨q0, q1⟩, ?_⟩
  simp only [List.map_cons, List.map_nil, Rows.uptoBulk, Rows.uptoBulkAll] at w0 w1 ⊢
  omega
theorem open41 {H : Type} {enc : TypeId × Value → H} {w : World} {base : Nat} {sp : Nat → Bool} {held : Bool} {fuel : Nat} {cs : List Value} {x : DataW H × List MemPlace}
 (h : DataW.trod enc Tryz.prog w base sp held fuel 41 cs = some x) :
 ∃ (a b c d e : Int) (fd : Bool) (A6 : Option Addr) (c6 : Nat) (vl : List Int) (A7 : Option Addr) (c7 : Nat) (ps : List S62) (mo : Bool) (st : Int),
  cs = [.int .i64 a, .int .i64 b, .int .i64 c, .int .i64 d, .int .i64 e, .bool fd, .slice A6 vl.length c6, .slice A7 ps.length c7, .bool mo, .int .i64 st] ∧
  (InK .i64 a ∧ InK .i64 b ∧ InK .i64 c ∧ InK .i64 d ∧ InK .i64 e ∧ InK .i64 st) ∧ (vl.length ≤ c6 ∧ Kd.C (Kd.int .u8) w A6 vl.length vl) ∧ (ps.length ≤ c7 ∧ Kd.C k62 w A7 ps.length ps) ∧
  (∀ n ∈ vl, InK .u8 n) ∧ (∀ p ∈ ps, ∀ n ∈ p.f1, InK .u8 n) ∧
  (vl.map fun _ => 1).sum + (ps.map fun p => p.f0.size + 1 + ((p.f1.map fun _ => 1).sum + 1)).sum ≤ Rows.uptoBulk x.1 := by
 obtain ⟨xs, n, rfl, rfl, hl, hxl, hf⟩ := DataW.trod_struct Tryz.underlying41 h
 rw [show Tryz.prog.cellsOf 41 = 10 by kernel_rfl] at hl
 match xs, hxl, cs, hl with
 | [y0, y1, y2, y3, y4, y5, y6, y7, y8], _, [v0, v1, v2, v3, v4, v5, v6, v7, v8, v9], _ =>
  have g0 := fld hf 0 0 3 1 y0 rfl (by kernel_rfl) rfl
  have g1 := fld hf 1 1 3 1 y1 rfl (by kernel_rfl) rfl
  have g2 := fld hf 2 2 31 1 y2 rfl (by kernel_rfl) rfl
  have g3 := fld hf 3 3 37 2 y3 rfl (by kernel_rfl) rfl
  have g4 := fld hf 4 5 4 1 y4 rfl (by kernel_rfl) rfl
  have g5 := fld hf 5 6 38 1 y5 rfl (by kernel_rfl) rfl
  have g6 := fld hf 6 7 39 1 y6 rfl (by kernel_rfl) rfl
  have g7 := fld hf 7 8 4 1 y7 rfl (by kernel_rfl) rfl
  have g8 := fld hf 8 9 3 1 y8 rfl (by kernel_rfl) rfl
  obtain ⟨a, h0, q0, _⟩ := opens_int Tryz.underlying3 H enc w base sp held n [v0] y0 g0
  obtain ⟨b, h1, q1, _⟩ := opens_int Tryz.underlying3 H enc w base sp held n [v1] y1 g1
  obtain ⟨c, h2, q2, _⟩ := opens_int Tryz.underlying31 H enc w base sp held n [v2] y2 g2
  obtain ⟨p, ⟨c30, c31, e3, h3, h3'⟩, q3, _⟩ := opens37 H enc w base sp held n [v3, v4] y3 g3
  obtain ⟨fd, h4, _, _⟩ := opens_bool Tryz.underlying4 H enc w base sp held n [v5] y4 g4
  obtain ⟨vl, ⟨A6, c6, e6, l6, k6⟩, q5, w5⟩ := opens_slice 5 Tryz.underlying38 (by kernel_rfl) (opens_int Tryz.underlying5) H enc w base sp held n [v6] y5 g5
  obtain ⟨ps, ⟨A7, c7, e7, l7, k7⟩, q6, w6⟩ := opens_slice 62 Tryz.underlying39 (by kernel_rfl) opens62 H enc w base sp held n [v7] y6 g6
  obtain ⟨mo, h7, _, _⟩ := opens_bool Tryz.underlying4 H enc w base sp held n [v8] y7 g7
  obtain ⟨st, h8, q8, _⟩ := opens_int Tryz.underlying3 H enc w base sp held n [v9] y8 g8
  obtain ⟨rfl, _⟩ := List.cons.inj (show [v0] = [.int .i64 a] from h0)
  obtain ⟨rfl, _⟩ := List.cons.inj (show [v1] = [.int .i64 b] from h1)
  obtain ⟨rfl, _⟩ := List.cons.inj (show [v2] = [.int .i64 c] from h2)
  obtain rfl : c30 = [.int .i64 p.f0] := h3
  obtain rfl : c31 = [.int .i64 p.f1] := h3'
  obtain ⟨rfl, e3b⟩ := List.cons.inj (show v3 :: [v4] = .int .i64 p.f0 :: [.int .i64 p.f1] from e3)
  obtain ⟨rfl, _⟩ := List.cons.inj e3b
  obtain ⟨rfl, _⟩ := List.cons.inj (show [v5] = [.bool fd] from h4)
  obtain ⟨rfl, _⟩ := List.cons.inj e6
  obtain ⟨rfl, _⟩ := List.cons.inj e7
  obtain ⟨rfl, _⟩ := List.cons.inj (show [v8] = [.bool mo] from h7)
  obtain ⟨rfl, _⟩ := List.cons.inj (show [v9] = [.int .i64 st] from h8)
  refine ⟨a, b, c, p.f0, p.f1, fd, A6, c6, vl, A7, c7, ps, mo, st, rfl, ⟨q0, q1, q2, q3.1, q3.2, q8⟩, ⟨l6, k6⟩, ⟨l7, k7⟩, q5, q6, ?_⟩
  simp only [List.map_cons, List.map_nil, Rows.uptoBulk, Rows.uptoBulkAll] at w5 w6 ⊢
  omega
end Go.Proofs.YtndbbgihpoiojaaGreatDoor.ev
namespace Go.Proofs.YtndbbgihpoiojaaGreatDoor.scriptTells
open Go.ChangeShapes Go.WideShapes Go.ChangeAt Go.RowKit Go.Proofs.YtndbbgihpoiojaaGreatDoor.ev Go.Proofs.YtndbbgihpoiojaaGreatDoor.Q
theorem qt_len : ∀ (n : Nat) (l : List UInt8), l.length ≤ n → (sc.qt l).length ≤ 3 * l.length := by
 intro n
 induction n with
 | zero =>
  intro l h
  have : l = [] := List.length_eq_zero_iff.1 (by omega)
  subst this
  exact Nat.le_refl _
 | succ n ih =>
  intro l h
  by_cases hne : l = []
  · subst hne
    exact Nat.le_refl _
  have h1 := sc.width_posL l
  have h2 := Lib.decodeL_le l hne
  have h3 := sc.qform_length l (Lib.decodeL l).1 (Lib.decodeL l).2
  have h4 := ih (l.drop (Lib.decodeL l).2) (by rw [List.length_drop]; omega)
  rw [List.length_drop] at h4
  rw [sc.qt_step hne, List.length_append]
  omega
theorem quoteB_size (x : ByteArray) : (quoteB x).size ≤ 3 * x.size + 2 := by
 show (sc.quoteL x.data.toList).toArray.size ≤ _
 have h : sc.quoteL x.data.toList = 34 :: (sc.qt x.data.toList ++ [34]) := rfl
 have := qt_len _ x.data.toList (Nat.le_refl _)
 rw [← Lib.size_eq] at this
 rw [h]
 simp
 omega
theorem strNums_size (l : List Int) : (strOfNums l).size = l.length := by
 unfold strOfNums
 simp [ByteArray.size]
theorem sum_ones {α : Type} (l : List α) : (l.map fun _ => 1).sum = l.length := by
 induction l with
 | nil => rfl
 | cons x l ih => rw [List.map_cons, List.sum_cons, ih, List.length_cons, Nat.add_comm]
def szs (l : List ByteArray) : Nat := (l.map ByteArray.size).sum
theorem szs_app (a b : List ByteArray) : szs (a ++ b) = szs a + szs b := by unfold szs; rw [List.map_append, List.sum_append]
def wt62 (p : S62) : Nat := p.f0.size + 1 + ((p.f1.map fun _ => 1).sum + 1)
theorem szs_pairs (ps : List S62) : szs (ps.flatMap pairW) ≤ 3 * (ps.map wt62).sum := by
 induction ps with
 | nil => exact Nat.le_refl _
 | cons p ps ih =>
  have h1 := quoteB_size p.f0
  have h2 := quoteB_size (strOfNums p.f1)
  rw [strNums_size] at h2
  rw [List.flatMap_cons, szs_app, List.map_cons, List.sum_cons]
  have h3 : szs (pairW p) = (quoteB p.f0).size + ((quoteB (strOfNums p.f1)).size + 0) := rfl
  have h4 : wt62 p = p.f0.size + 1 + (p.f1.length + 1) := by unfold wt62; rw [sum_ones]
  omega
theorem len_le_wt (ps : List S62) : ps.length ≤ (ps.map wt62).sum := by
 induction ps with
 | nil => exact Nat.le_refl _
 | cons p ps ih =>
  rw [List.map_cons, List.sum_cons, List.length_cons]
  have : 1 ≤ wt62 p := by unfold wt62; omega
  omega
theorem mem_le (f : S62 → Nat) (ps : List S62) (p : S62) (h : p ∈ ps) : f p ≤ (ps.map f).sum := by
 induction ps with
 | nil => cases h
 | cons q ps ih =>
  rw [List.map_cons, List.sum_cons]
  cases h with
  | head => omega
  | tail _ h => have := ih h; omega
theorem tell_size (a b c d e : Int) (fd : Bool) (vl : List Int) (ps : List S62) (mo : Bool) (st : Int) (h : sc.InInt a ∧ sc.InInt b ∧ sc.InInt c ∧ sc.InInt d ∧ sc.InInt e ∧ sc.InInt st) (hn : sc.InInt (ps.length : Int)) (N : Nat) (hN : vl.length + (ps.map wt62).sum ≤ N) :
 (joinB (tellW a b c d e fd vl ps mo st) spB).size ≤ 10 * N + 400 := by
 obtain ⟨h1, h2, h3, h4, h5, h6⟩ := h
 have i1 := itoaB_size a h1
 have i2 := itoaB_size b h2
 have i3 := itoaB_size c h3
 have i4 := itoaB_size d h4
 have i5 := itoaB_size e h5
 have i6 := itoaB_size st h6
 have i7 := itoaB_size _ hn
 have q1 := quoteB_size (strOfNums vl)
 rw [strNums_size] at q1
 have p1 := szs_pairs ps
 have p2 := len_le_wt ps
 have hj := joinB_le (tellW a b c d e fd vl ps mo st) spB
 have hl := tellW_len a b c d e fd vl ps mo st (17 + 2 * ps.length) (Nat.le_refl _)
 have e0 : ((tellW a b c d e fd vl ps mo st).map ByteArray.size).sum = szs (tellW a b c d e fd vl ps mo st) := rfl
 have e1 : szs (tellW a b c d e fd vl ps mo st) = szs (slotW a b c) + szs (txnW d e) + szs (foundW fd) + szs (valueW vl) + szs (headW ps) + szs (ps.flatMap pairW) + szs (moreW mo) + szs (stampW st) := by
  unfold tellW
  simp only [szs_app]
 have s1 : szs (slotW a b c) ≤ 100 := by
  show 4 + ((itoaB a).size + (7 + ((itoaB b).size + (4 + ((itoaB c).size + 0))))) ≤ 100
  omega
 have s2 : szs (txnW d e) ≤ 50 := by
  unfold txnW
  split
  · show 3 + ((itoaB d).size + ((itoaB e).size + 0)) ≤ 50
    omega
  exact Nat.zero_le _
 have s3 : szs (foundW fd) ≤ 5 := by unfold foundW; split <;> decide
 have s4 : szs (valueW vl) ≤ 3 * vl.length + 10 := by
  unfold valueW
  split
  · show 5 + ((quoteB (strOfNums vl)).size + 0) ≤ _
    omega
  exact Nat.zero_le _
 have s5 : szs (headW ps) ≤ 30 := by
  unfold headW
  split
  · show 5 + ((itoaB (ps.length : Int)).size + 0) ≤ _
    omega
  exact Nat.zero_le _
 have s6 : szs (moreW mo) ≤ 5 := by unfold moreW; split <;> decide
 have s7 : szs (stampW st) ≤ 30 := by
  unfold stampW
  split
  · exact Nat.zero_le _
  show 5 + ((itoaB st).size + 0) ≤ _
  omega
 have hsp : spB.size = 1 := rfl
 rw [e0, e1, hsp, Nat.mul_one] at hj
 omega
theorem tells_of (a b c d e : Int) (fd : Bool) (vl : List Int) (ps : List S62) (mo : Bool) (st : Int) (h : InK .i64 a ∧ InK .i64 b ∧ InK .i64 c ∧ InK .i64 d ∧ InK .i64 e ∧ InK .i64 st) (hN : vl.length + (ps.map wt62).sum ≤ 1048576) :
 ∃ k, cloisterlaw26_ScriptTells.f k a b c d e fd vl ps mo st = some true := by
 have p2 := len_le_wt ps
 refine tells_f a b c d e fd vl ps mo st h (17 + 2 * ps.length) (show 17 + 2 * ps.length < 8796093022208 by omega) (Nat.le_refl _) (by omega) (by rw [strNums_size]; omega) (fun p hp => ?_) ?_
 · have h1 := mem_le wt62 ps p hp
   have h2 : wt62 p = p.f0.size + 1 + (p.f1.length + 1) := by unfold wt62; rw [sum_ones]
   rw [strNums_size]
   omega
 have := tell_size a b c d e fd vl ps mo st h ⟨by omega, by omega⟩ 1048576 hN
 omega
theorem laidOut : laidOutB Tryz.prog = true := by kernel_rfl
abbrev args0 : Array Value := #[.agg #[.int .i64 0, .int .i64 0, .int .i64 0, .int .i64 0, .int .i64 0, .bool false, .slice none 0 0, .slice none 0 0, .bool false, .int .i64 0]]
theorem contract (H : Type) (enc : TypeId × Value → H) (W : World) (base : Nat) (args : Array Value) (ds gs : List (DataW H)) (before : List MemPlace)
 (hval : ∀ (j : Nat) t v, Tryz.f4.params[j]? = some t → args[j]? = some v → Value.okWide Tryz.prog W .any base t v)
 (hW : DataW.Whole enc Tryz.prog Tryz.f4.params.toList Rows.scriptTellsSpec.vars false W args.toList ds gs before)
 (hk : Rows.uptoSmall H (ds ++ gs) = true) (hL : laidMetH Tryz.prog laidL W) (hsh : W.ShapedOpen Tryz.prog) :
 Calls Tryz.prog 4 args W fun e W' => ∃ v, e = .returned v ∧ Rows.scriptTellsSpec.post enc Tryz.prog Tryz.f4 false true false false W args v W' := by
 have hW' := hW
 obtain ⟨p, q, hA0, hV, rfl, hfz, hnd⟩ := hW
 have hA : DataW.TrodAll enc Tryz.prog W 0 (fun _ => true) true Tryz.f4.params.toList args.toList ds p := hA0
 rw [Tryz.params4] at hA hval
 obtain ⟨v0, vs0, d0, ds0, p0, q0, hargs, rfl, rfl, h0, r0⟩ := trodAll_cons hA
 obtain ⟨rfl, rfl, rfl⟩ := trodAll_nil r0
 obtain rfl : args = #[v0] := by cases args; simp_all
 obtain ⟨rfl, rfl⟩ := trodVars_none hV
 obtain ⟨cs, rfl, hcs⟩ := okWide_struct Tryz.underlying41 (hval 0 41 v0 rfl rfl)
 have k0 := h0
 have lt0 : ∀ x ∈ p0, x.block < W.heap.size := by obtain ⟨m, hm⟩ := k0; exact DataW.trod_lt m _ _ _ hm
 obtain ⟨fuel, hf⟩ := h0
 obtain ⟨a, b, c, d, e, fd, A6, c6, vl, A7, c7, ps, mo, st, hcl, hin, ⟨l6, r6⟩, ⟨l7, r7⟩, _, _, hb⟩ := open41 hf
 obtain rfl : cs = #[.int .i64 a, .int .i64 b, .int .i64 c, .int .i64 d, .int .i64 e, .bool fd, .slice A6 vl.length c6, .slice A7 ps.length c7, .bool mo, .int .i64 st] := by
  have : cs.toList = _ := hcl
  cases cs
  simpa using this
 have hN : vl.length + (ps.map wt62).sum ≤ 1048576 := by
  have h1 := of_decide_eq_true hk
  simp only [List.append_nil, Rows.uptoBulkAll] at h1
  rw [sum_ones] at hb
  have h2 : (ps.map fun p => p.f0.size + 1 + ((p.f1.map fun _ => 1).sum + 1)).sum = (ps.map wt62).sum := rfl
  rw [h2] at hb
  have h3 : (d0, p0).1 = d0 := rfl
  rw [h3] at hb
  omega
 rw [Go.MakeChecks.laidMetH_plain _ _ _ (by kernel_rfl)] at hL
 obtain ⟨k, hfk⟩ := tells_of a b c d e fd vl ps mo st hin hN
 refine (cloisterlaw26_ScriptTells.calls k a b c d e fd A6 c6 vl A7 c7 ps mo st true W r6 l6 r7 l7 (env_of hL hsh) hfk).mono fun e W' ⟨he, bel⟩ => ?_
 subst he
 exact ⟨_, rfl, _, _, _, [], _, [], hW', trodAll_mk1 (shut_bool Tryz.underlying4 _), (trodAll_cons_mk (Below.trod laidOut (by kernel_rfl) (of_decide_eq_true (by kernel_rfl)) k0 bel lt0) trodAll_mk0), rfl, bel.frame _, fun h => by cases h⟩
theorem reads (os : Os) {H : Type} (enc : TypeId × Value → H) : ∃ places, DataW.whole enc Tryz.prog ((laidWorld os).forCall (fun _ _ => 0) ⟨#[], args0, []⟩).memory Tryz.f4.params.toList Rows.scriptTellsSpec.vars false args0.toList 8 = some ([.agg [.lit (.int .i64 0), .lit (.int .i64 0), .lit (.int .i64 0), .agg [.lit (.int .i64 0), .lit (.int .i64 0)], .lit (.bool false), .nil, .nil, .lit (.bool false), .lit (.int .i64 0)]], [], places) :=
 ⟨[], by kernel_rfl⟩
theorem liftedUpto (os : Os) (started : os.Started) (H : Type) (enc : TypeId × Value → H) (F : Stop.Interp) :
 ReturnsInHanded {} Tryz.checked os 4 .any ((Rows.OpenSpec.upto Rows.scriptTellsSpec).preRow enc Tryz.prog Tryz.f4 Rows.scriptTellsUptoRow.domain false Rows.scriptTellsUptoRow.laid) (((Rows.OpenSpec.upto Rows.scriptTellsSpec).at F).post enc Tryz.prog Tryz.f4 false true false false) := by
 obtain ⟨places, hx⟩ := reads os enc
 refine returnsInHanded_of_row (C := Tryz.checked) (s := Rows.OpenSpec.upto Rows.scriptTellsSpec) own started (by kernel_rfl) Tryz.func4
  (witness_row_atRef (enc := enc) (C := Tryz.checked) false (laidWorld os) args0 rfl (by kernel_rfl) (by kernel_rfl) (by kernel_rfl)
   (OpenSpec.preRow_of_cond 8 hx (by kernel_rfl) (fun k hk => by cases hk; kernel_rfl) (by kernel_rfl) (laidWorld_metH os _))) ?_
 intro W base args ds gs before hval hW _ hcnd _ hL hsh _
 exact contract H enc W base args ds gs before hval hW (hcnd _ rfl) hL hsh
theorem saidUpto : Rows.ScriptTellsUptoSaid :=
 OpenClaim.holds_of_cond 4 Tryz.f4 rfl rfl rfl rfl rfl rfl rfl ⟨rfl, rfl, rfl, rfl, rfl⟩ rfl rfl rfl rfl rfl (by kernel_rfl) Tryz.func4 (by kernel_rfl)
  (of_decide_eq_true (by kernel_rfl)) (by unfold Func.isWrapper; first | (rw [if_pos (by decide +kernel)]; kernel_rfl) | (rw [if_neg (by decide +kernel)]; exact ⟨rfl, rfl⟩))
  (fun os started H enc _ F => by rw [OpenClaim.pre_eq_preRow]; exact liftedUpto os started H enc F)
theorem plain (f : FuncId) (fn : Func) (hf : Tryz.pinned.checked.prog.funcNamed "cloister/cloisterlaw26.ScriptTells" = some f) (hfn : Tryz.pinned.checked.prog.funcs[f]? = some fn) :
 true = Tryz.pinned.checked.prog.looks [] ∧ ∀ (j : Nat) t, fn.params[j]? = some t → Tryz.pinned.checked.prog.wantsStandIn t = false := by
 obtain rfl : f = 4 := Option.some.inj ((show Tryz.prog.funcNamed "cloister/cloisterlaw26.ScriptTells" = some 4 by kernel_rfl).symm.trans hf) |>.symm
 obtain rfl : fn = Tryz.f4 := (Option.some.inj (Tryz.func4.symm.trans hfn)).symm
 refine ⟨by kernel_rfl, fun j t ht => ?_⟩
 rw [Tryz.params4] at ht
 obtain rfl : t = 41 := by simpa using Array.mem_of_getElem? ht
 exact (show Tryz.prog.wantsStandIn 41 = false by kernel_rfl)
theorem cardUpto : Rows.ScriptTellsUptoCardSaid :=
 Claim7.holds_tied_plain_at .later [] _ _ _ _ saidUpto (fun _ h => by cases h) (by kernel_rfl) (fun _ h => by cases h) scriptTellsUpto_row_tie rfl ⟨rfl, rfl⟩ (by kernel_rfl) rfl plain (by kernel_rfl)
end Go.Proofs.YtndbbgihpoiojaaGreatDoor.scriptTells
