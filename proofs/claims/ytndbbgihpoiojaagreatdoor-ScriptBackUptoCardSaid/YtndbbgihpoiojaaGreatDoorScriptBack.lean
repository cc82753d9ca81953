/- Script: the law ScriptBack: its second form's card. Called with a config and events: true; they read as they did (where what it reads is of bulk at most 1048576). -/
import Derived.Test.YtndbbgihpoiojaaGreatDoorScriptBack4
set_option linter.unusedVariables false
set_option linter.unusedSimpArgs false
set_option maxRecDepth 100000
set_option maxHeartbeats 8000000
namespace Go.Proofs.YtndbbgihpoiojaaGreatDoor.Q
open Go.RowKit Go.Proofs.YtndbbgihpoiojaaGreatDoorW.PrintWords Go.Proofs.YtndbbgihpoiojaaGreatDoorW.PrintLast Go.Proofs.YtndbbgihpoiojaaGreatDoorW.PrintMore
attribute [local go_sem] max2_int min2_int max_two min_two max_three min_three max_four min_four   -- for this text's walks alone
def tell_T1 : Bool × List (List Nat × List Nat) := (true, [([], []), ([0], [0]), ([1], [1]), ([], []), ([3], [3]), ([4, 2], [4]), ([], []), ([6], [6]), ([7, 5], [7]), ([2, 5, 8], [2, 5, 8]), ([9, 8, 0, 1, 2, 3, 4, 5, 6, 7, 8, 9], [9])])
def tell_B1 : List Nat := [0, 1, 3, 0, 8, 31, 0, 64, 255, 511, 1023]
theorem tell_tab1 : rtab .any (opsOf Tryz.f18 1) = tell_T1 := by kernel_rfl
theorem tell_bits1 : waitsOk tell_T1.2 tell_B1 = true := by kernel_rfl
theorem tell_fx (w : World) (hE : sc.Env w) :
 Calls Tryz.prog 18 #[.agg #[.int .i64 3, .int .i64 0, .int .i64 0, .int .i64 0, .int .i64 0, .bool false, .slice none 0 0, .slice none 0 0, .bool true, .int .i64 0]] w fun e w' => e = .returned (.string ⟨#[115, 108, 111, 116, 32, 51, 32, 115, 101, 115, 115, 105, 111, 110, 32, 48, 32, 99, 111, 100, 101, 32, 48, 32, 109, 111, 114, 101]⟩) ∧ Below w.heap.size w w' := by
 have hu41 := Tryz.underlying41
 have hu37 := Tryz.underlying37
 have hu62 := Tryz.underlying62
 have HE := am_ hE
 clear hE
 have HB := am_ (Below.refl w.heap.size w)
 have A2 := am_ (show script_number.f 3 = some ⟨#[51]⟩ by kernel_rfl)
 have A3 := am_ (show script_number.f 0 = some ⟨#[48]⟩ by kernel_rfl)
 have A4 := am_ (show script_number.f 0 = some ⟨#[48]⟩ by kernel_rfl)
 obtain ⟨y148, hy148⟩ : ∃ y_ : List ByteArray, y_ = (([(⟨#[115, 108, 111, 116]⟩ : ByteArray), (⟨#[51]⟩ : ByteArray), (⟨#[115, 101, 115, 115, 105, 111, 110]⟩ : ByteArray), (⟨#[48]⟩ : ByteArray), (⟨#[99, 111, 100, 101]⟩ : ByteArray), (⟨#[48]⟩ : ByteArray)] : List ByteArray)) := ⟨_, rfl⟩
 have Ny148 := am_ hy148
 clear hy148
 go_enter Tryz.func18, Tryz.ntmps18
 try go_wp2_with (first | ((with_reducible refine gate_dst (N := 1) rfl ?_); refine box_event ?hg (N := 1) ?hd (cs := #[.int .i64 3, .int .i64 0, .int .i64 0, .int .i64 0, .int .i64 0, .bool false, .slice none 0 0, .slice none 0 0, .bool true, .int .i64 0]) (t := 41) ?hr ?_; (case hd => rfl); (case hg => rfl); (case hr => first | (go_simp; done) | (go_simp; rfl)); intro gb144 hg w6 hbox hb; have BK144 := am_ (hbox); have GW144 := am_ ((by rw [hg]; exact (below_size (by repeat (first | (with_reducible first | exact HB.out | apply b1_ | apply b2_ | apply b3_) | exact HB.out))) : w.heap.size ≤ gb144)); have GE144 := am_ ((by rw [hg]; exact (below_size (by repeat (first | (with_reducible first | exact HB.out | apply b1_ | apply b2_ | apply b3_) | exact HB.out))) : w.heap.size ≤ gb144)); replace HB := am_ (below_step (by repeat (first | (with_reducible first | exact HB.out | apply b1_ | apply b2_ | apply b3_) | exact HB.out)) hb); clear hb hbox hg))
 replace BK144 := am_ (d2_ BK144.out)
 replace HB := am_ (b3_ HB.out)
 refine start_ (n := 11) (S := fun w' => w'.cell? ⟨gb144, 0, none⟩ = some (.int .i64 3) ∧ w'.cell? ⟨gb144, 1, none⟩ = some (.int .i64 0) ∧ w'.cell? ⟨gb144, 2, none⟩ = some (.int .i64 0) ∧ w'.cell? ⟨gb144, 3, none⟩ = some (.int .i64 0) ∧ w'.cell? ⟨gb144, 4, none⟩ = some (.int .i64 0) ∧ w'.cell? ⟨gb144, 5, none⟩ = some (.bool false) ∧ w'.cell? ⟨gb144, 6, none⟩ = some (.slice none 0 0) ∧ w'.cell? ⟨gb144, 7, none⟩ = some (.slice none 0 0) ∧ w'.cell? ⟨gb144, 8, none⟩ = some (.bool true) ∧ w'.cell? ⟨gb144, 9, none⟩ = some (.int .i64 0)) (ds := []) #[false, false, false, false, false, false, false, false, false, false, false] (by kernel_rfl) rfl rfl (c10_ BK144.out) (fun hHeld => ?_); refine with_tabW tell_tab1 tell_bits1 (fun HT_ HW_ => ?_)
 generalize w6.drew = w7 at BK144 HB hHeld ⊢
 refine pu_ 0 6 (bs_ 11 1) rfl rfl (any_of HT_.out (by kernel_rfl)) rfl (by intro w'; go_simp; with_reducible rfl) (by simp only [Act.put, aS, aZ, aC, i64_w, i32_w]; rfl) (fun _ _ _ h => h) ?_
 refine pu_ 3 9 (bs_ 11 9) rfl rfl (any_of HT_.out (by kernel_rfl)) rfl (by intro w'; go_simp; with_reducible rfl) (by simp only [Act.put, aS, aZ, aC, i64_w, i32_w]; rfl) (fun _ _ _ h => h) ?_
 refine pu_ 6 12 (bs_ 11 73) rfl rfl (any_of HT_.out (by kernel_rfl)) rfl (by intro w'; go_simp; with_reducible rfl) (by simp only [Act.put, aS, aZ, aC, i64_w, i32_w]; rfl) (fun _ _ _ h => h) ?_
 refine ta_ 1 7 (bs_ 11 75) rfl rfl (take_ofW HT_.out HW_.out (by kernel_rfl)) rfl (by rintro w' ⟨s0, s1, s2, s3, s4, s5, s6, s7, s8, s9⟩; go_simp; with_reducible rfl) hHeld (by simp only [Act.put, aS, aZ, aC, i64_w, i32_w]; rfl) (fun _ _ _ h => h) ?_
 refine ta_ 4 10 (bs_ 11 91) rfl rfl (take_ofW HT_.out HW_.out (by kernel_rfl)) rfl (by rintro w' ⟨s0, s1, s2, s3, s4, s5, s6, s7, s8, s9⟩; go_simp; with_reducible rfl) hHeld (by simp only [Act.put, aS, aZ, aC, i64_w, i32_w]; rfl) (fun _ _ _ h => h) ?_
 refine ta_ 7 13 (bs_ 11 219) rfl rfl (take_ofW HT_.out HW_.out (by kernel_rfl)) rfl (by rintro w' ⟨s0, s1, s2, s3, s4, s5, s6, s7, s8, s9⟩; go_simp; with_reducible rfl) hHeld (by simp only [Act.put, aS, aZ, aC, i64_w, i32_w]; rfl) (fun _ _ _ h => h) ?_
 refine one_ (i := 2) (N := some 8) (bs_ 11 223) rfl rfl (one_of HT_.out (by kernel_rfl)) (by decide) (fun K hK => ?_)
 refine goes_ Tryz.func33 (by kernel_rfl) rfl #[.int .i64 3] (by rfl) rfl rfl (by (try simp only [aT, aK, aL]); first | done | rfl | (simp only [List.length_drop, List.length_take]; rfl)) ?_
 with_reducible refine (script_number.calls 3 (⟨#[51]⟩ : ByteArray) _ ?side1 A2.out).mono ?_
 (case side1 => exact sc.Env.below HE.out (by repeat (first | (with_reducible first | exact HB.out | apply b1_ | apply b2_ | apply b3_ | refine b4_ ?_ GE144.out) | exact HB.out)))
 rintro e w8 ⟨rfl, hb⟩
 refine ⟨_, rfl, ?_⟩
 replace BK144 := am_ (blk_below (by (with_reducible repeat (first | refine d1_ ?_ _ | refine d2_ ?_ | refine d3_ ?_ _)); exact BK144.out) hb)
 replace HB := am_ (below_step (by repeat (first | (with_reducible first | exact HB.out | apply b1_ | apply b2_ | apply b3_ | refine b4_ ?_ GE144.out) | exact HB.out)) hb)
 (try clear hb)
 (try clear hk)
 refine hK.out _ _ (c10_ BK144.out) (fun hHeld => ?_)
 clear hK K
 refine no_ (by simp only [Act.put, aS, aZ, aC, i64_w, i32_w]; rfl) ?_
 refine one_ (i := 5) (N := some 11) (bs_ 11 255) rfl rfl (one_of HT_.out (by kernel_rfl)) (by decide) (fun K hK => ?_)
 refine goes_ Tryz.func33 (by kernel_rfl) rfl #[.int .i64 0] (by rfl) rfl rfl (by (try simp only [aT, aK, aL]); first | done | rfl | (simp only [List.length_drop, List.length_take]; rfl)) ?_
 with_reducible refine (script_number.calls 0 (⟨#[48]⟩ : ByteArray) _ ?side1 A3.out).mono ?_
 (case side1 => exact sc.Env.below HE.out (by repeat (first | (with_reducible first | exact HB.out | apply b1_ | apply b2_ | apply b3_ | refine b4_ ?_ GE144.out) | exact HB.out)))
 rintro e w9 ⟨rfl, hb⟩
 refine ⟨_, rfl, ?_⟩
 replace BK144 := am_ (blk_below (by (with_reducible repeat (first | refine d1_ ?_ _ | refine d2_ ?_ | refine d3_ ?_ _)); exact BK144.out) hb)
 replace HB := am_ (below_step (by repeat (first | (with_reducible first | exact HB.out | apply b1_ | apply b2_ | apply b3_ | refine b4_ ?_ GE144.out) | exact HB.out)) hb)
 (try clear hb)
 (try clear hk)
 refine hK.out _ _ (c10_ BK144.out) (fun hHeld => ?_)
 clear hK K
 refine no_ (by simp only [Act.put, aS, aZ, aC, i64_w, i32_w]; rfl) ?_
 refine one_ (i := 8) (N := some 14) (bs_ 11 511) rfl rfl (one_of HT_.out (by kernel_rfl)) (by decide) (fun K hK => ?_)
 refine goes_ Tryz.func33 (by kernel_rfl) rfl #[.int .i64 0] (by rfl) rfl rfl (by (try simp only [aT, aK, aL]); first | done | rfl | (simp only [List.length_drop, List.length_take]; rfl)) ?_
 with_reducible refine (script_number.calls 0 (⟨#[48]⟩ : ByteArray) _ ?side1 A4.out).mono ?_
 (case side1 => exact sc.Env.below HE.out (by repeat (first | (with_reducible first | exact HB.out | apply b1_ | apply b2_ | apply b3_ | refine b4_ ?_ GE144.out) | exact HB.out)))
 rintro e w10 ⟨rfl, hb⟩
 refine ⟨_, rfl, ?_⟩
 replace BK144 := am_ (blk_below (by (with_reducible repeat (first | refine d1_ ?_ _ | refine d2_ ?_ | refine d3_ ?_ _)); exact BK144.out) hb)
 replace HB := am_ (below_step (by repeat (first | (with_reducible first | exact HB.out | apply b1_ | apply b2_ | apply b3_ | refine b4_ ?_ GE144.out) | exact HB.out)) hb)
 (try clear hb)
 (try clear hk)
 refine hK.out _ _ (c10_ BK144.out) (fun hHeld => ?_)
 clear hK K
 refine no_ (by simp only [Act.put, aS, aZ, aC, i64_w, i32_w]; rfl) ?_
 refine one_ (i := 9) (N := some 15) (bs_ 11 1023) rfl rfl (one_of HT_.out (by kernel_rfl)) (by decide) (fun K hK => ?_)
 refine Kd.R_lit_step Kd.string _ 9 ?hg (N := 15) ?hd (xs := ([(⟨#[115, 108, 111, 116]⟩ : ByteArray), (⟨#[51]⟩ : ByteArray), (⟨#[115, 101, 115, 115, 105, 111, 110]⟩ : ByteArray), (⟨#[48]⟩ : ByteArray), (⟨#[99, 111, 100, 101]⟩ : ByteArray), (⟨#[48]⟩ : ByteArray)] : List ByteArray)) (inner := [.string (⟨#[115, 108, 111, 116]⟩ : ByteArray), .string (⟨#[51]⟩ : ByteArray), .string (⟨#[115, 101, 115, 115, 105, 111, 110]⟩ : ByteArray), .string (⟨#[48]⟩ : ByteArray), .string (⟨#[99, 111, 100, 101]⟩ : ByteArray), .string (⟨#[48]⟩ : ByteArray)]) (ok := fun _ => True) (okp := fun _ => True) ?hr ?hp (fun _ hk => hk) trivial (Below.refl _ _) (Nat.le_refl _) (by simp) ?_; (case hd => rfl); (case hg => rfl); (case hr => first | (go_simp; done) | (go_simp; rfl)); (case hp => exact (Reps.one (show Kd.M Kd.string _ _ _ (⟨#[115, 108, 111, 116]⟩ : ByteArray) [.string (⟨#[115, 108, 111, 116]⟩ : ByteArray)] from rfl) (Reps.one (show Kd.M Kd.string _ _ _ (⟨#[51]⟩ : ByteArray) [.string (⟨#[51]⟩ : ByteArray)] from rfl) (Reps.one (show Kd.M Kd.string _ _ _ (⟨#[115, 101, 115, 115, 105, 111, 110]⟩ : ByteArray) [.string (⟨#[115, 101, 115, 115, 105, 111, 110]⟩ : ByteArray)] from rfl) (Reps.one (show Kd.M Kd.string _ _ _ (⟨#[48]⟩ : ByteArray) [.string (⟨#[48]⟩ : ByteArray)] from rfl) (Reps.one (show Kd.M Kd.string _ _ _ (⟨#[99, 111, 100, 101]⟩ : ByteArray) [.string (⟨#[99, 111, 100, 101]⟩ : ByteArray)] from rfl) (Reps.one (show Kd.M Kd.string _ _ _ (⟨#[48]⟩ : ByteArray) [.string (⟨#[48]⟩ : ByteArray)] from rfl) (Reps.none _ _))))))))
 intro v149 w11 ho12 hb hg_ hnew_
 clear hg_ hnew_
 (first | rw [← Ny148.out] at ho12 | (simp only [Int.reduceToNat] at ho12; rw [← Ny148.out] at ho12))
 have HO150 := am_ (Kd.R_lower ho12 (below_size (by repeat (first | (with_reducible first | exact HB.out | apply b1_ | apply b2_ | apply b3_ | refine b4_ ?_ GE144.out) | exact HB.out))))
 replace BK144 := am_ (blk_below (by (with_reducible repeat (first | refine d1_ ?_ _ | refine d2_ ?_ | refine d3_ ?_ _)); exact BK144.out) hb)
 replace HB := am_ (below_step (by repeat (first | (with_reducible first | exact HB.out | apply b1_ | apply b2_ | apply b3_ | refine b4_ ?_ GE144.out) | exact HB.out)) hb)
 clear hb ho12
 refine hK.out _ _ (c10_ BK144.out) (fun hHeld => ?_)
 clear hK K
 refine no_ (by simp only [Act.put, aS, aZ, aC, i64_w, i32_w]; rfl) ?_
 refine pu_ 10 3 (bs_ 11 2047) rfl rfl (any_of HT_.out (by kernel_rfl)) rfl (by intro w'; go_simp; with_reducible rfl) (by simp only [Act.put, aS, aZ, aC, i64_w, i32_w]; rfl) (fun _ _ _ h => h) ?_
 refine done_ (done_of HT_.out (by kernel_rfl)) ?_
 have hcz13_0 : w11.cell? ⟨gb144, 0, none⟩ = some (.int .i64 3) := (blk_cell BK144.out 0).trans rfl
 have hcz13_1 : w11.cell? ⟨gb144, 1, none⟩ = some (.int .i64 0) := (blk_cell BK144.out 1).trans rfl
 have hcz13_2 : w11.cell? ⟨gb144, 2, none⟩ = some (.int .i64 0) := (blk_cell BK144.out 2).trans rfl
 have hcz13_3 : w11.cell? ⟨gb144, 3, none⟩ = some (.int .i64 0) := (blk_cell BK144.out 3).trans rfl
 have hcz13_4 : w11.cell? ⟨gb144, 4, none⟩ = some (.int .i64 0) := (blk_cell BK144.out 4).trans rfl
 have hcz13_5 : w11.cell? ⟨gb144, 5, none⟩ = some (.bool false) := (blk_cell BK144.out 5).trans rfl
 have hcz13_6 : w11.cell? ⟨gb144, 6, none⟩ = some (.slice none 0 0) := (blk_cell BK144.out 6).trans rfl
 have hcz13_7 : w11.cell? ⟨gb144, 7, none⟩ = some (.slice none 0 0) := (blk_cell BK144.out 7).trans rfl
 have hcz13_8 : w11.cell? ⟨gb144, 8, none⟩ = some (.bool true) := (blk_cell BK144.out 8).trans rfl
 have hcz13_9 : w11.cell? ⟨gb144, 9, none⟩ = some (.int .i64 0) := (blk_cell BK144.out 9).trans rfl
 have hfz13_0 := blk_frozen BK144.out 0
 have hfz13_1 := blk_frozen BK144.out 1
 have hfz13_2 := blk_frozen BK144.out 2
 have hfz13_3 := blk_frozen BK144.out 3
 have hfz13_4 := blk_frozen BK144.out 4
 have hfz13_5 := blk_frozen BK144.out 5
 have hfz13_6 := blk_frozen BK144.out 6
 have hfz13_7 := blk_frozen BK144.out 7
 have hfz13_8 := blk_frozen BK144.out 8
 have hfz13_9 := blk_frozen BK144.out 9
 clear hHeld hfz13_0 hfz13_1 hfz13_2 hfz13_3 hfz13_4 hfz13_5 hfz13_6 hfz13_7 hfz13_8 hfz13_9
 have HL := am_ (show y148.length < 8796093022208 by rw [Ny148.out]; decide)
 go_wp2
 go_loop [3, 61] (fun u v => u = v149 ∧ v = .int .i64 0) (fun _ _ => 0)
 case atStart => exact ⟨rfl, rfl⟩
 case round =>
  obtain ⟨rfl, rfl⟩ := hrel
  go_wp2_with (first | ((with_reducible refine gate_builtin (b := .append) (xs := #[.tmp 78, .tmp 79]) rfl ?_); at_builtin; refine Kd.R_append Kd.string (w0 := w) w.heap.size rfl (.tmp 78) (.tmp 79) 71 9 (.string ⟨#[]⟩) 16 rfl Tryz.underlying71 info9 rfl (by decide) (by omega) _ y148 (⟨#[109, 111, 114, 101]⟩ : ByteArray) [.string (⟨#[109, 111, 114, 101]⟩ : ByteArray)] (fun _ => True) (fun _ => False) rfl rfl ?aP (fun _ hk => hk.elim) ?aF ?aO ?aB ?aS ?aL ?_; (case aP => exact rfl); (case aB => exact HB.out); (case aF => exact (fun _ _ => trivial)); (case aO => exact HO150.out); (case aS => exact (below_size HB.out)); (case aL => have := HL.out; omega); intro v160 w12 ho hb hg hat; have BK2 := am_ (blk_grown BK144.out hg (Kd.R_ne HO150.out BK144.out (by decide))); have HB2 := am_ hb; have HO2 := am_ ho; have hcz9 : w12.cell? ⟨gb144, 9, none⟩ = some (.int .i64 0) := (blk_cell BK2.out 9).trans rfl; clear ho hb hg hat))
  obtain ⟨A160, c160, rfl, hc, hC⟩ := Kd.R_reads HO2.out
  have HJ := am_ (strings_Join.calls A160 c160 (y148 ++ [⟨#[109, 111, 114, 101]⟩]) ⟨#[32]⟩ ⟨#[115, 108, 111, 116, 32, 51, 32, 115, 101, 115, 115, 105, 111, 110, 32, 48, 32, 99, 111, 100, 101, 32, 48, 32, 109, 111, 114, 101]⟩ w12 hC hc (by rw [Ny148.out]; kernel_rfl))
  clear hC hc HL
  go_wp2_with fail
  refine HJ.out.mono ?_
  rintro e w13 ⟨rfl, hb13⟩
  have HB3 := am_ (below_step HB2.out hb13)
  clear hb13
  go_wp2
  go_ret
  exact ⟨rfl, HB3.out⟩
end Go.Proofs.YtndbbgihpoiojaaGreatDoor.Q
namespace Go.Proofs.YtndbbgihpoiojaaGreatDoor.Q
open Go.RowKit Go.Proofs.YtndbbgihpoiojaaGreatDoorW.PrintWords Go.Proofs.YtndbbgihpoiojaaGreatDoorW.PrintLast
abbrev fx1 : ByteArray := ⟨#[108, 97, 98, 101, 108, 32, 49, 10, 115, 101, 115, 115, 105, 111, 110, 32, 48, 10, 97, 115, 107, 32, 48, 32, 112, 117, 116, 32, 49, 32, 50, 32, 48, 32, 34, 107, 34, 32, 34, 118, 37, 50, 48, 119, 34, 10, 116, 105, 99, 107, 32, 47, 32, 50, 44, 57, 57, 44, 48, 32, 47, 10]⟩
abbrev fx2 : ByteArray := ⟨#[105, 100, 108, 101, 10, 116, 111, 99, 107]⟩
abbrev fe1 : S52 := ⟨1, 0, ⟨4, ⟨1, 2⟩, 0, ⟨#[107]⟩, ⟨#[]⟩, [118, 32, 119], 0⟩, 0, []⟩
abbrev fe2 : S52 := ⟨2, 0, z49, 0, [[⟨2, 99, 0⟩], []]⟩
abbrev fe3 : S52 := ⟨5, 0, z49, 0, []⟩
theorem fx1_parse : parseS fx1 = ((0, 0), some ([1], [], [0], [fe1, fe2])) := by kernel_rfl
theorem fx2_parse : parseS fx2 = ((2, 260), none) := by kernel_rfl
theorem fx_print : printS ([1], [], [], [fe3]) = (⟨#[108, 97, 98, 101, 108, 32, 49, 10, 105, 100, 108, 101, 10]⟩, 0) := by kernel_rfl
theorem fx_quote : quoteB ⟨#[97, 32, 98]⟩ = ⟨#[34, 97, 37, 50, 48, 98, 34]⟩ := by kernel_rfl
theorem ev_cells {w : World} {base : Nat} {v : Value} {l3 : List S52} (h : EvR w base v l3) : ∃ g c, (v = .slice (some ⟨g, 0, none⟩) l3.length c ∨ (l3 = [] ∧ v = .slice none 0 0)) ∧
 ∀ (j : Nat) x, l3[j]? = some x → ∃ A8 c8 A11 c11, x.f2.f5.length ≤ c8 ∧ Kd.C (Kd.int .u8) w A8 x.f2.f5.length x.f2.f5 ∧ x.f4.length ≤ c11 ∧ (Kd.slice 66 k66).C w A11 x.f4.length x.f4 ∧
  ∀ i u, ([.int .i64 x.f0, .int .i64 x.f1, .int .i64 x.f2.f0, .int .i64 x.f2.f1.f0, .int .i64 x.f2.f1.f1, .int .i64 x.f2.f2, .string x.f2.f3, .string x.f2.f4, .slice A8 x.f2.f5.length c8, .int .i64 x.f2.f6, .int .i64 x.f3, .slice A11 x.f4.length c11] : List Value)[i]? = some u → w.cell? ⟨g, j * 12 + i, none⟩ = some u := by
 obtain ⟨o3, hr, hm, hb⟩ := h
 have hlen : o3.length = l3.length := by rw [← hm]; simp
 obtain ⟨A, c, rfl, hc, hC⟩ := Kd.R_reads hr
 obtain ⟨inner, hown⟩ := Kd.R_own hr
 rcases hown.2 with ⟨hv, hn⟩ | ⟨g, cap, cur, hv, _⟩
 · have h0 : l3 = [] := List.eq_nil_of_length_eq_zero (by omega)
   subst h0
   refine ⟨0, 0, .inr ⟨rfl, hv⟩, fun j x hx => by simp at hx⟩
 injection hv with e1 e2 e3
 subst e1 e3
 refine ⟨g, c, .inl (by rw [hlen]), fun j x hx => ?_⟩
 obtain ⟨p, hp, rfl⟩ : ∃ p, o3[j]? = some p ∧ p.1 = x := by
  rw [← hm, List.getElem?_map] at hx
  obtain ⟨p, hp, he⟩ := Option.map_eq_some_iff.1 hx
  exact ⟨p, hp, he⟩
 obtain ⟨b, o, cs, hA, hK, hcs⟩ := Cat_ hC hp (by decide)
 injection hA with hA
 injection hA with e4 e5
 subst e4 e5
 obtain ⟨A11, c11, rfl, h11, g11⟩ := k52o_open hK
 have hv := hb p (List.mem_of_getElem? hp)
 refine ⟨p.2.1, p.2.2, A11, c11, hv.1, Kd.F_now hv.2, h11, g11, fun i u hu => ?_⟩
 have := hcs i u hu
 rwa [Nat.zero_add] at this
theorem one_C {α : Type} {d : Kd α} {w : World} {b : Nat} {cs : Array Value} {t : TypeId} {fr : Nat × Nat} {x : α} (h : w.heap[b]? = some (.cells cs t fr)) (hK : d.K w x cs.toList) (hs : cs.size = d.sz) : d.C w (some ⟨b, 0, none⟩) 1 [x] := by
 refine ⟨rfl, by decide, fun _ => ⟨_, rfl, fun j p hj => ?_⟩⟩
 obtain ⟨rfl, rfl⟩ : j = 0 ∧ x = p := by
  cases j with
  | zero => exact ⟨rfl, by simpa using hj⟩
  | succ j => simp at hj
 refine ⟨cs.toList, by simpa using hs, hK, fun i u hu => ?_⟩
 rw [addPlainQ]
 exact wld.cell_of h (by simpa using hu)
theorem fx_ok : PrintOK ([1], [], [], [fe3]) where
 lab := fun x hx => by rw [List.mem_singleton.1 hx]; decide
 acc := fun x hx => by cases hx
 ses := fun x hx => by cases hx
 ev := fun x hx => by
  rw [List.mem_singleton.1 hx]
  refine ⟨⟨?_, ?_, ?_, ?_, ?_, ?_, by decide, by decide, by decide, fun l hl => by cases hl⟩, by decide, by decide⟩ <;> (unfold sc.InInt; decide)
 cnt := by decide
 sum := of_decide_eq_true (by kernel_rfl)
theorem fixed_calls (w : World) (hE : sc.Env w) : Calls Tryz.prog 17 #[] w fun e w' => e = .returned (.bool true) ∧ Below w.heap.size w w' := by
 have H1 := parse_calls fx1 w hE (by decide)
 rw [fx1_parse] at H1
 have HP1 := am_ H1
 have HE := am_ hE
 clear H1 hE
 go_enter Tryz.func17, Tryz.ntmps17
 go_wp2_with fail
 refine HP1.out.mono ?_
 rintro e w1 ⟨v0, v1, v2, v3, rfl, ⟨base, hbase, hr⟩, hb⟩
 obtain ⟨A0, c0, rfl⟩ := Kd.R_slice hr.r0
 obtain ⟨A1, c1, rfl⟩ := Kd.R_slice hr.r1
 obtain ⟨A2, c2, rfl⟩ := Kd.R_slice hr.r2
 obtain ⟨g, c, hv3, hcells⟩ := ev_cells hr.r3
 rcases hv3 with rfl | ⟨h, _⟩
 · obtain ⟨A8, c8, A11, c11, hc8, hval, hc11, hstr, hc⟩ := hcells 0 fe1 rfl
   obtain ⟨B8, d8, B11, d11, hd8, hval2, hd11, hstr2, hd⟩ := hcells 1 fe2 rfl
   have q8 := wld.cellA (show w1.cell? ⟨g, 8, none⟩ = some (.slice A8 3 c8) from hc 8 _ rfl) (.cells #[.slice A0 1 c0, .slice A1 0 c1, .slice A2 1 c2] 26)
   have q23 := wld.cellA (show w1.cell? ⟨g, 23, none⟩ = some (.slice B11 2 d11) from hd 11 _ rfl) (.cells #[.slice A0 1 c0, .slice A1 0 c1, .slice A2 1 c2] 26)
   have HB := am_ hb
   have HV := am_ hval
   clear hb hval hval2 hstr hstr2 hc hd hcells hr HP1 hbase hc8 hd8 hc11 hd11
   have hcv : Sem.run Tryz.prog (convert 38 9 (.slice A8 3 c8)) (w1.alloc (.cells #[.slice A0 1 c0, .slice A1 0 c1, .slice A2 1 c2] 26)) = .ok (.string ⟨#[118, 32, 119]⟩) (w1.alloc (.cells #[.slice A0 1 c0, .slice A1 0 c1, .slice A2 1 c2] 26)) := Kd.C_string (P := Tryz.prog) (A := A8) (c := c8) Tryz.underlying38 Tryz.underlying5 Tryz.underlying9 (Kd.C_below HV.out (b1_ (Below.refl w1.heap.size w1) (.cells #[.slice A0 1 c0, .slice A1 0 c1, .slice A2 1 c2] 26)))
   go_wp2_with fail
   have HB2 := am_ (b1_ HB.out (.cells #[.slice A0 1 c0, .slice A1 0 c1, .slice A2 1 c2] 26))
   clear q8 q23 hcv HV
   generalize w1.alloc _ = wa at HB2 ⊢
   have H2 := parse_calls fx2 wa (HE.out.below HB2.out) (by decide)
   rw [fx2_parse] at H2
   refine H2.mono ?_
   clear H2
   rintro e w2 ⟨u0, u1, u2, u3, rfl, _, hb2⟩
   replace HB2 := am_ (below_step HB2.out hb2)
   clear hb2
   have HB3 := am_ (b1_ (b1_ HB2.out (.cells #[.int .u64 1] 68)) (.cells #[.int .i64 5, .int .i64 0, .int .i64 0, .int .i64 0, .int .i64 0, .int .i64 0, .string ⟨#[]⟩, .string ⟨#[]⟩, .slice none 0 0, .int .i64 0, .int .i64 0, .slice none 0 0] 52))
   have hx1 : ((w2.alloc (.cells #[.int .u64 1] 68)).alloc (.cells #[.int .i64 5, .int .i64 0, .int .i64 0, .int .i64 0, .int .i64 0, .int .i64 0, .string ⟨#[]⟩, .string ⟨#[]⟩, .slice none 0 0, .int .i64 0, .int .i64 0, .slice none 0 0] 52)).heap[w2.heap.size]? = some (.cells #[.int .u64 1] 68) := (wld.alloc_other (by simp) _).trans (wld.alloc_same _ _)
   have hx2 : ((w2.alloc (.cells #[.int .u64 1] 68)).alloc (.cells #[.int .i64 5, .int .i64 0, .int .i64 0, .int .i64 0, .int .i64 0, .int .i64 0, .string ⟨#[]⟩, .string ⟨#[]⟩, .slice none 0 0, .int .i64 0, .int .i64 0, .slice none 0 0] 52)).heap[w2.heap.size + 1]? = some (.cells #[.int .i64 5, .int .i64 0, .int .i64 0, .int .i64 0, .int .i64 0, .int .i64 0, .string ⟨#[]⟩, .string ⟨#[]⟩, .slice none 0 0, .int .i64 0, .int .i64 0, .slice none 0 0] 52) := by
    have h := wld.alloc_same (w2.alloc (.cells #[.int .u64 1] 68)) (.cells #[.int .i64 5, .int .i64 0, .int .i64 0, .int .i64 0, .int .i64 0, .int .i64 0, .string ⟨#[]⟩, .string ⟨#[]⟩, .slice none 0 0, .int .i64 0, .int .i64 0, .slice none 0 0] 52)
    rw [World.size_alloc] at h
    exact h
   have HPR := print_calls (some ⟨w2.heap.size, 0, none⟩) 1 [1] none 0 [] none 0 [] (some ⟨w2.heap.size + 1, 0, none⟩) 1 [fe3] _ (HE.out.below HB3.out) (one_C hx1 rfl rfl) (nilC _ _) (nilC _ _) (one_C hx2 (k52_mk _ fe3 (A8 := none) (c8 := 0) (Nat.le_refl _) (nilC _ _) (A11 := none) (c11 := 0) (Nat.le_refl _) (nilC _ _)) rfl) fx_ok
   rw [fx_print] at HPR
   have HPR := am_ HPR
   clear hx1 hx2
   go_wp2_with fail
   refine HPR.out.mono ?_
   rintro e w3 ⟨rfl, hb3⟩
   have HB4 := am_ (below_step HB3.out hb3)
   have HQ := am_ (quoteB_c ⟨#[97, 32, 98]⟩ (by decide) w3 (HE.out.below HB4.out))
   rw [fx_quote] at HQ
   clear hb3
   go_wp2_with fail
   refine HQ.out.mono ?_
   rintro e w4 ⟨rfl, hb4⟩
   have HB5 := am_ (below_step HB4.out hb4)
   have HT := am_ (tell_fx w4 (HE.out.below HB5.out))
   clear hb4
   go_wp2_with fail
   refine HT.out.mono ?_
   rintro e w5 ⟨rfl, hb5⟩
   go_wp2_with fail
   go_ret
   exact ⟨rfl, below_step HB5.out hb5⟩
 cases h
theorem evs_C {w : World} {base : Nat} {v : Value} {l3 : List S52} (h : EvR w base v l3) : ∃ A c, v = .slice A l3.length c ∧ Kd.C k52 w A l3.length l3 := by
 obtain ⟨o3, hr, hm, hb⟩ := h
 have hlen : o3.length = l3.length := by rw [← hm]; simp
 obtain ⟨A, c, rfl, hc, hC⟩ := Kd.R_reads hr
 refine ⟨A, c, by rw [hlen], ?_⟩
 refine ⟨rfl, by rw [← hlen]; exact hC.2.1, fun h0 => ?_⟩
 obtain ⟨a, rfl, _⟩ := hC.2.2 (by omega)
 refine ⟨a, rfl, fun j p hj => ?_⟩
 obtain ⟨q, hq, rfl⟩ : ∃ q, o3[j]? = some q ∧ q.1 = p := by
  rw [← hm, List.getElem?_map] at hj
  obtain ⟨q, hq, he⟩ := Option.map_eq_some_iff.1 hj
  exact ⟨q, hq, he⟩
 obtain ⟨b, o, cs, hA, hK, hcs⟩ := Cat_ hC hq (by decide)
 injection hA with hA
 subst hA
 obtain ⟨A11, c11, rfl, h11, g11⟩ := k52o_open hK
 have hv := hb q (List.mem_of_getElem? hq)
 refine ⟨_, rfl, k52_mk _ q.1 hv.1 (Kd.F_now hv.2) h11 g11, fun i u hu => ?_⟩
 rw [addPlainQ]
 exact hcs i u hu
theorem rows_C {w : World} {base : Nat} {v0 v1 v2 v3 : Value} {s : Stt} (h : Rows4 w base v0 v1 v2 v3 s) : ∃ A0 c0 A1 c1 A2 c2 A3 c3, v0 = .slice A0 s.1.length c0 ∧ v1 = .slice A1 s.2.1.length c1 ∧ v2 = .slice A2 s.2.2.1.length c2 ∧ v3 = .slice A3 s.2.2.2.length c3 ∧
 Kd.C (Kd.int .u64) w A0 s.1.length s.1 ∧ Kd.C k70 w A1 s.2.1.length s.2.1 ∧ Kd.C (Kd.int .i64) w A2 s.2.2.1.length s.2.2.1 ∧ Kd.C k52 w A3 s.2.2.2.length s.2.2.2 := by
 obtain ⟨A0, c0, e0, _, h0⟩ := Kd.R_reads h.r0
 obtain ⟨A1, c1, e1, _, h1⟩ := Kd.R_reads h.r1
 obtain ⟨A2, c2, e2, _, h2⟩ := Kd.R_reads h.r2
 obtain ⟨A3, c3, e3, h3⟩ := evs_C h.r3
 exact ⟨A0, c0, A1, c1, A2, c2, A3, c3, e0, e1, e2, e3, h0, h1, h2, h3⟩
theorem rows_C4 {w : World} {base : Nat} {v0 v1 v2 v3 : Value} {l0 : List Int} {l1 : List S70} {l2 : List Int} {l3 : List S52} (h : Rows4 w base v0 v1 v2 v3 (l0, l1, l2, l3)) : ∃ A0 c0 A1 c1 A2 c2 A3 c3, v0 = .slice A0 l0.length c0 ∧ v1 = .slice A1 l1.length c1 ∧ v2 = .slice A2 l2.length c2 ∧ v3 = .slice A3 l3.length c3 ∧
 Kd.C (Kd.int .u64) w A0 l0.length l0 ∧ Kd.C k70 w A1 l1.length l1 ∧ Kd.C (Kd.int .i64) w A2 l2.length l2 ∧ Kd.C k52 w A3 l3.length l3 := rows_C h
def fw (ls : List (List S66)) : Nat := (ls.map fun l => 1 + l.length).sum
def wv (x : S52) : Nat := 1 + x.f2.f3.size + x.f2.f4.size + x.f2.f5.length + fw x.f4
def wvs (l : List S52) : Nat := (l.map wv).sum
theorem rd7_at (ls : List (List S66)) (j : Nat) (h : j < ls.length) : rd_L7 ls (j : Int) = ls[j] := by
 unfold rd_L7
 rw [Int.toNat_natCast, List.getD_eq_getElem?_getD, List.getElem?_eq_getElem h]
 rfl
theorem rd52_at (l : List S52) (j : Nat) (h : j < l.length) : rd_T52 l (j : Int) = l[j] := by
 unfold rd_T52
 rw [Int.toNat_natCast, List.getD_eq_getElem?_getD, List.getElem?_eq_getElem h]
 rfl
theorem w1_ {j : Nat} (h : j ≤ 268435456) : wrap64 ((j : Int) + 1) = ((j + 1 : Nat) : Int) := by rw [w64 (by omega) (by omega)]; omega
theorem ac_ {acc n : Nat} (h : acc + n ≤ 268435456) : wrap64 ((acc : Int) + wrap64 (1 + (n : Int))) = ((acc + (1 + n) : Nat) : Int) := by
 rw [w64 (x := 1 + (n : Int)) (by omega) (by omega), w64 (by omega) (by omega)]
 omega
theorem ad_ {acc a b c : Nat} (h : acc + a + b + c ≤ 268435456) : wrap64 ((acc : Int) + wrap64 (wrap64 (wrap64 (1 + (a : Int)) + (b : Int)) + (c : Int))) = ((acc + (1 + a + b + c) : Nat) : Int) := by
 rw [w64 (x := 1 + (a : Int)) (by omega) (by omega), w64 (x := 1 + (a : Int) + (b : Int)) (by omega) (by omega), w64 (x := 1 + (a : Int) + (b : Int) + (c : Int)) (by omega) (by omega), w64 (by omega) (by omega)]
 omega
theorem vast_l1 (x8 : List S52) (x9 x10 : Int) (ls : List (List S66)) (hlen : ls.length ≤ 268435456) : ∀ (q j acc : Nat), j + q = ls.length → acc + fw (ls.drop j) ≤ 268435456 →
 (∃ k, cloisterlaw26_vast.l0 k ((acc + fw (ls.drop j) : Nat) : Int) x8 x9 (wrap64 (x10 + 1)) = some false) → ∃ k, cloisterlaw26_vast.l1 k (acc : Int) x8 x9 x10 ls (ls.length : Int) (j : Int) = some false
 | 0, j, acc, hj, hb, ⟨k, hk⟩ => by
  rw [List.drop_eq_nil_of_le (by omega)] at hb hk
  have hb' : acc + 0 ≤ 268435456 := hb
  have hk' : cloisterlaw26_vast.l0 k (acc : Int) x8 x9 (wrap64 (x10 + 1)) = some false := hk
  exact ⟨k + 1, by rw [cloisterlaw26_vast.l1, if_neg (by omega), if_neg (by omega)]; exact hk'⟩
 | q + 1, j, acc, hj, hb, hk => by
  have hlt : j < ls.length := by omega
  have hr := rd7_at ls j hlt
  have e : fw (ls.drop j) = 1 + ls[j].length + fw (ls.drop (j + 1)) := by
   rw [List.drop_eq_getElem_cons hlt]
   unfold fw
   rw [List.map_cons, List.sum_cons]
  generalize ls[j] = s at *
  rw [e] at hb hk
  obtain ⟨f, hf⟩ : ∃ f, fw (ls.drop (j + 1)) = f := ⟨_, rfl⟩
  rw [hf] at hb hk
  have hlt' : (j : Int) < (ls.length : Int) := Int.ofNat_lt.2 hlt
  obtain ⟨n, hn⟩ : ∃ n, s.length = n := ⟨_, rfl⟩
  rw [hn] at hb hk
  obtain ⟨k, ih⟩ := vast_l1 x8 x9 x10 ls hlen q (j + 1) (acc + (1 + n)) (by omega) (by rw [hf]; omega) (by rw [hf, Nat.add_assoc]; exact hk)
  refine ⟨k + 1, ?_⟩
  rw [cloisterlaw26_vast.l1, if_pos hlt', if_pos (Int.natCast_nonneg j), if_pos hlt', hr, hn, ac_ (by omega), if_neg (by omega), w1_ (by omega)]
  exact ih
theorem vast_l0 (l : List S52) (hl : l.length ≤ 268435456) (hs : ∀ x ∈ l, x.f4.length ≤ 268435456) : ∀ (q i acc : Nat), i + q = l.length → acc + wvs (l.drop i) ≤ 268435456 → ∃ k, cloisterlaw26_vast.l0 k (acc : Int) l (l.length : Int) (i : Int) = some false
 | 0, i, acc, hi, hb => ⟨1, by rw [cloisterlaw26_vast.l0, if_neg (by omega)]⟩
 | q + 1, i, acc, hi, hb => by
  have hlt : i < l.length := by omega
  have hr := rd52_at l i hlt
  have e : wvs (l.drop i) = wv l[i] + wvs (l.drop (i + 1)) := by
   rw [List.drop_eq_getElem_cons hlt]
   unfold wvs
   rw [List.map_cons, List.sum_cons]
  have hsx := hs l[i] (List.getElem_mem hlt)
  rw [e] at hb
  have ih := vast_l0 l hl hs q (i + 1) (acc + wv l[i]) (by omega) (by omega)
  generalize l[i] = x at *
  have hw : wv x = 1 + x.f2.f3.size + x.f2.f4.size + x.f2.f5.length + fw x.f4 := rfl
  have hlt' : (i : Int) < (l.length : Int) := Int.ofNat_lt.2 hlt
  obtain ⟨a, ha⟩ : ∃ a, x.f2.f3.size = a := ⟨_, rfl⟩
  obtain ⟨b, hb'⟩ : ∃ b, x.f2.f4.size = b := ⟨_, rfl⟩
  obtain ⟨c, hc⟩ : ∃ c, x.f2.f5.length = c := ⟨_, rfl⟩
  rw [ha, hb', hc] at hw
  obtain ⟨k, hk⟩ := vast_l1 l (l.length : Int) (i : Int) x.f4 hsx x.f4.length 0 (acc + (1 + a + b + c)) (by omega) (by rw [List.drop_zero]; omega) (by
   rw [List.drop_zero, w1_ (by omega)]
   obtain ⟨k, ih⟩ := ih
   refine ⟨k, ?_⟩
   rw [show acc + (1 + a + b + c) + fw x.f4 = acc + wv x by omega]
   exact ih)
  refine ⟨k + 1, ?_⟩
  rw [cloisterlaw26_vast.l0, if_pos hlt', if_pos (Int.natCast_nonneg i), if_pos hlt', hr, ha, hb', hc, ad_ (by omega)]
  exact hk
theorem len_fw (ls : List (List S66)) : ls.length ≤ fw ls := by
 induction ls with
 | nil => exact Nat.le_refl _
 | cons x l ih =>
  unfold fw at ih ⊢
  rw [List.map_cons, List.sum_cons, List.length_cons]
  omega
theorem mem_wvs {l : List S52} {x : S52} (h : x ∈ l) : wv x ≤ wvs l := by
 induction l with
 | nil => cases h
 | cons y l ih =>
  unfold wvs at ih ⊢
  rw [List.map_cons, List.sum_cons]
  rcases List.mem_cons.1 h with rfl | h
  · omega
  have := ih h; omega
theorem vast_small (l : List S52) (h : wvs l ≤ 268435456) : ∃ k, cloisterlaw26_vast.f k l = some false := by
 have h1 : l.length ≤ wvs l := by
  clear h
  induction l with
  | nil => exact Nat.le_refl _
  | cons x l ih =>
   unfold wvs at ih ⊢
   rw [List.map_cons, List.sum_cons, List.length_cons]
   have : 1 ≤ wv x := by unfold wv; omega
   omega
 obtain ⟨k, hk⟩ := vast_l0 l (by omega) (fun x hx => by have h2 := mem_wvs hx; have h3 := len_fw x.f4; unfold wv at h2; omega) l.length 0 0 (by omega) (by rw [List.drop_zero]; omega)
 exact ⟨k, hk⟩
end Go.Proofs.YtndbbgihpoiojaaGreatDoor.Q
namespace Go.Proofs.YtndbbgihpoiojaaGreatDoor.Q
open Go.RowKit Go.Proofs.YtndbbgihpoiojaaGreatDoorW.PrintWords Go.Proofs.YtndbbgihpoiojaaGreatDoorW.PrintLast Go.Proofs.YtndbbgihpoiojaaGreatDoorW.PrintMore
attribute [local go_sem] max2_int min2_int max_two min_two max_three min_three max_four min_four   -- for this text's walks alone
theorem eqA70 (d : Nat) (w : World) (x0 y0 : Int) (x1 y1 : Int) (x2 y2 : Int) (x3 y3 : Int) (x4 y4 : Int) :
 (Op.equalIn (d + 2) 70 (.agg #[.int .i64 x0, .int .i64 x1, .int .i64 x2, .int .i64 x3, .int .i64 x4]) (.agg #[.int .i64 y0, .int .i64 y1, .int .i64 y2, .int .i64 y3, .int .i64 y4])).run Tryz.prog w = .ok (x0 == y0 && (x1 == y1 && (x2 == y2 && (x3 == y3 && (x4 == y4))))) w := by
 refine eqA_of Tryz.underlying70 (by kernel_rfl) ?_
 refine eqf_cons (by rfl) (by go_simp; rfl) (by go_simp; rfl) (by go_simp) ?_
 refine eqf_cons (by rfl) (by go_simp; rfl) (by go_simp; rfl) (by go_simp) ?_
 refine eqf_cons (by rfl) (by go_simp; rfl) (by go_simp; rfl) (by go_simp) ?_
 refine eqf_cons (by rfl) (by go_simp; rfl) (by go_simp; rfl) (by go_simp) ?_
 exact eqf_last (by rfl) (by go_simp; rfl) (by go_simp; rfl) (by go_simp)
theorem eqA66 (d : Nat) (w : World) (x0 y0 : Int) (x1 y1 : Int) (x2 y2 : Int) :
 (Op.equalIn (d + 2) 66 (.agg #[.int .i64 x0, .int .i64 x1, .int .u8 x2]) (.agg #[.int .i64 y0, .int .i64 y1, .int .u8 y2])).run Tryz.prog w = .ok (x0 == y0 && (x1 == y1 && (x2 == y2))) w := by
 refine eqA_of Tryz.underlying66 (by kernel_rfl) ?_
 refine eqf_cons (by rfl) (by go_simp; rfl) (by go_simp; rfl) (by go_simp) ?_
 refine eqf_cons (by rfl) (by go_simp; rfl) (by go_simp; rfl) (by go_simp) ?_
 exact eqf_last (by rfl) (by go_simp; rfl) (by go_simp; rfl) (by go_simp)
attribute [local go_sem high] eqA70 eqA66
theorem eq26 (A0 : Option Addr) (c0 : Nat) (A1 : Option Addr) (c1 : Nat) (l : List Int) (w : World) (h0 : Kd.C (Kd.int .u8) w A0 l.length l) (h1 : Kd.C (Kd.int .u8) w A1 l.length l) :
 Calls Tryz.prog 26 #[.slice A0 l.length c0, .slice A1 l.length c1] w fun e w' => e = .returned (.bool true) ∧ Below w.heap.size w w' := by
 have hl := h0.2.1
 unfold maxLen at hl
 have H0 := am_ h0
 have H1 := am_ h1
 clear h0 h1
 go_enter Tryz.func26, Tryz.ntmps26
 go_wp2
 go_loopw [13] (fun v wr => ∃ k : Nat, k ≤ l.length ∧ v = .int .i64 k ∧ Drawn0 w wr) (fun v _ => l.length - (intOf v).toNat)
 case atStart => exact ⟨0, Nat.zero_le _, rfl, Drawn0.refl _⟩
 case round =>
  obtain ⟨k, hk, rfl, ⟨m, rfl⟩⟩ := hrel
  by_cases hlt : k < l.length
  · obtain ⟨ad0, e0, x0_0⟩ := Kd.at_int H0.out (k : Int) (Int.natCast_nonneg k) (by omega)
    obtain ⟨ad1, e1, x1_0⟩ := Kd.at_int H1.out (k : Int) (Int.natCast_nonneg k) (by omega)
    subst e0 e1
    rw [Int.toNat_natCast] at x0_0 x1_0
    go_wp2
    go_quiet (fail)
    go_wp2
    go_roundw
    case rel => exact ⟨k + 1, by omega, by go_num, by first | exact Drawn0.step (Drawn0.step (Drawn0.refl _) _) _ | exact Drawn0.step (Drawn0.refl _) _⟩
    case measure => simp [intOf]; omega
  go_wp2
  go_ret
  exact ⟨rfl, b2_ (Below.refl _ _) _⟩
theorem eq49 (A0 : Option Addr) (c0 : Nat) (A1 : Option Addr) (c1 : Nat) (l : List Int) (w : World) (h0 : Kd.C (Kd.int .u64) w A0 l.length l) (h1 : Kd.C (Kd.int .u64) w A1 l.length l) :
 Calls Tryz.prog 49 #[.slice A0 l.length c0, .slice A1 l.length c1] w fun e w' => e = .returned (.bool true) ∧ Below w.heap.size w w' := by
 have hl := h0.2.1
 unfold maxLen at hl
 have H0 := am_ h0
 have H1 := am_ h1
 clear h0 h1
 go_enter Tryz.func49, Tryz.ntmps49
 go_wp2
 go_loopw [13] (fun v wr => ∃ k : Nat, k ≤ l.length ∧ v = .int .i64 k ∧ Drawn0 w wr) (fun v _ => l.length - (intOf v).toNat)
 case atStart => exact ⟨0, Nat.zero_le _, rfl, Drawn0.refl _⟩
 case round =>
  obtain ⟨k, hk, rfl, ⟨m, rfl⟩⟩ := hrel
  by_cases hlt : k < l.length
  · obtain ⟨ad0, e0, x0_0⟩ := Kd.at_int H0.out (k : Int) (Int.natCast_nonneg k) (by omega)
    obtain ⟨ad1, e1, x1_0⟩ := Kd.at_int H1.out (k : Int) (Int.natCast_nonneg k) (by omega)
    subst e0 e1
    rw [Int.toNat_natCast] at x0_0 x1_0
    go_wp2
    go_quiet (fail)
    go_wp2
    go_roundw
    case rel => exact ⟨k + 1, by omega, by go_num, by first | exact Drawn0.step (Drawn0.step (Drawn0.refl _) _) _ | exact Drawn0.step (Drawn0.refl _) _⟩
    case measure => simp [intOf]; omega
  go_wp2
  go_ret
  exact ⟨rfl, b2_ (Below.refl _ _) _⟩
theorem eq50 (A0 : Option Addr) (c0 : Nat) (A1 : Option Addr) (c1 : Nat) (l : List S70) (w : World) (h0 : Kd.C k70 w A0 l.length l) (h1 : Kd.C k70 w A1 l.length l) :
 Calls Tryz.prog 50 #[.slice A0 l.length c0, .slice A1 l.length c1] w fun e w' => e = .returned (.bool true) ∧ Below w.heap.size w w' := by
 have hl := h0.2.1
 unfold maxLen at hl
 have H0 := am_ h0
 have H1 := am_ h1
 clear h0 h1
 go_enter Tryz.func50, Tryz.ntmps50
 go_wp2
 go_loopw [13] (fun v wr => ∃ k : Nat, k ≤ l.length ∧ v = .int .i64 k ∧ Drawn0 w wr) (fun v _ => l.length - (intOf v).toNat)
 case atStart => exact ⟨0, Nat.zero_le _, rfl, Drawn0.refl _⟩
 case round =>
  obtain ⟨k, hk, rfl, ⟨m, rfl⟩⟩ := hrel
  by_cases hlt : k < l.length
  · obtain ⟨ad0, e0, x0_0, x0_1, x0_2, x0_3, x0_4⟩ := at_T70 H0.out (k : Int) (Int.natCast_nonneg k) (by omega)
    obtain ⟨ad1, e1, x1_0, x1_1, x1_2, x1_3, x1_4⟩ := at_T70 H1.out (k : Int) (Int.natCast_nonneg k) (by omega)
    subst e0 e1
    rw [Int.toNat_natCast] at x0_0 x0_1 x0_2 x0_3 x0_4 x1_0 x1_1 x1_2 x1_3 x1_4
    go_wp2
    go_quiet (fail)
    go_wp2
    go_roundw
    case rel => exact ⟨k + 1, by omega, by go_num, by first | exact Drawn0.step (Drawn0.step (Drawn0.refl _) _) _ | exact Drawn0.step (Drawn0.refl _) _⟩
    case measure => simp [intOf]; omega
  go_wp2
  go_ret
  exact ⟨rfl, b2_ (Below.refl _ _) _⟩
theorem eq51 (A0 : Option Addr) (c0 : Nat) (A1 : Option Addr) (c1 : Nat) (l : List Int) (w : World) (h0 : Kd.C (Kd.int .i64) w A0 l.length l) (h1 : Kd.C (Kd.int .i64) w A1 l.length l) :
 Calls Tryz.prog 51 #[.slice A0 l.length c0, .slice A1 l.length c1] w fun e w' => e = .returned (.bool true) ∧ Below w.heap.size w w' := by
 have hl := h0.2.1
 unfold maxLen at hl
 have H0 := am_ h0
 have H1 := am_ h1
 clear h0 h1
 go_enter Tryz.func51, Tryz.ntmps51
 go_wp2
 go_loopw [13] (fun v wr => ∃ k : Nat, k ≤ l.length ∧ v = .int .i64 k ∧ Drawn0 w wr) (fun v _ => l.length - (intOf v).toNat)
 case atStart => exact ⟨0, Nat.zero_le _, rfl, Drawn0.refl _⟩
 case round =>
  obtain ⟨k, hk, rfl, ⟨m, rfl⟩⟩ := hrel
  by_cases hlt : k < l.length
  · obtain ⟨ad0, e0, x0_0⟩ := Kd.at_int H0.out (k : Int) (Int.natCast_nonneg k) (by omega)
    obtain ⟨ad1, e1, x1_0⟩ := Kd.at_int H1.out (k : Int) (Int.natCast_nonneg k) (by omega)
    subst e0 e1
    rw [Int.toNat_natCast] at x0_0 x1_0
    go_wp2
    go_quiet (fail)
    go_wp2
    go_roundw
    case rel => exact ⟨k + 1, by omega, by go_num, by first | exact Drawn0.step (Drawn0.step (Drawn0.refl _) _) _ | exact Drawn0.step (Drawn0.refl _) _⟩
    case measure => simp [intOf]; omega
  go_wp2
  go_ret
  exact ⟨rfl, b2_ (Below.refl _ _) _⟩
theorem eq53 (A0 : Option Addr) (c0 : Nat) (A1 : Option Addr) (c1 : Nat) (l : List S66) (w : World) (h0 : Kd.C k66 w A0 l.length l) (h1 : Kd.C k66 w A1 l.length l) :
 Calls Tryz.prog 53 #[.slice A0 l.length c0, .slice A1 l.length c1] w fun e w' => e = .returned (.bool true) ∧ Below w.heap.size w w' := by
 have hl := h0.2.1
 unfold maxLen at hl
 have H0 := am_ h0
 have H1 := am_ h1
 clear h0 h1
 go_enter Tryz.func53, Tryz.ntmps53
 go_wp2
 go_loopw [13] (fun v wr => ∃ k : Nat, k ≤ l.length ∧ v = .int .i64 k ∧ Drawn0 w wr) (fun v _ => l.length - (intOf v).toNat)
 case atStart => exact ⟨0, Nat.zero_le _, rfl, Drawn0.refl _⟩
 case round =>
  obtain ⟨k, hk, rfl, ⟨m, rfl⟩⟩ := hrel
  by_cases hlt : k < l.length
  · obtain ⟨ad0, e0, x0_0, x0_1, x0_2⟩ := at_T66 H0.out (k : Int) (Int.natCast_nonneg k) (by omega)
    obtain ⟨ad1, e1, x1_0, x1_1, x1_2⟩ := at_T66 H1.out (k : Int) (Int.natCast_nonneg k) (by omega)
    subst e0 e1
    rw [Int.toNat_natCast] at x0_0 x0_1 x0_2 x1_0 x1_1 x1_2
    go_wp2
    go_quiet (fail)
    go_wp2
    go_roundw
    case rel => exact ⟨k + 1, by omega, by go_num, by first | exact Drawn0.step (Drawn0.step (Drawn0.refl _) _) _ | exact Drawn0.step (Drawn0.refl _) _⟩
    case measure => simp [intOf]; omega
  go_wp2
  go_ret
  exact ⟨rfl, b2_ (Below.refl _ _) _⟩
end Go.Proofs.YtndbbgihpoiojaaGreatDoor.Q
namespace Go.Proofs.YtndbbgihpoiojaaGreatDoor.Q
open Go.RowKit Go.Proofs.YtndbbgihpoiojaaGreatDoorW.PrintWords Go.Proofs.YtndbbgihpoiojaaGreatDoorW.PrintLast Go.Proofs.YtndbbgihpoiojaaGreatDoorW.PrintMore
attribute [local go_sem high] eqA37
theorem cfg_same (A0 A1 A2 B0 B1 B2 : Option Addr) (c0 c1 c2 d0 d1 d2 : Nat) (l0 : List Int) (l1 : List S70) (l2 : List Int) (w : World)
 (h0 : Kd.C (Kd.int .u64) w A0 l0.length l0) (h1 : Kd.C k70 w A1 l1.length l1) (h2 : Kd.C (Kd.int .i64) w A2 l2.length l2)
 (g0 : Kd.C (Kd.int .u64) w B0 l0.length l0) (g1 : Kd.C k70 w B1 l1.length l1) (g2 : Kd.C (Kd.int .i64) w B2 l2.length l2) :
 Calls Tryz.prog 24 #[.agg #[.slice A0 l0.length c0, .slice A1 l1.length c1, .slice A2 l2.length c2], .agg #[.slice B0 l0.length d0, .slice B1 l1.length d1, .slice B2 l2.length d2]] w fun e w' => e = .returned (.bool true) ∧ Below w.heap.size w w' := by
 have H0 := am_ h0
 have H1 := am_ h1
 have H2 := am_ h2
 have G0 := am_ g0
 have G1 := am_ g1
 have G2 := am_ g2
 clear h0 h1 h2 g0 g1 g2
 obtain ⟨W, hW⟩ : ∃ W, (w.alloc (.cells #[.slice A0 l0.length c0, .slice A1 l1.length c1, .slice A2 l2.length c2] 26)).alloc (.cells #[.slice B0 l0.length d0, .slice B1 l1.length d1, .slice B2 l2.length d2] 26) = W := ⟨_, rfl⟩
 have HB := am_ (show Below w.heap.size w W by rw [← hW]; exact b1_ (b1_ (Below.refl _ _) _) _)
 have hx1 : W.heap[w.heap.size]? = some (.cells #[.slice A0 l0.length c0, .slice A1 l1.length c1, .slice A2 l2.length c2] 26) := by
  rw [← hW]; exact (wld.alloc_other (by simp) _).trans (wld.alloc_same _ _)
 have hx2 : W.heap[w.heap.size + 1]? = some (.cells #[.slice B0 l0.length d0, .slice B1 l1.length d1, .slice B2 l2.length d2] 26) := by
  rw [← hW]
  have h := wld.alloc_same (w.alloc (.cells #[.slice A0 l0.length c0, .slice A1 l1.length c1, .slice A2 l2.length c2] 26)) (.cells #[.slice B0 l0.length d0, .slice B1 l1.length d1, .slice B2 l2.length d2] 26)
  rw [World.size_alloc] at h
  exact h
 have X1 := am_ hx1
 have X2 := am_ hx2
 have HW := am_ hW
 clear hW hx1 hx2
 go_enter Tryz.func24, Tryz.ntmps24
 go_wp2_with fail
 rw [HW.out]
 refine (eq49 A0 c0 B0 d0 l0 W (Kd.C_below H0.out HB.out) (Kd.C_below G0.out HB.out)).mono ?_
 rintro e w1 ⟨rfl, hb1⟩
 have HB1 := am_ hb1
 have Y1 := am_ ((hb1.block _ (blk_lt X1.out)).trans X1.out)
 have Y2 := am_ ((hb1.block _ (blk_lt X2.out)).trans X2.out)
 have z1 := wld.cell_of (o := 1) (v := .slice A1 l1.length c1) Y1.out rfl
 have z2 := wld.cell_of (o := 1) (v := .slice B1 l1.length d1) Y2.out rfl
 clear hb1
 go_wp2_with fail
 refine (eq50 A1 c1 B1 d1 l1 w1 (Kd.C_below H1.out (below_step HB.out HB1.out)) (Kd.C_below G1.out (below_step HB.out HB1.out))).mono ?_
 rintro e w2 ⟨rfl, hb2⟩
 clear z1 z2
 have HB2 := am_ (below_step (below_step HB.out HB1.out) hb2)
 have z1 := wld.cell_of (o := 2) (v := .slice A2 l2.length c2) ((hb2.block _ (blk_lt Y1.out)).trans Y1.out) rfl
 have z2 := wld.cell_of (o := 2) (v := .slice B2 l2.length d2) ((hb2.block _ (blk_lt Y2.out)).trans Y2.out) rfl
 clear hb2
 go_wp2_with fail
 refine (eq51 A2 c2 B2 d2 l2 w2 (Kd.C_below H2.out HB2.out) (Kd.C_below G2.out HB2.out)).mono ?_
 rintro e w3 ⟨rfl, hb3⟩
 go_wp2_with fail
 go_ret
 exact ⟨rfl, below_step HB2.out hb3⟩
theorem req_same (A B : Option Addr) (c d : Nat) (k l m p lim : Int) (key to_ : ByteArray) (v : List Int) (w : World)
 (h : Kd.C (Kd.int .u8) w A v.length v) (g : Kd.C (Kd.int .u8) w B v.length v) :
 Calls Tryz.prog 52 #[.agg #[.int .i64 k, .int .i64 l, .int .i64 m, .int .i64 p, .string key, .string to_, .slice A v.length c, .int .i64 lim], .agg #[.int .i64 k, .int .i64 l, .int .i64 m, .int .i64 p, .string key, .string to_, .slice B v.length d, .int .i64 lim]] w fun e w' => e = .returned (.bool true) ∧ Below w.heap.size w w' := by
 have H0 := am_ h
 have G0 := am_ g
 clear h g
 obtain ⟨W, hW⟩ : ∃ W, (w.alloc (.cells #[.int .i64 k, .int .i64 l, .int .i64 m, .int .i64 p, .string key, .string to_, .slice A v.length c, .int .i64 lim] 49)).alloc (.cells #[.int .i64 k, .int .i64 l, .int .i64 m, .int .i64 p, .string key, .string to_, .slice B v.length d, .int .i64 lim] 49) = W := ⟨_, rfl⟩
 have HB := am_ (show Below w.heap.size w W by rw [← hW]; exact b1_ (b1_ (Below.refl _ _) _) _)
 have HW := am_ hW
 clear hW
 go_enter Tryz.func52, Tryz.ntmps52
 go_wp2_with fail
 rw [HW.out]
 refine (eq26 A c B d v W (Kd.C_below H0.out HB.out) (Kd.C_below G0.out HB.out)).mono ?_
 rintro e w1 ⟨rfl, hb1⟩
 go_wp2_with fail
 go_ret
 exact ⟨rfl, below_step HB.out hb1⟩
end Go.Proofs.YtndbbgihpoiojaaGreatDoor.Q
namespace Go.Proofs.YtndbbgihpoiojaaGreatDoor.Q
open Go.RowKit Go.Proofs.YtndbbgihpoiojaaGreatDoorW.PrintWords Go.Proofs.YtndbbgihpoiojaaGreatDoorW.PrintLast Go.Proofs.YtndbbgihpoiojaaGreatDoorW.PrintMore
abbrev evC (x : S52) (A8 : Option Addr) (c8 : Nat) (A11 : Option Addr) (c11 : Nat) : Array Value := #[.int .i64 x.f0, .int .i64 x.f1, .int .i64 x.f2.f0, .int .i64 x.f2.f1.f0, .int .i64 x.f2.f1.f1, .int .i64 x.f2.f2, .string x.f2.f3, .string x.f2.f4, .slice A8 x.f2.f5.length c8, .int .i64 x.f2.f6, .int .i64 x.f3, .slice A11 x.f4.length c11]
abbrev z52c : Array Value := #[.int .i64 0, .int .i64 0, .int .i64 0, .int .i64 0, .int .i64 0, .int .i64 0, .string ⟨#[]⟩, .string ⟨#[]⟩, .slice none 0 0, .int .i64 0, .int .i64 0, .slice none 0 0]
theorem sz52_ : (Tryz.prog.info? 52).map (·.size) = some 12 := by kernel_rfl
structure TT (W w' : World) (s : Nat × Nat) (cx cy : Array Value) : Prop where
 x : w'.heap[s.1]? = some (.cells cx 52 (0, 0))
 y : w'.heap[s.2]? = some (.cells cy 52 (0, 0))
 ne : s.1 ≠ s.2
 gx : W.heap.size ≤ s.1
 gy : W.heap.size ≤ s.2
 b : Below W.heap.size W w'
abbrev Two (W w' : World) (s : Nat × Nat) : Prop := TT W w' s z52c z52c
theorem two_new (W : World) : ((W.drew.alloc (.cells z52c 52)).alloc (.cells z52c 52)).heap[W.heap.size]? = some (.cells z52c 52 (0, 0)) ∧ ((W.drew.alloc (.cells z52c 52)).alloc (.cells z52c 52)).heap[W.heap.size + 1]? = some (.cells z52c 52 (0, 0)) := by
 constructor
 · exact (wld.alloc_other (w := W.drew.alloc (.cells z52c 52)) (by simp) _).trans (wld.alloc_same W.drew _)
 have h := wld.alloc_same (W.drew.alloc (.cells z52c 52)) (.cells z52c 52)
 rw [World.size_alloc] at h
 exact h
theorem two_a (W : World) : Two W ((W.drew.alloc (.cells z52c 52)).alloc (.cells z52c 52)) (W.heap.size, W.heap.size + 1) := ⟨(two_new W).1, (two_new W).2, by show W.heap.size ≠ W.heap.size + 1; omega, Nat.le_refl _, Nat.le_succ _, b1_ (b1_ (b3_ (Below.refl _ _)) _) _⟩
theorem two_b (W : World) : Two W ((W.drew.alloc (.cells z52c 52)).alloc (.cells z52c 52)) (W.heap.size + 1, W.heap.size) := ⟨(two_new W).2, (two_new W).1, by show W.heap.size + 1 ≠ W.heap.size; omega, Nat.le_succ _, Nat.le_refl _, b1_ (b1_ (b3_ (Below.refl _ _)) _) _⟩
theorem TT.old {W w' : World} {s : Nat × Nat} {cx cy : Array Value} (h : TT W w' s cx cy) {ad : Addr} {v : Value} (hc : W.cell? ad = some v) : w'.cell? ad = some v := (h.b.cell (World.block_lt_of_cell? W _ hc)).trans hc
theorem row_far (w : World) (g k : Nat) (cs : Array Value) (h : k ≠ g) : (w.setRow g cs).heap[k]? = w.heap[k]? := by
 unfold World.setRow
 simp [Array.getElem?_modify, Ne.symm h]
theorem row_at {w : World} {g : Nat} {cur : Array Value} {t : TypeId} (cs : Array Value) (h : w.heap[g]? = some (.cells cur t (0, 0))) : (w.setRow g cs).heap[g]? = some (.cells cs t (0, 0)) := by
 unfold World.setRow
 simp [Array.getElem?_modify, h]
theorem row_below {W w : World} (h : Below W.heap.size W w) {g : Nat} (hg : W.heap.size ≤ g) (cs : Array Value) : Below W.heap.size W (w.setRow g cs) :=
 ⟨h.os, h.tape, h.output, by unfold World.setRow; simpa using h.size, fun i hi => (row_far w g i cs (by omega)).trans (h.block i hi)⟩
theorem TT.sx {W w' : World} {s : Nat × Nat} {cx cy : Array Value} (h : TT W w' s cx cy) (c : Array Value) : TT W (w'.setRow s.1 c) s c cy :=
 ⟨row_at c h.x, (row_far _ _ _ _ h.ne.symm).trans h.y, h.ne, h.gx, h.gy, row_below h.b h.gx c⟩
theorem TT.sy {W w' : World} {s : Nat × Nat} {cx cy : Array Value} (h : TT W w' s cx cy) (c : Array Value) : TT W (w'.setRow s.2 c) s cx c :=
 ⟨(row_far _ _ _ _ h.ne).trans h.x, row_at c h.y, h.ne, h.gx, h.gy, row_below h.b h.gy c⟩
theorem cells52 {w : World} {g : Nat} {x : S52} {A8 A11 : Option Addr} {c8 c11 : Nat} (h : w.heap[g]? = some (.cells (evC x A8 c8 A11 c11) 52 (0, 0))) : w.cell? ⟨g, 0, none⟩ = some (.int .i64 x.f0) ∧ w.cell? ⟨g, 1, none⟩ = some (.int .i64 x.f1) ∧ w.cell? ⟨g, 2, none⟩ = some (.int .i64 x.f2.f0) ∧ w.cell? ⟨g, 3, none⟩ = some (.int .i64 x.f2.f1.f0) ∧ w.cell? ⟨g, 4, none⟩ = some (.int .i64 x.f2.f1.f1) ∧ w.cell? ⟨g, 5, none⟩ = some (.int .i64 x.f2.f2) ∧ w.cell? ⟨g, 6, none⟩ = some (.string x.f2.f3) ∧ w.cell? ⟨g, 7, none⟩ = some (.string x.f2.f4) ∧ w.cell? ⟨g, 8, none⟩ = some (.slice A8 x.f2.f5.length c8) ∧ w.cell? ⟨g, 9, none⟩ = some (.int .i64 x.f2.f6) ∧ w.cell? ⟨g, 10, none⟩ = some (.int .i64 x.f3) ∧ w.cell? ⟨g, 11, none⟩ = some (.slice A11 x.f4.length c11) :=
 (c12_ h)
theorem keep_ {W w : World} {ad : Addr} {v : Value} (h : Below W.heap.size W w) (hc : W.cell? ad = some v) : w.cell? ad = some v := (h.cell (World.block_lt_of_cell? W _ hc)).trans hc
theorem evs_same (A B : Option Addr) (c d : Nat) (l : List S52) (w : World) (h : Kd.C k52 w A l.length l) (g : Kd.C k52 w B l.length l) :
 Calls Tryz.prog 25 #[.slice A l.length c, .slice B l.length d] w fun e w' => e = .returned (.bool true) ∧ Below w.heap.size w w' := by
 have hl := h.2.1
 unfold maxLen at hl
 have H0 := am_ h
 have G0 := am_ g
 clear h g
 go_enter Tryz.func25, Tryz.ntmps25
 go_wp2
 go_loopw [16] (fun v wr => ∃ i : Nat, i ≤ l.length ∧ v = .int .i64 i ∧ Aside0 (Below w.heap.size w wr)) (fun v _ => l.length - (intOf v).toNat)
 case atStart => exact ⟨0, Nat.zero_le _, rfl, ⟨Below.refl _ _⟩⟩
 case round =>
  obtain ⟨i, hi, rfl, HB⟩ := hrel
  by_cases hlt : i < l.length
  · obtain ⟨ad0, A8, c8, A11, c11, e0, x0, x1, x2, x3, x4, x5, x6, x7, x8, x9, x10, x11, lx8, rx8, lx11, rx11⟩ := at_T52 (Kd.C_below H0.out HB.out) (i : Int) (Int.natCast_nonneg i) (by omega)
    obtain ⟨ad1, B8, d8, B11, d11, e1, y0, y1, y2, y3, y4, y5, y6, y7, y8, y9, y10, y11, ly8, ry8, ly11, ry11⟩ := at_T52 (Kd.C_below G0.out HB.out) (i : Int) (Int.natCast_nonneg i) (by omega)
    subst e0 e1
    rw [Int.toNat_natCast] at x0 x1 x2 x3 x4 x5 x6 x7 x8 x9 x10 x11 y0 y1 y2 y3 y4 y5 y6 y7 y8 y9 y10 y11
    generalize rd_T52 l (i : Int) = x at *
    have RX8 := am_ rx8
    have RY8 := am_ ry8
    have RX11 := am_ rx11
    have RY11 := am_ ry11
    have LX := am_ lx11
    have LY := am_ ly11
    clear rx8 ry8 rx11 ry11 lx11 ly11 lx8 ly8
    rename_i wr
    go_wp2_with fail
    refine start_ (n := 12) (S := fun w' => w'.cell? (ad0.add (i * 12)) = some (.int .i64 x.f0) ∧ w'.cell? ⟨(ad0.add (i * 12)).block, (ad0.add (i * 12)).off + 1, none⟩ = some (.int .i64 x.f1) ∧ w'.cell? ⟨(ad0.add (i * 12)).block, (ad0.add (i * 12)).off + 2, none⟩ = some (.int .i64 x.f2.f0) ∧ w'.cell? ⟨(ad0.add (i * 12)).block, (ad0.add (i * 12)).off + 3, none⟩ = some (.int .i64 x.f2.f1.f0) ∧ w'.cell? ⟨(ad0.add (i * 12)).block, (ad0.add (i * 12)).off + 4, none⟩ = some (.int .i64 x.f2.f1.f1) ∧ w'.cell? ⟨(ad0.add (i * 12)).block, (ad0.add (i * 12)).off + 5, none⟩ = some (.int .i64 x.f2.f2) ∧ w'.cell? ⟨(ad0.add (i * 12)).block, (ad0.add (i * 12)).off + 6, none⟩ = some (.string x.f2.f3) ∧ w'.cell? ⟨(ad0.add (i * 12)).block, (ad0.add (i * 12)).off + 7, none⟩ = some (.string x.f2.f4) ∧ w'.cell? ⟨(ad0.add (i * 12)).block, (ad0.add (i * 12)).off + 8, none⟩ = some (.slice A8 x.f2.f5.length c8) ∧ w'.cell? ⟨(ad0.add (i * 12)).block, (ad0.add (i * 12)).off + 9, none⟩ = some (.int .i64 x.f2.f6) ∧ w'.cell? ⟨(ad0.add (i * 12)).block, (ad0.add (i * 12)).off + 10, none⟩ = some (.int .i64 x.f3) ∧ w'.cell? ⟨(ad0.add (i * 12)).block, (ad0.add (i * 12)).off + 11, none⟩ = some (.slice A11 x.f4.length c11) ∧ w'.cell? (ad1.add (i * 12)) = some (.int .i64 x.f0) ∧ w'.cell? ⟨(ad1.add (i * 12)).block, (ad1.add (i * 12)).off + 1, none⟩ = some (.int .i64 x.f1) ∧ w'.cell? ⟨(ad1.add (i * 12)).block, (ad1.add (i * 12)).off + 2, none⟩ = some (.int .i64 x.f2.f0) ∧ w'.cell? ⟨(ad1.add (i * 12)).block, (ad1.add (i * 12)).off + 3, none⟩ = some (.int .i64 x.f2.f1.f0) ∧ w'.cell? ⟨(ad1.add (i * 12)).block, (ad1.add (i * 12)).off + 4, none⟩ = some (.int .i64 x.f2.f1.f1) ∧ w'.cell? ⟨(ad1.add (i * 12)).block, (ad1.add (i * 12)).off + 5, none⟩ = some (.int .i64 x.f2.f2) ∧ w'.cell? ⟨(ad1.add (i * 12)).block, (ad1.add (i * 12)).off + 6, none⟩ = some (.string x.f2.f3) ∧ w'.cell? ⟨(ad1.add (i * 12)).block, (ad1.add (i * 12)).off + 7, none⟩ = some (.string x.f2.f4) ∧ w'.cell? ⟨(ad1.add (i * 12)).block, (ad1.add (i * 12)).off + 8, none⟩ = some (.slice B8 x.f2.f5.length d8) ∧ w'.cell? ⟨(ad1.add (i * 12)).block, (ad1.add (i * 12)).off + 9, none⟩ = some (.int .i64 x.f2.f6) ∧ w'.cell? ⟨(ad1.add (i * 12)).block, (ad1.add (i * 12)).off + 10, none⟩ = some (.int .i64 x.f3) ∧ w'.cell? ⟨(ad1.add (i * 12)).block, (ad1.add (i * 12)).off + 11, none⟩ = some (.slice B11 x.f4.length d11)) (ds := []) #[false, false, false, false, false, false, false, false, false, false, false, false] (by kernel_rfl) rfl rfl ⟨x0, x1, x2, x3, x4, x5, x6, x7, x8, x9, x10, x11, y0, y1, y2, y3, y4, y5, y6, y7, y8, y9, y10, y11⟩ (fun hHeld => ?_)
    refine pu_ 0 19 (bs_ 12 1) rfl rfl (by kernel_rfl) rfl (by intro w'; go_simp; with_reducible rfl) (by simp only [Act.put, aS, aZ, aC, i64_w, i32_w]; rfl) (fun _ _ _ h => h) ?_
    refine pu_ 1 20 (bs_ 12 3) rfl rfl (by kernel_rfl) rfl (by intro w'; go_simp; with_reducible rfl) (by simp only [Act.put, aS, aZ, aC, i64_w, i32_w]; rfl) (fun _ _ _ h => h) ?_
    refine pu_ 2 21 (bs_ 12 7) rfl rfl (by kernel_rfl) rfl (by intro w'; go_simp; with_reducible rfl) (by simp only [Act.put, aS, aZ, aC, i64_w, i32_w]; rfl) (fun _ _ _ h => h) ?_
    refine pu_ 4 23 (bs_ 12 23) rfl rfl (by kernel_rfl) rfl (by intro w'; go_simp; with_reducible rfl) (by simp only [Act.put, aS, aZ, aC, i64_w, i32_w]; rfl) (fun _ _ _ h => h) ?_
    refine pu_ 5 24 (bs_ 12 55) rfl rfl (by kernel_rfl) rfl (by intro w'; go_simp; with_reducible rfl) (by simp only [Act.put, aS, aZ, aC, i64_w, i32_w]; rfl) (fun _ _ _ h => h) ?_
    refine pu_ 6 25 (bs_ 12 119) rfl rfl (by kernel_rfl) rfl (by intro w'; go_simp; with_reducible rfl) (by simp only [Act.put, aS, aZ, aC, i64_w, i32_w]; rfl) (fun _ _ _ h => h) ?_
    refine ta_ 3 22 (bs_ 12 127) rfl rfl (by kernel_rfl) rfl (by rintro w' ⟨s0, s1, s2, s3, s4, s5, s6, s7, s8, s9, s10, s11, s12, s13, s14, s15, s16, s17, s18, s19, s20, s21, s22, s23⟩; go_simp; with_reducible rfl) hHeld (by simp only [Act.put, aS, aZ, aC, i64_w, i32_w]; rfl) (fun _ _ _ h => h) ?_
    refine ta_ 7 26 (bs_ 12 255) rfl rfl (by kernel_rfl) rfl (by rintro w' ⟨s0, s1, s2, s3, s4, s5, s6, s7, s8, s9, s10, s11, s12, s13, s14, s15, s16, s17, s18, s19, s20, s21, s22, s23⟩; go_simp; with_reducible rfl) hHeld (by simp only [Act.put, aS, aZ, aC, i64_w, i32_w]; rfl) (fun _ _ _ h => h) ?_
    refine join_ (σ := Nat × Nat) 2 #[true, true, true, true, true, true, true, true, true, true, false, false] (fun s => [(6, .pointer (some ⟨s.1, 0, none⟩)), (7, .pointer (some ⟨s.2, 0, none⟩))]) (fun s w' => Two wr w' s) ?_ ?_
    rotate_left
    · intro hCont
      refine two_ (i := 8) (j := 9) (Ni := some 6) (Nj := some 7) #[true, true, true, true, true, true, true, true, true, false, false, false] #[true, true, true, true, true, true, true, true, false, true, false, false] rfl rfl rfl rfl (by kernel_rfl) (by decide) (by decide) (fun K hK => ?_) (fun K hK => ?_)
      · skip
        refine value_ (w1 := ?_) (v := ?_) (by rfl) rfl ?_ ?_
        rotate_left 2
        · go_simp
          constructor
          · rfl
          rfl
        refine hK.out _ _ ⟨wld.cellA x0 _, wld.cellA x1 _, wld.cellA x2 _, wld.cellA x3 _, wld.cellA x4 _, wld.cellA x5 _, wld.cellA x6 _, wld.cellA x7 _, wld.cellA x8 _, wld.cellA x9 _, wld.cellA x10 _, wld.cellA x11 _, wld.cellA y0 _, wld.cellA y1 _, wld.cellA y2 _, wld.cellA y3 _, wld.cellA y4 _, wld.cellA y5 _, wld.cellA y6 _, wld.cellA y7 _, wld.cellA y8 _, wld.cellA y9 _, wld.cellA y10 _, wld.cellA y11 _⟩ (fun hHeld => ?_)
        clear hK K
        refine no_ (by simp only [Act.put, aS, aZ, aC, i64_w, i32_w]; rfl) ?_
        refine one_ (i := 9) (N := some 7) (bs_ 12 1023) rfl rfl (by kernel_rfl) (by decide) (fun K hK => ?_)
        refine value_ (w1 := ?_) (v := ?_) (by rfl) rfl ?_ ?_
        rotate_left 2
        · go_simp
          constructor
          · rfl
          rfl
        refine hK.out _ _ ⟨wld.cellA (wld.cellA x0 _) _, wld.cellA (wld.cellA x1 _) _, wld.cellA (wld.cellA x2 _) _, wld.cellA (wld.cellA x3 _) _, wld.cellA (wld.cellA x4 _) _, wld.cellA (wld.cellA x5 _) _, wld.cellA (wld.cellA x6 _) _, wld.cellA (wld.cellA x7 _) _, wld.cellA (wld.cellA x8 _) _, wld.cellA (wld.cellA x9 _) _, wld.cellA (wld.cellA x10 _) _, wld.cellA (wld.cellA x11 _) _, wld.cellA (wld.cellA y0 _) _, wld.cellA (wld.cellA y1 _) _, wld.cellA (wld.cellA y2 _) _, wld.cellA (wld.cellA y3 _) _, wld.cellA (wld.cellA y4 _) _, wld.cellA (wld.cellA y5 _) _, wld.cellA (wld.cellA y6 _) _, wld.cellA (wld.cellA y7 _) _, wld.cellA (wld.cellA y8 _) _, wld.cellA (wld.cellA y9 _) _, wld.cellA (wld.cellA y10 _) _, wld.cellA (wld.cellA y11 _) _⟩ (fun hHeld => ?_)
        clear hK K
        refine no_ (by simp only [Act.put, aS, aZ, aC, i64_w, i32_w]; rfl) ?_
        exact norm_ (by simp only [putAll, Act.put, List.setIfInBounds_toArray, List.set_cons_zero, List.set_cons_succ]) (hCont (wr.heap.size, wr.heap.size + 1) _ (two_a wr))
      skip
      refine value_ (w1 := ?_) (v := ?_) (by rfl) rfl ?_ ?_
      rotate_left 2
      · go_simp
        constructor
        · rfl
        rfl
      refine hK.out _ _ ⟨wld.cellA x0 _, wld.cellA x1 _, wld.cellA x2 _, wld.cellA x3 _, wld.cellA x4 _, wld.cellA x5 _, wld.cellA x6 _, wld.cellA x7 _, wld.cellA x8 _, wld.cellA x9 _, wld.cellA x10 _, wld.cellA x11 _, wld.cellA y0 _, wld.cellA y1 _, wld.cellA y2 _, wld.cellA y3 _, wld.cellA y4 _, wld.cellA y5 _, wld.cellA y6 _, wld.cellA y7 _, wld.cellA y8 _, wld.cellA y9 _, wld.cellA y10 _, wld.cellA y11 _⟩ (fun hHeld => ?_)
      clear hK K
      refine no_ (by simp only [Act.put, aS, aZ, aC, i64_w, i32_w]; rfl) ?_
      refine one_ (i := 8) (N := some 6) (bs_ 12 1023) rfl rfl (by kernel_rfl) (by decide) (fun K hK => ?_)
      refine value_ (w1 := ?_) (v := ?_) (by rfl) rfl ?_ ?_
      rotate_left 2
      · go_simp
        constructor
        · rfl
        rfl
      refine hK.out _ _ ⟨wld.cellA (wld.cellA x0 _) _, wld.cellA (wld.cellA x1 _) _, wld.cellA (wld.cellA x2 _) _, wld.cellA (wld.cellA x3 _) _, wld.cellA (wld.cellA x4 _) _, wld.cellA (wld.cellA x5 _) _, wld.cellA (wld.cellA x6 _) _, wld.cellA (wld.cellA x7 _) _, wld.cellA (wld.cellA x8 _) _, wld.cellA (wld.cellA x9 _) _, wld.cellA (wld.cellA x10 _) _, wld.cellA (wld.cellA x11 _) _, wld.cellA (wld.cellA y0 _) _, wld.cellA (wld.cellA y1 _) _, wld.cellA (wld.cellA y2 _) _, wld.cellA (wld.cellA y3 _) _, wld.cellA (wld.cellA y4 _) _, wld.cellA (wld.cellA y5 _) _, wld.cellA (wld.cellA y6 _) _, wld.cellA (wld.cellA y7 _) _, wld.cellA (wld.cellA y8 _) _, wld.cellA (wld.cellA y9 _) _, wld.cellA (wld.cellA y10 _) _, wld.cellA (wld.cellA y11 _) _⟩ (fun hHeld => ?_)
      clear hK K
      refine no_ (by simp only [Act.put, aS, aZ, aC, i64_w, i32_w]; rfl) ?_
      exact norm_ (by simp only [putAll, Act.put, List.setIfInBounds_toArray, List.set_cons_zero, List.set_cons_succ]) (hCont (wr.heap.size + 1, wr.heap.size) _ (two_b wr))
    rintro ⟨gx, gy⟩ w3 hT
    have HT := am_ hT
    have hHeld : w3.cell? (ad0.add (i * 12)) = some (.int .i64 x.f0) ∧ w3.cell? ⟨(ad0.add (i * 12)).block, (ad0.add (i * 12)).off + 1, none⟩ = some (.int .i64 x.f1) ∧ w3.cell? ⟨(ad0.add (i * 12)).block, (ad0.add (i * 12)).off + 2, none⟩ = some (.int .i64 x.f2.f0) ∧ w3.cell? ⟨(ad0.add (i * 12)).block, (ad0.add (i * 12)).off + 3, none⟩ = some (.int .i64 x.f2.f1.f0) ∧ w3.cell? ⟨(ad0.add (i * 12)).block, (ad0.add (i * 12)).off + 4, none⟩ = some (.int .i64 x.f2.f1.f1) ∧ w3.cell? ⟨(ad0.add (i * 12)).block, (ad0.add (i * 12)).off + 5, none⟩ = some (.int .i64 x.f2.f2) ∧ w3.cell? ⟨(ad0.add (i * 12)).block, (ad0.add (i * 12)).off + 6, none⟩ = some (.string x.f2.f3) ∧ w3.cell? ⟨(ad0.add (i * 12)).block, (ad0.add (i * 12)).off + 7, none⟩ = some (.string x.f2.f4) ∧ w3.cell? ⟨(ad0.add (i * 12)).block, (ad0.add (i * 12)).off + 8, none⟩ = some (.slice A8 x.f2.f5.length c8) ∧ w3.cell? ⟨(ad0.add (i * 12)).block, (ad0.add (i * 12)).off + 9, none⟩ = some (.int .i64 x.f2.f6) ∧ w3.cell? ⟨(ad0.add (i * 12)).block, (ad0.add (i * 12)).off + 10, none⟩ = some (.int .i64 x.f3) ∧ w3.cell? ⟨(ad0.add (i * 12)).block, (ad0.add (i * 12)).off + 11, none⟩ = some (.slice A11 x.f4.length c11) ∧ w3.cell? (ad1.add (i * 12)) = some (.int .i64 x.f0) ∧ w3.cell? ⟨(ad1.add (i * 12)).block, (ad1.add (i * 12)).off + 1, none⟩ = some (.int .i64 x.f1) ∧ w3.cell? ⟨(ad1.add (i * 12)).block, (ad1.add (i * 12)).off + 2, none⟩ = some (.int .i64 x.f2.f0) ∧ w3.cell? ⟨(ad1.add (i * 12)).block, (ad1.add (i * 12)).off + 3, none⟩ = some (.int .i64 x.f2.f1.f0) ∧ w3.cell? ⟨(ad1.add (i * 12)).block, (ad1.add (i * 12)).off + 4, none⟩ = some (.int .i64 x.f2.f1.f1) ∧ w3.cell? ⟨(ad1.add (i * 12)).block, (ad1.add (i * 12)).off + 5, none⟩ = some (.int .i64 x.f2.f2) ∧ w3.cell? ⟨(ad1.add (i * 12)).block, (ad1.add (i * 12)).off + 6, none⟩ = some (.string x.f2.f3) ∧ w3.cell? ⟨(ad1.add (i * 12)).block, (ad1.add (i * 12)).off + 7, none⟩ = some (.string x.f2.f4) ∧ w3.cell? ⟨(ad1.add (i * 12)).block, (ad1.add (i * 12)).off + 8, none⟩ = some (.slice B8 x.f2.f5.length d8) ∧ w3.cell? ⟨(ad1.add (i * 12)).block, (ad1.add (i * 12)).off + 9, none⟩ = some (.int .i64 x.f2.f6) ∧ w3.cell? ⟨(ad1.add (i * 12)).block, (ad1.add (i * 12)).off + 10, none⟩ = some (.int .i64 x.f3) ∧ w3.cell? ⟨(ad1.add (i * 12)).block, (ad1.add (i * 12)).off + 11, none⟩ = some (.slice B11 x.f4.length d11) := ⟨hT.old x0, hT.old x1, hT.old x2, hT.old x3, hT.old x4, hT.old x5, hT.old x6, hT.old x7, hT.old x8, hT.old x9, hT.old x10, hT.old x11, hT.old y0, hT.old y1, hT.old y2, hT.old y3, hT.old y4, hT.old y5, hT.old y6, hT.old y7, hT.old y8, hT.old y9, hT.old y10, hT.old y11⟩
    refine norm_ (a' := ?_) ?_ ?_
    rotate_left
    · simp only [putAll, Act.put, List.setIfInBounds_toArray, List.set_cons_zero, List.set_cons_succ]
      rfl
    refine one_ (i := 10) (N := none) (bs_ 12 2047) rfl rfl (by kernel_rfl) (by decide) (fun K hK => ?_)
    rw [if_pos (by rfl)]
    refine wp_store_row 52 (.tmp 6) (.tmp 22) rfl gx (evC x A8 c8 A11 c11) rfl rfl 52 z52c HT.out.x sz52_ rfl (by simp [Value.oneCell']) ?_
    have HT1 := am_ (TT.sx HT.out (evC x A8 c8 A11 c11))
    refine hK.out _ _ ⟨HT1.out.old x0, HT1.out.old x1, HT1.out.old x2, HT1.out.old x3, HT1.out.old x4, HT1.out.old x5, HT1.out.old x6, HT1.out.old x7, HT1.out.old x8, HT1.out.old x9, HT1.out.old x10, HT1.out.old x11, HT1.out.old y0, HT1.out.old y1, HT1.out.old y2, HT1.out.old y3, HT1.out.old y4, HT1.out.old y5, HT1.out.old y6, HT1.out.old y7, HT1.out.old y8, HT1.out.old y9, HT1.out.old y10, HT1.out.old y11⟩ (fun hHeld => ?_)
    clear hK K
    refine one_ (i := 11) (N := none) (bs_ 12 4095) rfl rfl (by kernel_rfl) (by decide) (fun K hK => ?_)
    rw [if_pos (by rfl)]
    refine wp_store_row 52 (.tmp 7) (.tmp 26) rfl gy (evC x B8 d8 B11 d11) rfl rfl 52 z52c HT1.out.y sz52_ rfl (by simp [Value.oneCell']) ?_
    have HT2 := am_ (TT.sy HT1.out (evC x B8 d8 B11 d11))
    refine hK.out _ _ ⟨HT2.out.old x0, HT2.out.old x1, HT2.out.old x2, HT2.out.old x3, HT2.out.old x4, HT2.out.old x5, HT2.out.old x6, HT2.out.old x7, HT2.out.old x8, HT2.out.old x9, HT2.out.old x10, HT2.out.old x11, HT2.out.old y0, HT2.out.old y1, HT2.out.old y2, HT2.out.old y3, HT2.out.old y4, HT2.out.old y5, HT2.out.old y6, HT2.out.old y7, HT2.out.old y8, HT2.out.old y9, HT2.out.old y10, HT2.out.old y11⟩ (fun hHeld => ?_)
    clear hK K
    refine done_ (by kernel_rfl) ?_
    have HT3 := am_ (TT.b HT2.out)
    have X5 := am_ HT2.out.x
    have Y5 := am_ HT2.out.y
    clear hHeld HT HT1 HT2 hT x0 x1 x2 x3 x4 x5 x6 x7 x8 x9 x10 x11 y0 y1 y2 y3 y4 y5 y6 y7 y8 y9 y10 y11
    (try simp only [Act.put, List.setIfInBounds_toArray, List.set_cons_zero, List.set_cons_succ])
    generalize (w3.setRow gx (evC x A8 c8 A11 c11)).setRow gy (evC x B8 d8 B11 d11) = w5 at HT3 X5 Y5 ⊢
    replace RX8 := am_ (Kd.C_below RX8.out HT3.out)
    replace RY8 := am_ (Kd.C_below RY8.out HT3.out)
    replace RX11 := am_ (Kd.C_below RX11.out HT3.out)
    replace RY11 := am_ (Kd.C_below RY11.out HT3.out)
    replace HB := am_ (below_step HB.out HT3.out)
    clear HT3
    obtain ⟨a0, a1, a2, a3, a4, a5, a6, a7, a8, a9, a10, a11⟩ := cells52 X5.out
    obtain ⟨b0, b1, b2, b3, b4, b5, b6, b7, b8, b9, b10, b11⟩ := cells52 Y5.out
    go_wp2_with fail
    refine (req_same A8 B8 c8 d8 x.f2.f0 x.f2.f1.f0 x.f2.f1.f1 x.f2.f2 x.f2.f6 x.f2.f3 x.f2.f4 x.f2.f5 w5 RX8.out RY8.out).mono ?_
    rintro e w6 ⟨rfl, hb6⟩
    clear a0 a1 a2 a3 a4 a5 a6 a7 a8 a9 a10 a11 b0 b1 b2 b3 b4 b5 b6 b7 b8 b9 b10 b11 RX8 RY8
    replace X5 := am_ ((hb6.block _ (blk_lt X5.out)).trans X5.out)
    replace Y5 := am_ ((hb6.block _ (blk_lt Y5.out)).trans Y5.out)
    replace RX11 := am_ (Kd.C_below RX11.out hb6)
    replace RY11 := am_ (Kd.C_below RY11.out hb6)
    replace HB := am_ (below_step HB.out hb6)
    clear hb6
    have a11 := wld.cell_of (o := 11) (v := .slice A11 x.f4.length c11) X5.out rfl
    have b11 := wld.cell_of (o := 11) (v := .slice B11 x.f4.length d11) Y5.out rfl
    have hn := RX11.out.2.1
    unfold maxLen at hn
    go_wp2
    clear a11 b11
    go_loopw [66] (fun v wr => ∃ j : Nat, j ≤ x.f4.length ∧ v = .int .i64 j ∧ Aside0 (Below w6.heap.size w6 wr)) (fun v _ => x.f4.length - (intOf v).toNat)
    case atStart => exact ⟨0, Nat.zero_le _, rfl, ⟨Below.refl _ _⟩⟩
    case round =>
     obtain ⟨j, hj, rfl, HJ⟩ := hrel
     rename_i wj
     by_cases hjl : j < x.f4.length
     · obtain ⟨sx, S0, k0, e0, s0_, ls0, rs0⟩ := at_L7 (Kd.C_below RX11.out HJ.out) (j : Int) (Int.natCast_nonneg j) (by omega)
       obtain ⟨sy, S1, k1, e1, s1_, ls1, rs1⟩ := at_L7 (Kd.C_below RY11.out HJ.out) (j : Int) (Int.natCast_nonneg j) (by omega)
       subst e0 e1
       rw [Int.toNat_natCast] at s0_ s1_
       generalize rd_L7 x.f4 (j : Int) = z at *
       have RS0 := am_ rs0
       have RS1 := am_ rs1
       clear rs0 rs1 ls0 ls1
       have a11 := keep_ HJ.out (wld.cell_of (o := 11) (v := .slice (some sx) x.f4.length c11) X5.out rfl)
       have b11 := keep_ HJ.out (wld.cell_of (o := 11) (v := .slice (some sy) x.f4.length d11) Y5.out rfl)
       go_wp2_with fail
       refine start_ (n := 12) (S := fun w' => w'.cell? ⟨gx, 11, none⟩ = some (.slice (some sx) x.f4.length c11) ∧ w'.cell? ⟨gy, 11, none⟩ = some (.slice (some sy) x.f4.length d11) ∧ w'.cell? (sx.add j) = some (.slice S0 z.length k0) ∧ w'.cell? (sy.add j) = some (.slice S1 z.length k1)) (ds := []) #[false, false, false, false, false, false, false, false, false, false, false, false] (by kernel_rfl) rfl rfl ⟨a11, b11, s0_, s1_⟩ (fun hHeld => ?_)
       refine pu_ 0 69 (bs_ 12 1) rfl rfl (by kernel_rfl) rfl (by intro w'; go_simp; with_reducible rfl) (by simp only [Act.put, aS, aZ, aC, i64_w, i32_w]; rfl) (fun _ _ _ h => h) ?_
       refine pu_ 2 71 (bs_ 12 5) rfl rfl (by kernel_rfl) rfl (by intro w'; go_simp; with_reducible rfl) (by simp only [Act.put, aS, aZ, aC, i64_w, i32_w]; rfl) (fun _ _ _ h => h) ?_
       refine pu_ 5 74 (bs_ 12 37) rfl rfl (by kernel_rfl) rfl (by intro w'; go_simp; with_reducible rfl) (by simp only [Act.put, aS, aZ, aC, i64_w, i32_w]; rfl) (fun _ _ _ h => h) ?_
       refine pu_ 7 76 (bs_ 12 165) rfl rfl (by kernel_rfl) rfl (by intro w'; go_simp; with_reducible rfl) (by simp only [Act.put, aS, aZ, aC, i64_w, i32_w]; rfl) (fun _ _ _ h => h) ?_
       refine ta_ 1 70 (bs_ 12 167) rfl rfl (by kernel_rfl) rfl (by rintro w' ⟨s0, s1, s2, s3⟩; go_simp; with_reducible rfl) hHeld (by simp only [Act.put, aS, aZ, aC, i64_w, i32_w]; rfl) (fun _ _ _ h => h) ?_
       refine pu_ 3 72 (bs_ 12 175) rfl rfl (by kernel_rfl) rfl (by intro w'; go_simp; with_reducible rfl) (by simp only [Act.put, aS, aZ, aC, i64_w, i32_w]; rfl) (fun _ _ _ h => h) ?_
       refine ta_ 4 73 (bs_ 12 191) rfl rfl (by kernel_rfl) rfl (by rintro w' ⟨s0, s1, s2, s3⟩; go_simp; with_reducible rfl) hHeld (by simp only [Act.put, aS, aZ, aC, i64_w, i32_w]; rfl) (fun _ _ _ h => h) ?_
       refine ta_ 6 75 (bs_ 12 255) rfl rfl (by kernel_rfl) rfl (by rintro w' ⟨s0, s1, s2, s3⟩; go_simp; with_reducible rfl) hHeld (by simp only [Act.put, aS, aZ, aC, i64_w, i32_w]; rfl) (fun _ _ _ h => h) ?_
       refine pu_ 8 77 (bs_ 12 511) rfl rfl (by kernel_rfl) rfl (by intro w'; go_simp; with_reducible rfl) (by simp only [Act.put, aS, aZ, aC, i64_w, i32_w]; rfl) (fun _ _ _ h => h) ?_
       refine ta_ 9 78 (bs_ 12 1023) rfl rfl (by kernel_rfl) rfl (by rintro w' ⟨s0, s1, s2, s3⟩; go_simp; with_reducible rfl) hHeld (by simp only [Act.put, aS, aZ, aC, i64_w, i32_w]; rfl) (fun _ _ _ h => h) ?_
       refine one_ (i := 10) (N := some 79) (bs_ 12 2047) rfl rfl (by kernel_rfl) (by decide) (fun K hK => ?_)
       refine goes_ Tryz.func53 (by kernel_rfl) rfl #[.slice S0 z.length k0, .slice S1 z.length k1] (by rfl) rfl rfl (by (try simp only [aT, aK, aL]); first | done | rfl) ?_
       refine (eq53 S0 k0 S1 k1 z _ (Kd.C_below RS0.out (b3_ (Below.refl _ _))) (Kd.C_below RS1.out (b3_ (Below.refl _ _)))).mono ?_
       rintro e w7 ⟨rfl, hb7⟩
       refine ⟨_, rfl, ?_⟩
       have HB7 := am_ (below_step (b3_ (Below.refl _ _)) hb7)
       clear hb7
       refine hK.out _ _ ⟨keep_ HB7.out a11, keep_ HB7.out b11, keep_ HB7.out s0_, keep_ HB7.out s1_⟩ (fun hHeld => ?_)
       clear hK K
       refine no_ (by simp only [Act.put, aS, aZ, aC, i64_w, i32_w]; rfl) ?_
       refine pu_ 11 80 (bs_ 12 4095) rfl rfl (by kernel_rfl) rfl (by intro w'; go_simp; with_reducible rfl) (by simp only [Act.put, aS, aZ, aC, i64_w, i32_w]; rfl) (fun _ _ _ h => h) ?_
       refine done_ (by kernel_rfl) ?_
       go_wp2
       go_roundw
       case rel => exact ⟨j + 1, by omega, by go_num, ⟨below_step HJ.out HB7.out⟩⟩
       case measure => simp [intOf]; omega
     go_wp2
     go_roundw
     case rel => exact ⟨i + 1, by omega, by go_num, ⟨below_step HB.out HJ.out⟩⟩
     case measure => simp [intOf]; omega
  go_wp2
  go_ret
  exact ⟨rfl, HB.out⟩
end Go.Proofs.YtndbbgihpoiojaaGreatDoor.Q
namespace Go.Proofs.YtndbbgihpoiojaaGreatDoor.Q
open Go.RowKit Go.Proofs.YtndbbgihpoiojaaGreatDoorW.PrintWords Go.Proofs.YtndbbgihpoiojaaGreatDoorW.PrintLast
theorem back_calls (A0 : Option Addr) (c0 : Nat) (l0 : List Int) (A1 : Option Addr) (c1 : Nat) (l1 : List S70) (A2 : Option Addr) (c2 : Nat) (l2 : List Int) (A3 : Option Addr) (c3 : Nat) (evs : List S52) (w : World) (hE : sc.Env w)
 (h0 : Kd.C (Kd.int .u64) w A0 l0.length l0) (h1 : Kd.C k70 w A1 l1.length l1) (h2 : Kd.C (Kd.int .i64) w A2 l2.length l2) (h3 : Kd.C k52 w A3 evs.length evs) (hc3 : evs.length ≤ c3) (ok : PrintOK (l0, l1, l2, evs))
 (hv : ∃ k, cloisterlaw26_vast.f k evs = some false) (t : ByteArray) (cd : Int) (hp : printS (l0, l1, l2, evs) = (t, cd)) (ht : t.size ≤ 140737488355328) (hbad : cd ≠ 0 → t = ⟨#[]⟩) (hgood : cd = 0 → parseS t = ((0, 0), some (l0, l1, l2, evs))) :
 Calls Tryz.prog 9 #[.agg #[.slice A0 l0.length c0, .slice A1 l1.length c1, .slice A2 l2.length c2], .slice A3 evs.length c3] w fun e w' => e = .returned (.bool true) ∧ Below w.heap.size w w' := by
 have HE := am_ hE
 have H0 := am_ h0
 have H1 := am_ h1
 have H2 := am_ h2
 have H3 := am_ h3
 have HC3 := am_ hc3
 have HOK := am_ ok
 have HV := am_ hv
 have HP := am_ hp
 have HT := am_ ht
 have HBAD := am_ hbad
 have HGOOD := am_ hgood
 clear hE h0 h1 h2 h3 hc3 ok hv hp ht hbad hgood
 obtain ⟨W, hW⟩ : ∃ W, w.alloc (.cells #[.slice A0 l0.length c0, .slice A1 l1.length c1, .slice A2 l2.length c2] 26) = W := ⟨_, rfl⟩
 have HB := am_ (show Below w.heap.size w W by rw [← hW]; exact b1_ (Below.refl _ _) _)
 have X := am_ (show W.heap[w.heap.size]? = some (.cells #[.slice A0 l0.length c0, .slice A1 l1.length c1, .slice A2 l2.length c2] 26) by rw [← hW]; exact wld.alloc_same _ _)
 have HW := am_ hW
 clear hW
 obtain ⟨kv, hkv⟩ := HV.out
 have HKV := am_ hkv
 clear hkv HV
 go_enter Tryz.func9, Tryz.ntmps9
 go_wp2_with fail
 rw [HW.out]
 refine (cloisterlaw26_vast.calls kv A3 c3 evs false W (Kd.C_below H3.out HB.out) HC3.out HKV.out).mono ?_
 rintro e w1 ⟨rfl, hb1⟩
 replace HB := am_ (below_step HB.out hb1)
 replace X := am_ ((hb1.block _ (blk_lt X.out)).trans X.out)
 clear hb1 HW HKV
 have x0 := wld.cell_of (o := 0) (v := .slice A0 l0.length c0) X.out rfl
 have x1 := wld.cell_of (o := 1) (v := .slice A1 l1.length c1) X.out rfl
 have x2 := wld.cell_of (o := 2) (v := .slice A2 l2.length c2) X.out rfl
 go_wp2_with fail
 have HPR := am_ (print_calls A0 c0 l0 A1 c1 l1 A2 c2 l2 A3 c3 evs w1 (HE.out.below HB.out) (Kd.C_below H0.out HB.out) (Kd.C_below H1.out HB.out) (Kd.C_below H2.out HB.out) (Kd.C_below H3.out HB.out) HOK.out)
 rw [HP.out] at HPR
 refine HPR.out.mono ?_
 clear x0 x1 x2 HPR
 rintro e w2 ⟨rfl, hb2⟩
 replace HB := am_ (below_step HB.out hb2)
 replace X := am_ ((hb2.block _ (blk_lt X.out)).trans X.out)
 clear hb2
 go_wp2_with fail
 refine (fixed_calls w2 (HE.out.below HB.out)).mono ?_
 rintro e w3 ⟨rfl, hb3⟩
 replace HB := am_ (below_step HB.out hb3)
 replace X := am_ ((hb3.block _ (blk_lt X.out)).trans X.out)
 clear hb3
 by_cases hcd : cd = 0
 · have HQ := am_ (HGOOD.out hcd)
   subst hcd
   have HPA := am_ (parse_calls t w3 (HE.out.below HB.out) HT.out)
   rw [HQ.out] at HPA
   clear HBAD HGOOD
   go_wp2_with fail
   refine HPA.out.mono ?_
   rintro e w4 ⟨v0, v1, v2, v3, rfl, ⟨base, hbase, hr⟩, hb4⟩
   obtain ⟨B0, d0, B1, d1, B2, d2, B3, d3, rfl, rfl, rfl, rfl, g0, g1, g2, g3⟩ := rows_C4 (l0 := l0) (l1 := l1) (l2 := l2) (l3 := evs) hr
   replace HB := am_ (below_step HB.out hb4)
   replace X := am_ ((hb4.block _ (blk_lt X.out)).trans X.out)
   have G0 := am_ g0
   have G1 := am_ g1
   have G2 := am_ g2
   have G3 := am_ g3
   clear hr hb4 hbase g0 g1 g2 g3 HPA HQ
   obtain ⟨W5, hW5⟩ : ∃ W5, w4.alloc (.cells #[.slice B0 l0.length d0, .slice B1 l1.length d1, .slice B2 l2.length d2] 26) = W5 := ⟨_, rfl⟩
   have hb5 : Below w4.heap.size w4 W5 := by rw [← hW5]; exact b1_ (Below.refl _ _) _
   have Y := am_ (show W5.heap[w4.heap.size]? = some (.cells #[.slice B0 l0.length d0, .slice B1 l1.length d1, .slice B2 l2.length d2] 26) by rw [← hW5]; exact wld.alloc_same _ _)
   replace X := am_ ((hb5.block _ (blk_lt X.out)).trans X.out)
   replace HB := am_ (below_step HB.out hb5)
   replace G0 := am_ (Kd.C_below G0.out hb5)
   replace G1 := am_ (Kd.C_below G1.out hb5)
   replace G2 := am_ (Kd.C_below G2.out hb5)
   replace G3 := am_ (Kd.C_below G3.out hb5)
   have HW5 := am_ hW5
   clear hW5 hb5
   go_upto_region 9 with (fail)
   rw [HW5.out]
   have x0 := wld.cell_of (o := 0) (v := .slice A0 l0.length c0) X.out rfl
   have x1 := wld.cell_of (o := 1) (v := .slice A1 l1.length c1) X.out rfl
   have x2 := wld.cell_of (o := 2) (v := .slice A2 l2.length c2) X.out rfl
   have y0 := wld.cell_of (o := 0) (v := .slice B0 l0.length d0) Y.out rfl
   have y1 := wld.cell_of (o := 1) (v := .slice B1 l1.length d1) Y.out rfl
   have y2 := wld.cell_of (o := 2) (v := .slice B2 l2.length d2) Y.out rfl
   go_wp2_with fail
   refine (cfg_same A0 A1 A2 B0 B1 B2 c0 c1 c2 d0 d1 d2 l0 l1 l2 W5 (Kd.C_below H0.out HB.out) (Kd.C_below H1.out HB.out) (Kd.C_below H2.out HB.out) G0.out G1.out G2.out).mono ?_
   rintro e w6 ⟨rfl, hb6⟩
   clear x0 x1 x2 y0 y1 y2
   replace HB := am_ (below_step HB.out hb6)
   replace Y := am_ ((hb6.block _ (blk_lt Y.out)).trans Y.out)
   replace G0 := am_ (Kd.C_below G0.out hb6)
   replace G1 := am_ (Kd.C_below G1.out hb6)
   replace G2 := am_ (Kd.C_below G2.out hb6)
   replace G3 := am_ (Kd.C_below G3.out hb6)
   clear hb6 X HW5
   go_wp2_with fail
   refine (evs_same B3 A3 d3 c3 evs w6 G3.out (Kd.C_below H3.out HB.out)).mono ?_
   rintro e w7 ⟨rfl, hb7⟩
   replace HB := am_ (below_step HB.out hb7)
   have y0 := wld.cell_of (o := 0) (v := .slice B0 l0.length d0) ((hb7.block _ (blk_lt Y.out)).trans Y.out) rfl
   have y1 := wld.cell_of (o := 1) (v := .slice B1 l1.length d1) ((hb7.block _ (blk_lt Y.out)).trans Y.out) rfl
   have y2 := wld.cell_of (o := 2) (v := .slice B2 l2.length d2) ((hb7.block _ (blk_lt Y.out)).trans Y.out) rfl
   have HPR := am_ (print_calls B0 d0 l0 B1 d1 l1 B2 d2 l2 B3 d3 evs w7 (HE.out.below HB.out) (Kd.C_below G0.out hb7) (Kd.C_below G1.out hb7) (Kd.C_below G2.out hb7) (Kd.C_below G3.out hb7) HOK.out)
   rw [HP.out] at HPR
   clear hb7
   go_wp2_with fail
   refine HPR.out.mono ?_
   rintro e w8 ⟨rfl, hb8⟩
   go_wp2_with fail
   go_ret
   exact ⟨rfl, below_step HB.out hb8⟩
 have e1 := HBAD.out hcd
 subst e1
 have e2 : (cd != 0) = true := bne_iff_ne.mpr hcd
 go_wp2_with fail
 go_ret
 exact ⟨rfl, HB.out⟩
end Go.Proofs.YtndbbgihpoiojaaGreatDoor.Q
namespace Go.Proofs.YtndbbgihpoiojaaGreatDoor.sc
open Go.RowKit
def Clean (b : UInt8) : Prop := 32 < b.toNat ∧ b.toNat ≠ 34 ∧ b.toNat ≠ 127
theorem enc_hi (r : Int) (h : 128 ≤ r) : ∀ b ∈ Lib.encodeRune r, 128 ≤ b.toNat := by
 intro b hb
 unfold Lib.encodeRune at hb
 obtain ⟨x, hx, rfl⟩ := List.mem_map.1 hb
 have hb := Lib.encodeRuneZ_byte r x hx
 have h1 : 128 ≤ x := by
  unfold Lib.encodeRuneZ at hx
  split at hx
  · omega
  split at hx
  · simp at hx; omega
  split at hx
  · simp at hx; omega
  split at hx
  · simp at hx; omega
  simp at hx; omega
 have e : x.toNat.toUInt8.toNat = x.toNat := by
  show x.toNat % 2 ^ 8 = x.toNat
  omega
 omega
theorem hexD_cases : ∀ k : Fin 16, hexV (hexD k.val) = some k.val ∧ 48 ≤ (hexD k.val).toNat ∧ (hexD k.val).toNat ≤ 70 := by decide +kernel
theorem hexV_D {k : Nat} (h : k < 16) : hexV (hexD k) = some k := (hexD_cases ⟨k, h⟩).1
theorem hexD_clean {k : Nat} (h : k < 16) : Clean (hexD k) := by
 have := (hexD_cases ⟨k, h⟩).2
 unfold Clean
 have e : (⟨k, h⟩ : Fin 16).val = k := rfl
 rw [e] at this
 omega
theorem hex_back (b : UInt8) : UInt8.ofNat (16 * (b.toNat / 16) + b.toNat % 16) = b := by
 have : 16 * (b.toNat / 16) + b.toNat % 16 = b.toNat := by omega
 rw [this]; simp
theorem unqL_pcts (t : List UInt8) : ∀ (l : List UInt8), unqL (l.flatMap pct ++ t) = (unqL t).map (l ++ ·)
 | [] => by cases h : unqL t <;> simp [h]
 | b :: l => by
  have hb := b.toNat_lt
  show unqL (37 :: hexD (b.toNat / 16) :: hexD (b.toNat % 16) :: (l.flatMap pct ++ t)) = _
  rw [unqL_pct, hexV_D (by omega), hexV_D (by omega)]
  show (unqL (l.flatMap pct ++ t)).map _ = _
  rw [unqL_pcts t l, hex_back]
  cases h : unqL t <;> simp
theorem unqL_plains (t : List UInt8) : ∀ (l : List UInt8), (∀ b ∈ l, b ≠ 37) → unqL (l ++ t) = (unqL t).map (l ++ ·)
 | [], _ => by cases h : unqL t <;> simp [h]
 | b :: l, hl => by
  rw [List.cons_append, unqL_plain _ (hl b (List.mem_cons_self ..)), unqL_plains t l (fun x hx => hl x (List.mem_cons_of_mem _ hx))]
  cases h : unqL t <;> simp
theorem ok_bytes (l : List UInt8) (hne : l ≠ []) (h : qok (Lib.decodeL l).1 (Lib.decodeL l).2 = true) : ∀ b ∈ l.take (Lib.decodeL l).2, Clean b ∧ b.toNat ≠ 37 := by
 intro b hb
 unfold qok at h
 simp only [Bool.and_eq_true, Bool.or_eq_true, bne_iff_ne, ne_eq, decide_eq_true_eq] at h
 by_cases h128 : 128 ≤ (Lib.decodeL l).1
 · have he := Lib.encode_decode l hne (by omega)
   rw [← he] at hb
   have := enc_hi _ (by omega) b hb
   unfold Clean
   omega
 cases l with
 | nil => exact absurd rfl hne
 | cons c l =>
  by_cases hc : c.toNat < 128
  · rw [Lib.decodeL_ascii c l hc] at h hb
    simp only [List.take_succ_cons, List.take_zero, List.mem_singleton] at hb
    subst hb
    simp only at h
    unfold Clean
    omega
  exfalso
  rw [Lib.decodeL_N] at h128
  have e : ((c :: l).getD 0 0).toNat = c.toNat := rfl
  rcases Lib.decodeN_shape (c :: l).length ((c :: l).getD 0 0).toNat ((c :: l).getD 1 0).toNat ((c :: l).getD 2 0).toNat ((c :: l).getD 3 0).toNat with ⟨c0, e1⟩ | ⟨_, _, _, _, e1⟩ | ⟨_, _, _, _, _, _, e1⟩ | ⟨_, _, _, _, _, _, _, e1⟩ | e1
  · omega
  all_goals (rw [e1] at h128; simp only at h128; omega)
theorem qform_clean (l : List UInt8) (hne : l ≠ []) : ∀ b ∈ qform l (Lib.decodeL l).1 (Lib.decodeL l).2, Clean b := by
 intro b hb
 unfold qform at hb
 split at hb
 · rename_i h; exact (ok_bytes l hne h b hb).1
 obtain ⟨x, hx, hb⟩ := List.mem_flatMap.1 hb
 have hx' := x.toNat_lt
 unfold pct at hb
 simp only [List.mem_cons, List.not_mem_nil, or_false] at hb
 rcases hb with rfl | rfl | rfl
 · exact ⟨by decide, by decide, by decide⟩
 · exact hexD_clean (by omega)
 exact hexD_clean (by omega)
theorem qform_back (l t : List UInt8) (hne : l ≠ []) : unqL (qform l (Lib.decodeL l).1 (Lib.decodeL l).2 ++ t) = (unqL t).map (l.take (Lib.decodeL l).2 ++ ·) := by
 unfold qform
 split
 · rename_i h
   refine unqL_plains t _ (fun b hb e => ?_)
   have := (ok_bytes l hne h b hb).2
   rw [e] at this
   exact this rfl
 exact unqL_pcts t _
theorem qt_ind {P : List UInt8 → Prop} (h0 : P []) (hs : ∀ l, l ≠ [] → P (l.drop (Lib.decodeL l).2) → P l) : ∀ l, P l := by
 have : ∀ (n : Nat) (l : List UInt8), l.length ≤ n → P l := by
  intro n
  induction n with
  | zero =>
   intro l h
   have : l = [] := List.length_eq_zero_iff.1 (by omega)
   rw [this]; exact h0
  | succ n ih =>
   intro l h
   by_cases hne : l = []
   · rw [hne]; exact h0
   have hw := width_posL l
   have hp := List.length_pos_iff.2 hne
   exact hs l hne (ih _ (by rw [List.length_drop]; omega))
 exact fun l => this l.length l (Nat.le_refl _)
theorem qt_clean : ∀ l, ∀ b ∈ qt l, Clean b := by
 refine qt_ind (by intro b hb; cases hb) (fun l hne ih b hb => ?_)
 rw [qt_step hne] at hb
 rcases List.mem_append.1 hb with hb | hb
 · exact qform_clean l hne b hb
 exact ih b hb
theorem unqL_qt : ∀ l, unqL (qt l) = some l := by
 refine qt_ind rfl (fun l hne ih => ?_)
 rw [qt_step hne, qform_back l _ hne, ih]
 simp
theorem quoteL_eq (l : List UInt8) : quoteL l = 34 :: (qt l ++ [34]) := rfl
theorem unquote_quote (l : List UInt8) : unquoteL (quoteL l) = some l := by
 unfold unquoteL
 rw [if_pos ⟨by rw [quoteL_eq]; simp, by rw [quoteL_eq]; rfl, by rw [quoteL_eq, ← List.cons_append, List.getLast?_append]; simp⟩]
 have e : ((quoteL l).drop 1).take ((quoteL l).length - 2) = qt l := by
  rw [quoteL_eq]
  simp
 rw [e, unqL_qt]
 simp
theorem quote_len (l : List UInt8) : (quoteL l).length = (qt l).length + 2 := by rw [quoteL_eq]; simp
theorem quote_clean (l : List UInt8) : ∀ b ∈ quoteL l, 32 < b.toNat ∧ b.toNat ≠ 127 := by
 intro b hb
 rw [quoteL_eq] at hb
 rcases List.mem_cons.1 hb with rfl | hb
 · exact ⟨by decide, by decide⟩
 rcases List.mem_append.1 hb with hb | hb
 · have := qt_clean l b hb; unfold Clean at this; omega
 rw [List.mem_singleton.1 hb]; exact ⟨by decide, by decide⟩
theorem parseUintM_append (M : Nat) (r : List UInt8) : ∀ (l : List UInt8) (acc : Nat), Lib.parseUintM M acc (l ++ r) = (match Lib.parseUintM M acc l with
 | .ok a => Lib.parseUintM M a r
 | e => e)
 | [], acc => rfl
 | c :: l, acc => by
  rw [List.cons_append, Lib.parseUintM, Lib.parseUintM]
  split
  · split
    · rfl
    split
    · rfl
    exact parseUintM_append M r l _
  rfl
theorem dig_nat (k : Nat) (h : k < 10) : (UInt8.ofNat (48 + k)).toNat = 48 + k := by
 show (48 + k) % 2 ^ 8 = _
 omega
theorem dec_step {u : Nat} (h : ¬ u < 10) : Lib.decDigits u = Lib.decDigits (u / 10) ++ [UInt8.ofNat (48 + u % 10)] := by
 rw [Lib.decDigits, dif_neg h]
theorem parse_dec : ∀ (n u : Nat), u < n → u ≤ 18446744073709551615 → Lib.parseUintM 18446744073709551615 0 (Lib.decDigits u) = .ok u := by
 intro n
 induction n with
 | zero => intro u h; omega
 | succ n ih =>
  intro u h hu
  by_cases h10 : u < 10
  · rw [Lib.decDigits_one h10, Lib.parseUintM, dig_nat u h10, if_pos (by omega), if_neg (by omega), if_neg (by omega), Lib.parseUintM]
    congr 1
    omega
  rw [dec_step h10, parseUintM_append, ih (u / 10) (by omega) (by omega)]
  show Lib.parseUintM _ (u / 10) [UInt8.ofNat (48 + u % 10)] = _
  rw [Lib.parseUintM, dig_nat (u % 10) (by omega), if_pos (by omega), if_neg (by omega), if_neg (by omega), Lib.parseUintM]
  congr 1
  omega
theorem dec_digits : ∀ (n u : Nat), u < n → ∀ b ∈ Lib.decDigits u, 48 ≤ b.toNat ∧ b.toNat ≤ 57 := by
 intro n
 induction n with
 | zero => intro u h; omega
 | succ n ih =>
  intro u h b hb
  by_cases h10 : u < 10
  · rw [Lib.decDigits_one h10, List.mem_singleton] at hb
    rw [hb, dig_nat u h10]; omega
  rw [dec_step h10] at hb
  rcases List.mem_append.1 hb with hb | hb
  · exact ih (u / 10) (by omega) b hb
  rw [List.mem_singleton.1 hb, dig_nat (u % 10) (by omega)]; omega
theorem dec_dig (u : Nat) : ∀ b ∈ Lib.decDigits u, 48 ≤ b.toNat ∧ b.toNat ≤ 57 := dec_digits (u + 1) u (by omega)
theorem dec_ne (u : Nat) : Lib.decDigits u ≠ [] := by
 intro h
 have := Lib.decDigits_length u
 rw [h] at this
 have := Lib.nDigits_pos u
 simp at *
 omega
theorem parseUintB_dec (u : Nat) (h : u ≤ 18446744073709551615) : Lib.parseUintB 64 (Lib.decDigits u) = .ok u := by
 unfold Lib.parseUintB
 rw [if_neg (dec_ne u)]
 exact parse_dec (u + 1) u (by omega) h
theorem parseIntB_itoa (n : Int) (h : InInt n) : Lib.parseIntB 64 (Lib.itoa n) = .ok n := by
 unfold InInt at h
 unfold Lib.itoa
 split
 · rw [Lib.parseIntB_minus, parseUintB_dec _ (by omega)]
   show Lib.signedC 9223372036854775808 _ = _
   unfold Lib.signedC
   simp only
   rw [if_neg (by omega)]
   congr 1
   omega
 have hd := dec_dig n.toNat
 have hp := parseUintB_dec n.toNat (by omega)
 cases hl : Lib.decDigits n.toNat with
 | nil => exact absurd hl (dec_ne _)
 | cons c r =>
  rw [hl] at hd hp
  have := hd c (List.mem_cons_self ..)
  rw [Lib.parseIntB_plain 64 c r (by omega) (by omega), hp]
  show Lib.signlessC 9223372036854775808 _ = _
  unfold Lib.signlessC
  simp only
  rw [if_neg (by omega)]
  congr 1
  omega
theorem numOf_iff (s : ByteArray) (n : Int) : numOf s = some n ↔ InInt n ∧ s.data.toList = Lib.itoa n := by
 constructor
 · intro h
   unfold numOf at h
   split at h
   · rename_i v hv
     split at h
     · rename_i e
       cases h
       have := Lib.parseIntB_bounds hv
       refine ⟨⟨?_, ?_⟩, e.symm⟩
       · have := this.1; simp at this; omega
       have := this.2; simp at this; omega
     cases h
   cases h
 rintro ⟨h, e⟩
 unfold numOf
 rw [e, parseIntB_itoa n h]
 simp
theorem labelOf_iff (s : ByteArray) (n : Nat) : labelOf s = some n ↔ n ≤ 18446744073709551615 ∧ s.data.toList = Lib.decDigits n := by
 constructor
 · intro h
   unfold labelOf at h
   split at h
   · rename_i v hv
     split at h
     · rename_i e
       cases h
       have := Lib.parseUintB_le hv
       exact ⟨by simpa using this, e.symm⟩
     cases h
   cases h
 rintro ⟨h, e⟩
 unfold labelOf
 rw [e, parseUintB_dec n h]
 simp
theorem itoa_clean (n : Int) : ∀ b ∈ Lib.itoa n, b.toNat = 45 ∨ (48 ≤ b.toNat ∧ b.toNat ≤ 57) := by
 intro b hb
 unfold Lib.itoa at hb
 split at hb
 · rcases List.mem_cons.1 hb with rfl | hb
   · exact .inl rfl
   exact .inr (dec_dig _ b hb)
 exact .inr (dec_dig _ b hb)
theorem itoa_ne (n : Int) : Lib.itoa n ≠ [] := by
 unfold Lib.itoa
 split
 · simp
 exact dec_ne _
end Go.Proofs.YtndbbgihpoiojaaGreatDoor.sc
namespace Go.Proofs.YtndbbgihpoiojaaGreatDoor.Q
open Go.RowKit
open Go.Proofs.YtndbbgihpoiojaaGreatDoor.it (linesS splitS splitF linesF wordsOfL trimL linesS_nil linesS_last linesS_cons splitS_last splitS_cons indexByte_lt extract_size')
theorem splitOn_miss {c : UInt8} : ∀ {l : List UInt8}, Lib.indexByte l c < 0 → splitOn c l = [l]
 | [], _ => rfl
 | b :: l, h => by
  unfold Lib.indexByte at h
  by_cases hb : b = c
  · subst hb; simp at h
  have h1 : Lib.indexByte l c < 0 := by
   have := Lib.indexByte_ge l c
   simp only [beq_iff_eq, hb, if_false] at h
   split at h
   · rename_i e; omega
   omega
  unfold splitOn
  rw [if_neg hb, splitOn_miss h1]
theorem splitOn_hit {c : UInt8} : ∀ {l : List UInt8}, ¬ Lib.indexByte l c < 0 → splitOn c l = l.take (Lib.indexByte l c).toNat :: splitOn c (l.drop (Lib.indexByte l c + 1).toNat)
 | [], h => by unfold Lib.indexByte at h; simp at h
 | b :: l, h => by
  by_cases hb : b = c
  · subst hb
    have e : Lib.indexByte (b :: l) b = 0 := by unfold Lib.indexByte; simp
    rw [e]
    conv => lhs; unfold splitOn
    simp
  have hge := Lib.indexByte_ge l c
  have h1 : ¬ Lib.indexByte l c < 0 := by
   intro h2
   apply h
   unfold Lib.indexByte
   simp only [beq_iff_eq, hb, if_false]
   rw [if_pos (by omega)]
   omega
  have e : Lib.indexByte (b :: l) c = Lib.indexByte l c + 1 := by
   conv => lhs; unfold Lib.indexByte
   simp only [beq_iff_eq, hb, if_false]
   rw [if_neg (by omega)]
  have e1 : (Lib.indexByte l c + 1).toNat = (Lib.indexByte l c).toNat + 1 := by omega
  have e2 : (Lib.indexByte l c + 1 + 1).toNat = (Lib.indexByte l c + 1).toNat + 1 := by omega
  conv => lhs; unfold splitOn
  rw [if_neg hb, splitOn_hit h1, e, e2, e1, List.take_succ_cons, List.drop_succ_cons]
theorem data_take (s : ByteArray) (k : Nat) : (s.extract 0 k).data.toList = s.data.toList.take k := by rw [extract_data]; simp
theorem data_drop (s : ByteArray) (k : Nat) : (s.extract k s.size).data.toList = s.data.toList.drop k := by
 rw [extract_data, Lib.size_eq, List.take_of_length_le (by rw [List.length_drop]; omega)]
theorem splitS_data (c : UInt8) : ∀ (n : Nat) (s : ByteArray), s.size ≤ n → (splitS c s).map (·.data.toList) = splitOn c s.data.toList := by
 intro n
 induction n with
 | zero =>
  intro s h
  have h0 : s.data.toList = [] := List.eq_nil_of_length_eq_zero (by rw [← Lib.size_eq]; omega)
  have h1 : Lib.indexByte s.data.toList c < 0 := by rw [h0]; unfold Lib.indexByte; decide
  rw [splitS_last c s h1, splitOn_miss h1]
  rfl
 | succ n ih =>
  intro s h
  by_cases h1 : Lib.indexByte s.data.toList c < 0
  · rw [splitS_last c s h1, splitOn_miss h1]
    rfl
  have hlt := indexByte_lt s.data.toList c
  rw [← Lib.size_eq] at hlt
  rw [splitS_cons c s h1, splitOn_hit h1, List.map_cons, ih _ (by rw [extract_size']; omega), data_take, data_drop]
def wordsL (l : List UInt8) : List (List UInt8) := (splitOn 32 l).filter (!·.isEmpty)
theorem wordsS_data (s : ByteArray) : (wordsS s).map (·.data.toList) = wordsL s.data.toList := by
 unfold wordsS wordsL wordsOfL
 rw [← splitS_data 32 s.size s (Nat.le_refl _), List.filter_map]
 rfl
def chop : List (List UInt8) → List (List UInt8)
 | [] => []
 | [x] => if x = [] then [] else [x]
 | x :: y :: r => x :: chop (y :: r)
def linesL (l : List UInt8) : List (List UInt8) := chop (splitOn 10 l)
theorem chop_cons (x : List UInt8) (r : List (List UInt8)) (h : r ≠ []) : chop (x :: r) = x :: chop r := by
 cases r with
 | nil => exact absurd rfl h
 | cons y r => rfl
theorem idx_mem : ∀ {l : List UInt8} {c : UInt8}, Lib.indexByte l c < 0 → c ∉ l
 | [], _, _ => by simp
 | b :: l, c, h => by
  have hge := Lib.indexByte_ge l c
  unfold Lib.indexByte at h
  by_cases hb : b = c
  · simp [hb] at h
  simp only [beq_iff_eq, hb, if_false] at h
  have h1 : Lib.indexByte l c < 0 := by
   split at h
   · rename_i e; omega
   omega
  have := idx_mem h1
  simp [Ne.symm hb, this]
theorem idx_none : ∀ {l : List UInt8} {c : UInt8}, c ∉ l → Lib.indexByte l c < 0
 | [], _, _ => by unfold Lib.indexByte; decide
 | b :: l, c, h => by
  have h1 : b ≠ c := fun e => h (by simp [e])
  have h2 := idx_none (l := l) (c := c) (fun e => h (List.mem_cons_of_mem _ e))
  have hge := Lib.indexByte_ge l c
  unfold Lib.indexByte
  simp only [beq_iff_eq, h1, if_false]
  rw [if_pos (by omega)]
  decide
theorem idx_at : ∀ {l : List UInt8} {c : UInt8}, ¬ Lib.indexByte l c < 0 → l.take (Lib.indexByte l c + 1).toNat = l.take (Lib.indexByte l c).toNat ++ [c]
 | [], _, h => by unfold Lib.indexByte at h; simp at h
 | b :: l, c, h => by
  have hge := Lib.indexByte_ge l c
  by_cases hb : b = c
  · subst hb
    have e : Lib.indexByte (b :: l) b = 0 := by unfold Lib.indexByte; simp
    rw [e]; rfl
  have h1 : ¬ Lib.indexByte l c < 0 := by
   intro h2
   apply h
   unfold Lib.indexByte
   simp only [beq_iff_eq, hb, if_false]
   rw [if_pos (by omega)]
   omega
  have e : Lib.indexByte (b :: l) c = Lib.indexByte l c + 1 := by
   conv => lhs; unfold Lib.indexByte
   simp only [beq_iff_eq, hb, if_false]
   rw [if_neg (by omega)]
  have e1 : (Lib.indexByte l c + 1).toNat = (Lib.indexByte l c).toNat + 1 := by omega
  have e2 : (Lib.indexByte l c + 1 + 1).toNat = (Lib.indexByte l c + 1).toNat + 1 := by omega
  have ih := idx_at h1
  rw [e, e2, e1, List.take_succ_cons, List.take_succ_cons, List.cons_append, ← e1, ih]
theorem trim_data (x : ByteArray) : (trimL x).data.toList = Lib.trimSuffix x.data.toList [10] := rfl
theorem trim_hit (l : List UInt8) : Lib.trimSuffix (l ++ [10]) [10] = l := by
 unfold Lib.trimSuffix
 rw [if_pos (by simp [Lib.hasSuffix])]
 simp
theorem trim_miss (l : List UInt8) (h : (10 : UInt8) ∉ l) : Lib.trimSuffix l [10] = l := by
 unfold Lib.trimSuffix
 rw [if_neg]
 intro hs
 simp only [Lib.hasSuffix, List.isSuffixOf_iff_suffix] at hs
 exact h (hs.subset (by simp))
theorem linesT_data : ∀ (n : Nat) (s : ByteArray), s.size ≤ n → (linesT s).map (·.data.toList) = linesL s.data.toList := by
 intro n
 induction n with
 | zero =>
  intro s h
  have h0 : s.data.toList = [] := List.eq_nil_of_length_eq_zero (by rw [← Lib.size_eq]; omega)
  unfold linesT
  rw [linesS_nil s (by omega), h0]
  rfl
 | succ n ih =>
  intro s h
  by_cases hs : s.size = 0
  · have h0 : s.data.toList = [] := List.eq_nil_of_length_eq_zero (by rw [← Lib.size_eq]; omega)
    unfold linesT
    rw [linesS_nil s hs, h0]
    rfl
  by_cases h1 : Lib.indexByte s.data.toList 10 < 0
  · unfold linesT linesL
    rw [linesS_last s hs h1, splitOn_miss h1]
    simp only [List.map_cons, List.map_nil]
    rw [trim_data, trim_miss _ (idx_mem h1)]
    unfold chop
    rw [if_neg]
    intro e
    rw [Lib.size_eq, e] at hs
    exact hs rfl
  have hlt := indexByte_lt s.data.toList 10
  rw [← Lib.size_eq] at hlt
  have ih' := ih (s.extract (Lib.indexByte s.data.toList 10 + 1).toNat s.size) (by rw [extract_size']; omega)
  unfold linesT linesL at ih' ⊢
  rw [linesS_cons s hs h1, splitOn_hit h1, chop_cons _ _ (splitOn_ne _ _)]
  simp only [List.map_cons]
  rw [ih', trim_data, data_take, idx_at h1, trim_hit, data_drop]
theorem splitOn_app (c : UInt8) : ∀ (x t : List UInt8), c ∉ x → splitOn c (x ++ c :: t) = x :: splitOn c t
 | [], t, _ => by
  show splitOn c (c :: t) = _
  conv => lhs; unfold splitOn
  rw [if_pos rfl]
 | b :: x, t, h => by
  have h1 : b ≠ c := fun e => h (by simp [e])
  have ih := splitOn_app c x t (fun e => h (List.mem_cons_of_mem _ e))
  rw [List.cons_append, splitOn, if_neg h1, ih]
theorem splitOn_plain (c : UInt8) (x : List UInt8) (h : c ∉ x) : splitOn c x = [x] := splitOn_miss (idx_none h)
theorem split_join (c : UInt8) : ∀ (ws : List (List UInt8)), ws ≠ [] → (∀ x ∈ ws, c ∉ x) → splitOn c (Lib.join ws [c]) = ws
 | [], h, _ => absurd rfl h
 | [x], _, h => by rw [Lib.join_one, splitOn_plain c x (h x (List.mem_cons_self ..))]
 | x :: y :: r, _, h => by
  have e : Lib.join (x :: y :: r) [c] = x ++ c :: Lib.join (y :: r) [c] := by
   rw [Lib.join_cons, Lib.join_cons]
   simp [Lib.joinTail]
  rw [e, splitOn_app c x _ (h x (List.mem_cons_self ..)), split_join c (y :: r) (by simp) (fun z hz => h z (List.mem_cons_of_mem _ hz))]
theorem words_join (ws : List (List UInt8)) (h : ∀ x ∈ ws, (32 : UInt8) ∉ x ∧ x ≠ []) : wordsL (Lib.join ws [32]) = ws := by
 by_cases hn : ws = []
 · subst hn; rfl
 unfold wordsL
 rw [split_join 32 ws hn (fun x hx => (h x hx).1), List.filter_eq_self]
 intro x hx
 have := (h x hx).2
 cases x with
 | nil => exact absurd rfl this
 | cons a x => rfl
theorem join_notin (c d : UInt8) (hcd : d ≠ c) : ∀ (ws : List (List UInt8)), (∀ x ∈ ws, d ∉ x) → d ∉ Lib.join ws [c]
 | [], _ => by simp [Lib.join_nil]
 | x :: r, h => by
  rw [Lib.join_cons]
  intro hd
  rcases List.mem_append.1 hd with hd | hd
  · exact h x (List.mem_cons_self ..) hd
  unfold Lib.joinTail at hd
  rw [List.mem_flatten] at hd
  obtain ⟨l, hl, hd⟩ := hd
  obtain ⟨y, hy, rfl⟩ := List.mem_map.1 hl
  rcases List.mem_append.1 hd with hd | hd
  · simp at hd; exact hcd hd
  exact h y (List.mem_cons_of_mem _ hy) hd
theorem data_inj {a b : List ByteArray} (h : a.map (·.data.toList) = b.map (·.data.toList)) : a = b := by
 induction a generalizing b with
 | nil => cases b with
  | nil => rfl
  | cons y b => simp at h
 | cons x a ih => cases b with
  | nil => simp at h
  | cons y b =>
   simp only [List.map_cons, List.cons.injEq] at h
   rw [ih h.2, ba_ext h.1]
end Go.Proofs.YtndbbgihpoiojaaGreatDoor.Q
namespace Go.Proofs.YtndbbgihpoiojaaGreatDoor.Q
open Go.RowKit
abbrev ba (l : List UInt8) : ByteArray := ⟨l.toArray⟩
theorem quote_ne (l : List UInt8) : sc.quoteL l ≠ [] := by rw [sc.quoteL_eq]; simp
theorem num_iff (s : ByteArray) (n : Int) : sc.numOf s = some n ↔ sc.InInt n ∧ s = itoaB n := by
 rw [sc.numOf_iff]
 exact ⟨fun h => ⟨h.1, ba_ext h.2⟩, fun h => ⟨h.1, by rw [h.2]; rfl⟩⟩
theorem lab_iff (s : ByteArray) (n : Nat) : sc.labelOf s = some n ↔ n ≤ 18446744073709551615 ∧ s = utoaB (n : Int) := by
 rw [sc.labelOf_iff]
 exact ⟨fun h => ⟨h.1, ba_ext h.2⟩, fun h => ⟨h.1, by rw [h.2]; rfl⟩⟩
theorem num_of {n : Int} (h : sc.InInt n) : sc.numOf (itoaB n) = some n := (num_iff _ _).2 ⟨h, rfl⟩
theorem unq_of (b : ByteArray) : sc.unquoteL (quoteB b).data.toList = some b.data.toList := sc.unquote_quote _
theorem splitOn_back (c : UInt8) : ∀ l, Lib.join (splitOn c l) [c] = l ∧ ∀ x ∈ splitOn c l, c ∉ x
 | [] => ⟨rfl, fun x hx => by simp [splitOn] at hx; simp [hx]⟩
 | b :: l => by
  obtain ⟨h1, h2⟩ := splitOn_back c l
  by_cases hb : b = c
  · subst hb
    have e : splitOn b (b :: l) = [] :: splitOn b l := by conv => lhs; unfold splitOn; rw [if_pos rfl]
    rw [e]
    constructor
    · cases hs : splitOn b l with
      | nil => exact absurd hs (splitOn_ne b l)
      | cons x r =>
       rw [hs] at h1
       rw [Lib.join_cons] at h1 ⊢
       show _ = b :: l
       rw [← h1]
       simp [Lib.joinTail]
    intro x hx
    rcases List.mem_cons.1 hx with rfl | hx
    · simp
    exact h2 x hx
  cases hs : splitOn c l with
  | nil => exact absurd hs (splitOn_ne c l)
  | cons x r =>
   have e : splitOn c (b :: l) = (b :: x) :: r := by conv => lhs; unfold splitOn; rw [if_neg hb, hs]
   rw [hs] at h1 h2
   rw [e]
   constructor
   · rw [Lib.join_cons] at h1 ⊢
     rw [List.cons_append, h1]
   intro y hy
   rcases List.mem_cons.1 hy with rfl | hy
   · have := h2 x (List.mem_cons_self ..)
     simp only [List.mem_cons, not_or]
     exact ⟨fun e => hb e.symm, this⟩
   exact h2 y (List.mem_cons_of_mem _ hy)
theorem fateW_data (f : S66) : (fateW f).data.toList = Lib.join [Lib.itoa f.f0, Lib.itoa f.f1, Lib.itoa f.f2] [44] := by
 unfold fateW itoaB
 simp only [ByteArray.data_append, Array.toList_append, Lib.join_cons, Lib.joinTail, List.map_cons, List.map_nil, List.flatten_cons, List.flatten_nil, List.append_nil, List.append_assoc]
theorem itoa_no44 (n : Int) : (44 : UInt8) ∉ Lib.itoa n := fun h => by
 have := sc.itoa_clean n 44 h
 revert this
 decide
theorem fate_iff (l : List UInt8) (f : S66) : fateOf l = some f ↔ FateOK f ∧ l = (fateW f).data.toList := by
 constructor
 · intro h
   unfold fateOf at h
   split at h
   · rename_i a b c hs
     split at h
     · rename_i x y z hx hy hz
       split at h
       · rename_i hr
         cases h
         obtain ⟨ix, ex⟩ := (num_iff _ _).1 hx
         obtain ⟨iy, ey⟩ := (num_iff _ _).1 hy
         obtain ⟨iz, ez⟩ := (num_iff _ _).1 hz
         refine ⟨⟨ix, iy, hr.1, hr.2⟩, ?_⟩
         have hb := (splitOn_back 44 l).1
         rw [hs] at hb
         rw [fateW_data, ← hb]
         have e1 : a = Lib.itoa x := congrArg (·.data.toList) ex
         have e2 : b = Lib.itoa y := congrArg (·.data.toList) ey
         have e3 : c = Lib.itoa z := congrArg (·.data.toList) ez
         rw [e1, e2, e3]
       cases h
     cases h
   cases h
 rintro ⟨⟨h0, h1, h2, h3⟩, rfl⟩
 have hs : splitOn 44 (fateW f).data.toList = [Lib.itoa f.f0, Lib.itoa f.f1, Lib.itoa f.f2] := by
  rw [fateW_data]
  refine split_join 44 _ (by simp) (fun x hx => ?_)
  simp only [List.mem_cons, List.not_mem_nil, or_false] at hx
  rcases hx with rfl | rfl | rfl <;> exact itoa_no44 _
 unfold fateOf
 rw [hs]
 have e0 : numL (Lib.itoa f.f0) = some f.f0 := num_of h0
 have e1 : numL (Lib.itoa f.f1) = some f.f1 := num_of h1
 have e2 : numL (Lib.itoa f.f2) = some f.f2 := num_of ⟨by omega, by omega⟩
 simp only [e0, e1, e2]
 rw [if_pos ⟨h2, h3⟩]
theorem fateW_long (f : S66) : 2 ≤ (fateW f).data.toList.length := by
 rw [fateW_data]
 simp only [Lib.join_cons, Lib.joinTail, List.map_cons, List.map_nil, List.flatten_cons, List.flatten_nil, List.length_append, List.length_cons, List.length_nil]
 omega
def FatesOK (st : List (List S66)) : Prop := ∀ l ∈ st, ∀ f ∈ l, FateOK f
theorem go_fates : ∀ (fs : List S66) (i : List (List S66)) (x : List S66) (l : List ByteArray), (∀ f ∈ fs, FateOK f) → strikesGo (i ++ [x]) (fs.map fateW ++ l) = strikesGo (i ++ [x ++ fs]) l
 | [], i, x, l, _ => by simp
 | f :: fs, i, x, l, h => by
  have h1 : ¬ (fateW f).data.toList = [47] := fun e => by have := fateW_long f; rw [e] at this; simp at this
  rw [List.map_cons, List.cons_append, strikesGo, if_neg h1, (fate_iff _ f).2 ⟨h f (List.mem_cons_self ..), rfl⟩]
  simp only
  rw [if_neg (by simp)]
  have e : (i ++ [x]).set ((i ++ [x]).length - 1) ((i ++ [x]).getD ((i ++ [x]).length - 1) [] ++ [f]) = i ++ [x ++ [f]] := by simp
  rw [e, go_fates fs i (x ++ [f]) l (fun y hy => h y (List.mem_cons_of_mem _ hy))]
  simp
theorem go_strikes : ∀ (st acc : List (List S66)), FatesOK st → strikesGo acc (st.flatMap strikeW) = some (acc ++ st)
 | [], acc, _ => by simp [strikesGo]
 | r :: st, acc, h => by
  rw [List.flatMap_cons]
  show strikesGo acc (⟨#[47]⟩ :: (r.map fateW ++ st.flatMap strikeW)) = _
  rw [strikesGo, if_pos rfl, go_fates r acc [] _ (h r (List.mem_cons_self ..)), go_strikes st _ (fun l hl => h l (List.mem_cons_of_mem _ hl))]
  simp
theorem nof : ∀ f ∈ ([] : List S66), FateOK f := fun f hf => by cases hf
theorem nost : FatesOK [] := fun l hl => by cases hl
theorem go_inv : ∀ (ws : List ByteArray), (∀ st, strikesGo [] ws = some st → FatesOK st ∧ ws = st.flatMap strikeW) ∧
 (∀ i x st, strikesGo (i ++ [x]) ws = some st → ∃ fs rest, (∀ f ∈ fs, FateOK f) ∧ FatesOK rest ∧ ws = fs.map fateW ++ rest.flatMap strikeW ∧ st = i ++ [x ++ fs] ++ rest)
 | [] => ⟨fun st h => by cases h; exact ⟨nost, rfl⟩, fun i x st h => by
  cases h
  exact ⟨[], [], nof, nost, rfl, by simp⟩⟩
 | w :: ws => by
  obtain ⟨ih1, ih2⟩ := go_inv ws
  refine ⟨fun st h => ?_, fun i x st h => ?_⟩
  · rw [strikesGo] at h
    split at h
    · rename_i hw
      obtain ⟨fs, rest, h1, h2, h3, h4⟩ := ih2 [] [] st h
      have : st = fs :: rest := by rw [h4]; simp
      subst this
      refine ⟨fun l hl => ?_, ?_⟩
      · rcases List.mem_cons.1 hl with rfl | hl
        · exact h1
        exact h2 l hl
      rw [h3, List.flatMap_cons]
      show w :: _ = ⟨#[47]⟩ :: (fs.map fateW ++ rest.flatMap strikeW)
      rw [show w = ⟨#[47]⟩ from ba_ext hw]
    split at h
    · cases h
    rw [if_pos rfl] at h; cases h
  rw [strikesGo] at h
  split at h
  · rename_i hw
    obtain ⟨fs, rest, h1, h2, h3, h4⟩ := ih2 (i ++ [x]) [] st h
    refine ⟨[], fs :: rest, nof, fun l hl => ?_, ?_, by rw [h4]; simp⟩
    · rcases List.mem_cons.1 hl with rfl | hl
      · exact h1
      exact h2 l hl
    rw [h3, List.flatMap_cons]
    show w :: _ = ⟨#[47]⟩ :: (fs.map fateW ++ rest.flatMap strikeW)
    rw [show w = ⟨#[47]⟩ from ba_ext hw]
  split at h
  · cases h
  rename_i f hf
  rw [if_neg (by simp)] at h
  have e : (i ++ [x]).set ((i ++ [x]).length - 1) ((i ++ [x]).getD ((i ++ [x]).length - 1) [] ++ [f]) = i ++ [x ++ [f]] := by simp
  rw [e] at h
  obtain ⟨fs, rest, h1, h2, h3, h4⟩ := ih2 i (x ++ [f]) st h
  obtain ⟨hf1, hf2⟩ := (fate_iff _ f).1 hf
  refine ⟨f :: fs, rest, fun g hg => ?_, h2, ?_, by rw [h4]; simp⟩
  · rcases List.mem_cons.1 hg with rfl | hg
    · exact hf1
    exact h1 g hg
  rw [h3, List.map_cons, List.cons_append, ba_ext hf2]
theorem strikes_iff (ws : List ByteArray) (st : List (List S66)) : strikesOf ws = some st ↔ FatesOK st ∧ ws = st.flatMap strikeW :=
 ⟨fun h => (go_inv ws).1 st h, fun ⟨h1, h2⟩ => (by rw [h2]; exact go_strikes st [] h1)⟩
inductive Item where
 | lab (x : Int)
 | acc (a : S70)
 | ses (x : Int)
 | ev (x : S52)
def labelK : ByteArray := ⟨#[108, 97, 98, 101, 108]⟩
def accK : ByteArray := ⟨#[97, 99, 99, 111, 117, 110, 116]⟩
def sesK : ByteArray := ⟨#[115, 101, 115, 115, 105, 111, 110]⟩
def itemW : Item → List ByteArray
 | .lab x => [labelK, utoaB x]
 | .acc a => [accK, itoaB a.f0, itoaB a.f1, itoaB a.f2, itoaB a.f3, itoaB a.f4]
 | .ses x => [sesK, itoaB x]
 | .ev x => evWords x
def addI (s : Stt) : Item → Stt
 | .lab x => (s.1 ++ [x], s.2.1, s.2.2.1, s.2.2.2)
 | .acc a => (s.1, s.2.1 ++ [a], s.2.2.1, s.2.2.2)
 | .ses x => (s.1, s.2.1, s.2.2.1 ++ [x], s.2.2.2)
 | .ev x => addEv s x
def EvRg (x : S52) : Prop := sc.InInt x.f1 ∧ sc.InInt x.f2.f1.f0 ∧ sc.InInt x.f2.f1.f1 ∧ sc.InInt x.f2.f2 ∧ sc.InInt x.f2.f6 ∧ sc.InInt x.f3 ∧ (∀ v ∈ x.f2.f5, 0 ≤ v ∧ v ≤ 255) ∧ FatesOK x.f4
def ItemOK : Item → Prop
 | .lab x => 0 ≤ x ∧ x < 18446744073709551616
 | .acc a => AccOK a
 | .ses x => sc.InInt x
 | .ev x => EvRg x ∧ mayB x = true
abbrev kB : ByteArray := ⟨#[98, 101, 103, 105, 110]⟩
abbrev kG : ByteArray := ⟨#[103, 101, 116]⟩
abbrev kS : ByteArray := ⟨#[115, 99, 97, 110]⟩
abbrev kP : ByteArray := ⟨#[112, 117, 116]⟩
abbrev kD : ByteArray := ⟨#[100, 101, 108, 101, 116, 101]⟩
abbrev kC : ByteArray := ⟨#[99, 111, 109, 109, 105, 116]⟩
abbrev kA : ByteArray := ⟨#[97, 98, 111, 114, 116]⟩
abbrev askK : ByteArray := ⟨#[97, 115, 107]⟩
theorem ev_words (k p : Int) (st : List (List S66)) (hk : k ≠ 1) : evWords (evAt k p st) = evHead k p ++ st.flatMap strikeW := by
 unfold evWords evAt; rw [if_neg hk]
end Go.Proofs.YtndbbgihpoiojaaGreatDoor.Q
namespace Go.Proofs.YtndbbgihpoiojaaGreatDoor.Q
open Go.RowKit Go.Proofs.YtndbbgihpoiojaaGreatDoorW.PrintWords Go.Proofs.YtndbbgihpoiojaaGreatDoorW.PrintLast
theorem say_ask {a k : ByteArray} {t : List ByteArray} {n : Int} {more : Bool} {rd : Rd} {s s' : Stt} (hsel : askOf k = some (n, more, rd)) (hl : ¬ (((t.length + 2 : Nat) : Int) < n ∨ ((t.length + 2 : Nat) : Int) > n ∧ more = false)) (hr : rd (a :: k :: t) s = some s') : lineOf (askK :: a :: k :: t) s = (0, some s') := by
 unfold lineOf
 rw [if_pos ⟨rfl, by simp only [List.length_cons]; omega⟩]
 rw [show askOf ((askK :: a :: k :: t).getD 2 ⟨#[]⟩) = some (n, more, rd) from hsel]
 refine (if_neg hl).trans ?_
 rw [show rd (askK :: a :: k :: t).tail s = some s' from hr]
theorem say_form {h0 : ByteArray} {t : List ByteArray} {n : Int} {more : Bool} {rd : Rd} {s s' : Stt} (hne : h0 ≠ askK) (hsel : formOf h0 = some (n, more, rd)) (hl : ¬ ((t.length : Int) < n ∨ (t.length : Int) > n ∧ more = false)) (hr : rd t s = some s') : lineOf (h0 :: t) s = (0, some s') := by
 unfold lineOf
 rw [if_neg (fun h => hne h.1)]
 rw [show formOf (hd0 (h0 :: t)) = some (n, more, rd) from hsel]
 refine (if_neg hl).trans ?_
 rw [show rd (h0 :: t).tail s = some s' from hr]
theorem alike_z {a : S49} (h : alikeB a z49 = true) : a = z49 := by
 have h := of_decide_eq_true h
 obtain ⟨h0, ⟨h1, h2⟩, h3, h4, h5, h6, h7⟩ := h
 obtain ⟨a0, ⟨a1, a2⟩, a3, a4, a5, a6, a7⟩ := a
 simp only at h0 h1 h2 h3 h4 h5 h6 h7
 subst h0 h1 h2 h3 h4 h5 h6
 obtain rfl : a6 = [] := List.eq_nil_of_length_eq_zero h7
 rfl
theorem may_cases {x : S52} (h : mayB x = true) : (∃ k n l m p key to_ v lim, x = askEv n k l m p key to_ v lim ∧ 1 ≤ k ∧ k ≤ 7 ∧ alikeB ⟨k, ⟨l, m⟩, p, key, to_, v, lim⟩ (counted ⟨k, ⟨l, m⟩, p, key, to_, v, lim⟩) = true) ∨
 (∃ k p st, x = evAt k p st ∧ (k = 2 ∨ k = 3 ∨ k = 4 ∨ k = 5) ∧ (p = 0 ∨ k = 3 ∨ k = 4)) := by
 obtain ⟨f0, f1, f2, f3, f4⟩ := x
 unfold mayB at h
 split at h
 · rename_i e
   simp only at e
   subst e
   simp only [Bool.and_eq_true, decide_eq_true_eq] at h
   obtain ⟨⟨⟨⟨h1, h2⟩, h3⟩, h4⟩, h5⟩ := h
   obtain ⟨k, ⟨l, m⟩, p, key, to_, v, lim⟩ := f2
   subst h3
   obtain rfl : f4 = [] := List.eq_nil_of_length_eq_zero h4
   exact .inl ⟨k, f1, l, m, p, key, to_, v, lim, rfl, h1, h2, h5⟩
 rename_i e
 simp only at e
 simp only [Bool.and_eq_true, decide_eq_true_eq] at h
 obtain ⟨⟨⟨⟨h1, h2⟩, h3⟩, h4⟩, h5⟩ := h
 obtain rfl := alike_z h4
 subst h3
 exact .inr ⟨f0, f3, f4, rfl, by omega, h5⟩
theorem nums8_back : ∀ (v : List Int), (∀ x ∈ v, 0 ≤ x ∧ x ≤ 255) → nums8 (strOfNums v).data.toList = v
 | [], _ => rfl
 | x :: v, h => by
  have h0 := h x (List.mem_cons_self ..)
  have ih := nums8_back v (fun y hy => h y (List.mem_cons_of_mem _ hy))
  have e : (strOfNums (x :: v)).data.toList = x.toNat.toUInt8 :: (strOfNums v).data.toList := by
   unfold strOfNums
   simp
  rw [e]
  show ((x.toNat.toUInt8).toNat : Int) :: nums8 _ = _
  rw [ih]
  congr 1
  show ((x.toNat % 2 ^ 8 : Nat) : Int) = x
  omega
theorem numb {n : Int} (h : sc.InInt n) : sc.numOf (itoaB n) = some n := num_of h
theorem line_say {it : Item} (h : ItemOK it) (s : Stt) : lineOf (itemW it) s = (0, some (addI s it)) := by
 cases it with
 | lab x =>
  obtain ⟨h0, h1⟩ := h
  refine say_form (rd := rdLabel) (n := 1) (more := false) (by decide) rfl (by simp) ?_
  show (sc.labelOf (utoaB x)).map _ = _
  have e : sc.labelOf (utoaB x) = some x.toNat := (lab_iff _ _).2 ⟨by omega, by rw [show ((x.toNat : Nat) : Int) = x by omega]⟩
  rw [e]
  show some ((s.1 ++ [((x.toNat : Nat) : Int)], _) : Stt) = _
  rw [show ((x.toNat : Nat) : Int) = x by omega]
  rfl
 | acc a =>
  obtain ⟨h0, h1, h2, h3, h4⟩ := h
  refine say_form (rd := rdAccount) (n := 5) (more := false) (by decide) rfl (by simp) ?_
  show (accOf _ _ _ _ _).map _ = _
  unfold accOf
  rw [numb h0, numb h1, numb h2, numb h3, numb h4]
  rfl
 | ses x =>
  refine say_form (rd := rdSession) (n := 1) (more := false) (by decide) rfl (by simp) ?_
  show (sc.numOf (itoaB x)).map _ = _
  rw [numb h]
  rfl
 | ev x =>
  obtain ⟨⟨R1, R2, R3, R4, R5, R6, R7, R8⟩, hm⟩ := h
  rcases may_cases hm with ⟨k, n, l, m, p, key, to_, v, lim, rfl, h1, h7, ha⟩ | ⟨k, p, st, rfl, hk, hp⟩
  · have r1 : sc.InInt n := R1
    have r2 : sc.InInt l := R2
    have r3 : sc.InInt m := R3
    have r4 : sc.InInt p := R4
    have r5 : sc.InInt lim := R5
    have r7 : ∀ x ∈ v, 0 ≤ x ∧ x ≤ 255 := R7
    have hv := nums8_back v r7
    have ha := of_decide_eq_true ha
    have hk : k = 1 ∨ k = 2 ∨ k = 3 ∨ k = 4 ∨ k = 5 ∨ k = 6 ∨ k = 7 := by omega
    rcases hk with rfl | rfl | rfl | rfl | rfl | rfl | rfl
    · obtain ⟨_, ⟨q1, q2⟩, q3, q4, q5, q6, q7⟩ := ha
      have e1 : l = 0 := q1
      have e2 : m = 0 := q2
      have e3 : p = 0 := q3
      have e4 : key = ⟨#[]⟩ := q4
      have e5 : to_ = ⟨#[]⟩ := q5
      have e6 : lim = 0 := q6
      have e7 : v.length = 0 := q7
      subst e1 e2 e3 e4 e5 e6
      obtain rfl : v = [] := List.eq_nil_of_length_eq_zero e7
      refine say_ask (rd := rdAsk) (n := 2) (more := false) (a := itoaB n) (k := kB) (t := []) rfl (by simp only [List.length_cons, List.length_nil]; decide) ?_
      show ((sc.numOf (itoaB n)).map _).map _ = _
      rw [numb r1]
      rfl
    · obtain ⟨_, _, _, _, q5, q6, q7⟩ := ha
      have e5 : to_ = ⟨#[]⟩ := q5
      have e6 : lim = 0 := q6
      have e7 : v.length = 0 := q7
      subst e5 e6
      obtain rfl : v = [] := List.eq_nil_of_length_eq_zero e7
      refine say_ask (rd := rdGet 2) (n := 6) (more := false) (a := itoaB n) (k := kG) (t := [itoaB l, itoaB m, itoaB p, quoteB key]) rfl (by simp only [List.length_cons, List.length_nil]; decide) ?_
      show (askGet 2 (itoaB n) (itoaB l) (itoaB m) (itoaB p) (quoteB key)).map _ = _
      unfold askGet
      rw [numb r1, numb r2, numb r3, numb r4, unq_of]
      simp only [Option.bind_some, Option.map_some]
      rw [ba_eta]
      rfl
    · obtain ⟨_, _, _, _, _, _, q7⟩ := ha
      have e7 : v.length = 0 := q7
      obtain rfl : v = [] := List.eq_nil_of_length_eq_zero e7
      refine say_ask (rd := rdScan 3) (n := 8) (more := false) (a := itoaB n) (k := kS) (t := [itoaB l, itoaB m, itoaB p, quoteB key, quoteB to_, itoaB lim]) rfl (by simp only [List.length_cons, List.length_nil]; decide) ?_
      show (askScan 3 (itoaB n) (itoaB l) (itoaB m) (itoaB p) (quoteB key) (quoteB to_) (itoaB lim)).map _ = _
      unfold askScan
      rw [numb r1, numb r2, numb r3, numb r4, unq_of, unq_of, numb r5]
      simp only [Option.bind_some, Option.map_some]
      rw [ba_eta, ba_eta]
      rfl
    · obtain ⟨_, _, _, _, q5, q6, _⟩ := ha
      have e5 : to_ = ⟨#[]⟩ := q5
      have e6 : lim = 0 := q6
      subst e5 e6
      refine say_ask (rd := rdPut 4) (n := 7) (more := false) (a := itoaB n) (k := kP) (t := [itoaB l, itoaB m, itoaB p, quoteB key, quoteB (strOfNums v)]) rfl (by simp only [List.length_cons, List.length_nil]; decide) ?_
      show (askPut 4 (itoaB n) (itoaB l) (itoaB m) (itoaB p) (quoteB key) (quoteB (strOfNums v))).map _ = _
      unfold askPut
      rw [numb r1, numb r2, numb r3, numb r4, unq_of, unq_of]
      simp only [Option.bind_some, Option.map_some]
      rw [ba_eta, hv]
      rfl
    · obtain ⟨_, _, _, _, q5, q6, q7⟩ := ha
      have e5 : to_ = ⟨#[]⟩ := q5
      have e6 : lim = 0 := q6
      have e7 : v.length = 0 := q7
      subst e5 e6
      obtain rfl : v = [] := List.eq_nil_of_length_eq_zero e7
      refine say_ask (rd := rdGet 5) (n := 6) (more := false) (a := itoaB n) (k := kD) (t := [itoaB l, itoaB m, itoaB p, quoteB key]) rfl (by simp only [List.length_cons, List.length_nil]; decide) ?_
      show (askGet 5 (itoaB n) (itoaB l) (itoaB m) (itoaB p) (quoteB key)).map _ = _
      unfold askGet
      rw [numb r1, numb r2, numb r3, numb r4, unq_of]
      simp only [Option.bind_some, Option.map_some]
      rw [ba_eta]
      rfl
    all_goals
     obtain ⟨_, _, q3, q4, q5, q6, q7⟩ := ha
     have e3 : p = 0 := q3
     have e4 : key = ⟨#[]⟩ := q4
     have e5 : to_ = ⟨#[]⟩ := q5
     have e6 : lim = 0 := q6
     have e7 : v.length = 0 := q7
     subst e3 e4 e5 e6
     obtain rfl : v = [] := List.eq_nil_of_length_eq_zero e7
    · refine say_ask (rd := rdAskB 6) (n := 4) (more := false) (a := itoaB n) (k := kC) (t := [itoaB l, itoaB m]) rfl (by simp only [List.length_cons, List.length_nil]; decide) ?_
      show (askB 6 (itoaB n) (itoaB l) (itoaB m)).map _ = _
      unfold askB
      rw [numb r1, numb r2, numb r3]
      rfl
    refine say_ask (rd := rdAskB 7) (n := 4) (more := false) (a := itoaB n) (k := kA) (t := [itoaB l, itoaB m]) rfl (by simp only [List.length_cons, List.length_nil]; decide) ?_
    show (askB 7 (itoaB n) (itoaB l) (itoaB m)).map _ = _
    unfold askB
    rw [numb r1, numb r2, numb r3]
    rfl
  have r6 : sc.InInt p := R6
  have r8 : FatesOK st := R8
  have hst : strikesOf (st.flatMap strikeW) = some st := (strikes_iff _ _).2 ⟨r8, rfl⟩
  have hk1 : k ≠ 1 := by omega
  show lineOf (evWords (evAt k p st)) s = _
  rw [ev_words k p st hk1]
  rcases hk with rfl | rfl | rfl | rfl
  · obtain rfl : p = 0 := by omega
    refine say_form (rd := rdEvent 2 false) (n := 0) (more := true) (by decide) rfl (by simp) ?_
    show ((strikesOf (st.flatMap strikeW)).map (evAt 2 0)).map _ = _
    rw [hst]; rfl
  · refine say_form (rd := rdEvent 3 true) (n := 1) (more := true) (t := itoaB p :: st.flatMap strikeW) (by decide) rfl (fun h => h.elim (fun h => by rw [List.length_cons] at h; omega) (fun h => absurd h.2 (by decide))) ?_
    show (evOf 3 true (itoaB p :: st.flatMap strikeW)).map _ = _
    unfold evOf
    rw [if_pos rfl]
    simp only
    rw [numb r6, hst]; rfl
  · refine say_form (rd := rdEvent 4 true) (n := 1) (more := true) (t := itoaB p :: st.flatMap strikeW) (by decide) rfl (fun h => h.elim (fun h => by rw [List.length_cons] at h; omega) (fun h => absurd h.2 (by decide))) ?_
    show (evOf 4 true (itoaB p :: st.flatMap strikeW)).map _ = _
    unfold evOf
    rw [if_pos rfl]
    simp only
    rw [numb r6, hst]; rfl
  obtain rfl : p = 0 := by omega
  refine say_form (rd := rdEvent 5 false) (n := 0) (more := true) (by decide) rfl (by simp) ?_
  show ((strikesOf (st.flatMap strikeW)).map (evAt 5 0)).map _ = _
  rw [hst]; rfl
end Go.Proofs.YtndbbgihpoiojaaGreatDoor.Q
namespace Go.Proofs.YtndbbgihpoiojaaGreatDoor.Q
open Go.RowKit
abbrev sp1 : ByteArray := ⟨#[32]⟩
abbrev nl1 : ByteArray := ⟨#[10]⟩
def itemT (it : Item) : ByteArray := joinB (itemW it) sp1
def Word (x : ByteArray) : Prop := x.data.toList ≠ [] ∧ ∀ b ∈ x.data.toList, 32 < b.toNat
theorem word_lit {l : List UInt8} (h : l ≠ [] ∧ l.all (fun b => decide (32 < b.toNat)) = true) : Word (ba l) := ⟨h.1, fun b hb => by simpa using List.all_eq_true.1 h.2 b hb⟩
theorem word_itoa (n : Int) : Word (itoaB n) := ⟨sc.itoa_ne n, fun b hb => by have := sc.itoa_clean n b hb; omega⟩
theorem word_utoa (n : Int) : Word (utoaB n) := ⟨sc.dec_ne _, fun b hb => by have := sc.dec_dig n.toNat b hb; omega⟩
theorem word_quote (s : ByteArray) : Word (quoteB s) := ⟨quote_ne _, fun b hb => (sc.quote_clean _ b hb).1⟩
theorem word_fate (f : S66) : Word (fateW f) := by
 refine ⟨fun e => ?_, fun b hb => ?_⟩
 · have := fateW_long f; rw [e] at this; simp at this
 rw [fateW_data] at hb
 simp only [Lib.join_cons, Lib.joinTail, List.map_cons, List.map_nil, List.flatten_cons, List.flatten_nil, List.append_nil, List.mem_append, List.mem_cons, List.not_mem_nil, or_false] at hb
 rcases hb with hb | (rfl | hb) | (rfl | hb)
 · have := sc.itoa_clean _ b hb; omega
 · decide
 · have := sc.itoa_clean _ b hb; omega
 · decide
 have := sc.itoa_clean _ b hb; omega
theorem words_strikes (st : List (List S66)) : ∀ x ∈ st.flatMap strikeW, Word x := by
 intro x hx
 obtain ⟨l, hl, hx⟩ := List.mem_flatMap.1 hx
 unfold strikeW at hx
 rcases List.mem_cons.1 hx with rfl | hx
 · exact word_lit (l := [47]) (by decide)
 obtain ⟨f, _, rfl⟩ := List.mem_map.1 hx
 exact word_fate f
theorem all_cons {P : ByteArray → Prop} {a : ByteArray} {l : List ByteArray} (h : P a) (hl : ∀ x ∈ l, P x) : ∀ x ∈ a :: l, P x := fun x hx => by
 rcases List.mem_cons.1 hx with rfl | hx
 · exact h
 exact hl x hx
theorem all_nil {P : ByteArray → Prop} : ∀ x ∈ ([] : List ByteArray), P x := fun x hx => by cases hx
theorem all_app {P : ByteArray → Prop} {a b : List ByteArray} (h : ∀ x ∈ a, P x) (hl : ∀ x ∈ b, P x) : ∀ x ∈ a ++ b, P x := fun x hx => (List.mem_append.1 hx).elim (h x) (hl x)
theorem item_words {it : Item} (h : ItemOK it) : (∀ x ∈ itemW it, Word x) ∧ skips (itemW it) = false := by
 cases it with
 | lab x => exact ⟨all_cons (word_lit (by decide)) (all_cons (word_utoa x) all_nil), rfl⟩
 | acc a => exact ⟨all_cons (word_lit (by decide)) (all_cons (word_itoa _) (all_cons (word_itoa _) (all_cons (word_itoa _) (all_cons (word_itoa _) (all_cons (word_itoa _) all_nil))))), rfl⟩
 | ses x => exact ⟨all_cons (word_lit (by decide)) (all_cons (word_itoa x) all_nil), rfl⟩
 | ev x =>
  rcases may_cases h.2 with ⟨k, n, l, m, p, key, to_, v, lim, rfl, h1, h7, ha⟩ | ⟨k, p, st, rfl, hk, hp⟩
  · refine ⟨?_, rfl⟩
    have hkd : Word (kindL.getD k.toNat ⟨#[]⟩) := by
     have hk : k = 1 ∨ k = 2 ∨ k = 3 ∨ k = 4 ∨ k = 5 ∨ k = 6 ∨ k = 7 := by omega
     rcases hk with rfl | rfl | rfl | rfl | rfl | rfl | rfl <;> exact word_lit (by decide)
    show ∀ x ∈ askWords k n l m p key to_ v lim, Word x
    unfold askWords
    refine all_app (all_app (all_app (all_cons (word_lit (by decide)) (all_cons (word_itoa _) (all_cons hkd all_nil))) ?_) ?_) ?_
    · split
      · exact all_cons (word_itoa _) (all_cons (word_itoa _) all_nil)
      exact all_nil
    · split
      · exact all_cons (word_itoa _) (all_cons (word_quote _) all_nil)
      exact all_nil
    split
    · exact all_cons (word_quote _) (all_cons (word_itoa _) all_nil)
    split
    · exact all_cons (word_quote _) all_nil
    exact all_nil
  have hk1 : k ≠ 1 := by omega
  show (∀ x ∈ evWords (evAt k p st), Word x) ∧ skips (evWords (evAt k p st)) = false
  rw [ev_words k p st hk1]
  rcases hk with rfl | rfl | rfl | rfl
  · exact ⟨all_app (all_cons (word_lit (by decide)) all_nil) (words_strikes st), rfl⟩
  · exact ⟨all_app (all_cons (word_lit (by decide)) (all_cons (word_itoa _) all_nil)) (words_strikes st), rfl⟩
  · exact ⟨all_app (all_cons (word_lit (by decide)) (all_cons (word_itoa _) all_nil)) (words_strikes st), rfl⟩
  exact ⟨all_app (all_cons (word_lit (by decide)) all_nil) (words_strikes st), rfl⟩
theorem joinB_data (ws : List ByteArray) (c : UInt8) : (joinB ws ⟨#[c]⟩).data.toList = Lib.join (ws.map (·.data.toList)) [c] := rfl
theorem wordsS_of {ws : List ByteArray} (h : ∀ x ∈ ws, Word x) : wordsS (joinB ws sp1) = ws := by
 apply data_inj
 rw [wordsS_data, joinB_data, words_join]
 intro x hx
 obtain ⟨y, hy, rfl⟩ := List.mem_map.1 hx
 exact ⟨fun e => by have := (h y hy).2 32 e; revert this; decide, (h y hy).1⟩
theorem item_line {it : Item} (h : ItemOK it) : wordsS (itemT it) = itemW it := wordsS_of (item_words h).1
theorem item_no10 {it : Item} (h : ItemOK it) : (10 : UInt8) ∉ (itemT it).data.toList := by
 unfold itemT
 rw [joinB_data]
 refine join_notin 32 10 (by decide) _ (fun x hx => ?_)
 obtain ⟨y, hy, rfl⟩ := List.mem_map.1 hx
 exact fun e => by have := ((item_words h).1 y hy).2 10 e; revert this; decide
theorem parse_items : ∀ (its : List Item) (i : Nat) (s : Stt), (∀ it ∈ its, ItemOK it) → parseL i (its.map itemT) s = ((0, 0), some (its.foldl addI s))
 | [], _, _, _ => rfl
 | it :: its, i, s, h => by
  have h0 := h it (List.mem_cons_self ..)
  rw [List.map_cons, parseL, item_line h0, (item_words h0).2, if_neg Bool.false_ne_true, line_say h0]
  exact parse_items its (i + 1) (addI s it) (fun x hx => h x (List.mem_cons_of_mem _ hx))
def itemsOf (s : Stt) : List Item := s.1.map .lab ++ s.2.1.map .acc ++ s.2.2.1.map .ses ++ s.2.2.2.map .ev
theorem linesP_items (s : Stt) : linesP s = (itemsOf s).map itemT := by
 unfold linesP itemsOf
 simp only [List.map_append, List.map_map]
 rfl
theorem fold_lab : ∀ (l : List Int) (s : Stt), (l.map Item.lab).foldl addI s = (s.1 ++ l, s.2.1, s.2.2.1, s.2.2.2)
 | [], s => by simp
 | x :: l, s => by rw [List.map_cons, List.foldl_cons, fold_lab l]; simp [addI]
theorem fold_acc : ∀ (l : List S70) (s : Stt), (l.map Item.acc).foldl addI s = (s.1, s.2.1 ++ l, s.2.2.1, s.2.2.2)
 | [], s => by simp
 | x :: l, s => by rw [List.map_cons, List.foldl_cons, fold_acc l]; simp [addI]
theorem fold_ses : ∀ (l : List Int) (s : Stt), (l.map Item.ses).foldl addI s = (s.1, s.2.1, s.2.2.1 ++ l, s.2.2.2)
 | [], s => by simp
 | x :: l, s => by rw [List.map_cons, List.foldl_cons, fold_ses l]; simp [addI]
theorem fold_ev : ∀ (l : List S52) (s : Stt), (l.map Item.ev).foldl addI s = (s.1, s.2.1, s.2.2.1, s.2.2.2 ++ l)
 | [], s => by simp
 | x :: l, s => by rw [List.map_cons, List.foldl_cons, fold_ev l]; simp [addI, addEv]
theorem fold_items (s : Stt) : (itemsOf s).foldl addI S0_ = s := by
 unfold itemsOf
 rw [List.foldl_append, List.foldl_append, List.foldl_append, fold_lab, fold_acc, fold_ses, fold_ev]
 simp
def SttOK (s : Stt) : Prop := ∀ it ∈ itemsOf s, ItemOK it
theorem chop_app (ls : List (List UInt8)) : chop (ls ++ [[]]) = ls := by
 induction ls with
 | nil => rfl
 | cons x r ih => rw [List.cons_append, chop_cons _ _ (by simp), ih]
theorem lines_join (ls : List (List UInt8)) (h : ∀ x ∈ ls, (10 : UInt8) ∉ x) (hn : ls ≠ []) : linesL (Lib.join ls [10] ++ [10]) = ls := by
 have e : Lib.join ls [10] ++ [10] = Lib.join (ls ++ [[]]) [10] := by
  cases ls with
  | nil => exact absurd rfl hn
  | cons x r =>
   rw [List.cons_append, Lib.join_cons, Lib.join_cons]
   unfold Lib.joinTail
   simp
 unfold linesL
 rw [e, split_join 10 _ (by simp) (fun x hx => by
  rcases List.mem_append.1 hx with hx | hx
  · exact h x hx
  rw [List.mem_singleton.1 hx]; simp), chop_app]
theorem parse_print {s : Stt} (hs : SttOK s) {t : ByteArray} (h : printS s = (t, 0)) : parseS t = ((0, 0), some s) := by
 unfold printS at h
 split at h
 · split at h
   · rename_i h0
     cases h
     have e : itemsOf s = [] := by
      rw [linesP_items, List.length_map] at h0
      exact List.eq_nil_of_length_eq_zero h0
     have := fold_items s
     rw [e] at this
     rw [← this]
     rfl
   rename_i h0
   split at h
   · cases h
   rename_i h1
   have ht : joinB (linesP s) nl1 ++ nl1 = t := congrArg Prod.fst h
   have hl : linesT t = linesP s := by
    apply data_inj
    rw [linesT_data _ _ (Nat.le_refl _), ← ht, ByteArray.data_append, Array.toList_append, joinB_data]
    refine lines_join _ (fun x hx => ?_) (fun e => h0 (by rw [← List.length_map (f := fun x : ByteArray => x.data.toList), e]; rfl))
    obtain ⟨y, hy, rfl⟩ := List.mem_map.1 hx
    rw [linesP_items] at hy
    obtain ⟨it, hit, rfl⟩ := List.mem_map.1 hy
    exact item_no10 (hs it hit)
   have h1' : ¬ (65536 < t.size) ∧ ¬ (4096 < (linesP s).length) := by rw [ht] at h1; omega
   unfold parseS
   rw [if_neg h1'.1, hl, if_neg h1'.2, linesP_items, parse_items _ _ _ hs, fold_items]
 cases h
def jl (ws : List (List UInt8)) : Nat := (ws.map fun x => x.length + 1).sum
theorem jl_cons (x : List UInt8) (r : List (List UInt8)) : jl (x :: r) = x.length + 1 + jl r := by unfold jl; rw [List.map_cons, List.sum_cons]
theorem join_jl (c : UInt8) : ∀ (ws : List (List UInt8)), ws ≠ [] → (Lib.join ws [c]).length + 1 = jl ws
 | [], h => absurd rfl h
 | [x], _ => by rw [Lib.join_one, jl_cons]; simp [jl]
 | x :: y :: r, _ => by
  have ih := join_jl c (y :: r) (by simp)
  rw [Lib.join_cons] at ih ⊢
  rw [jl_cons, ← ih]
  unfold Lib.joinTail
  simp
  omega
end Go.Proofs.YtndbbgihpoiojaaGreatDoor.Q
namespace Go.Proofs.YtndbbgihpoiojaaGreatDoor.ev
open Go.RowKit Go.Lib
abbrev laidL : List (String × DataW Unit) := Rows.scriptQuotesRow.laid
theorem pow_eq : (Rows.laid_internal_strconv_uint64pow10 : DataW Unit) = tabData .u64 Lib.pow10Tab := by kernel_rfl
theorem acc_eq : (Rows.laid_unicode_utf8_acceptRanges : DataW Unit) = acceptData := by kernel_rfl
theorem first_eq : Rows.laid_unicode_utf8_first = firstData := Pinned.utf8First_eq
theorem nm0 : Tryz.prog.globalNamed "unicode/utf8.first" = some 0 := by kernel_rfl
theorem nm1 : Tryz.prog.globalNamed "unicode/utf8.acceptRanges" = some 1 := by kernel_rfl
theorem nm2 : Tryz.prog.globalNamed "internal/strconv.uint64pow10" = some 2 := by kernel_rfl
theorem nm6 : Tryz.prog.globalNamed "strconv.ErrSyntax" = some 6 := by kernel_rfl
theorem nm7 : Tryz.prog.globalNamed "strconv.ErrRange" = some 7 := by kernel_rfl
theorem ty2 : (Tryz.prog.globals[2]?).map (·.type) = some 163 := by kernel_rfl
theorem ty6 : (Tryz.prog.globals[6]?).map (·.type) = some 117 := by kernel_rfl
theorem ty7 : (Tryz.prog.globals[7]?).map (·.type) = some 117 := by kernel_rfl
theorem cells163 : Tryz.prog.cellsOf 163 = 20 := by kernel_rfl
theorem cellsU64 : Tryz.prog.cellsOf 67 = 1 := by kernel_rfl
theorem u8extra : U8Extra Tryz.prog Tryz.lays260_ren where
 n3 := nm0
 n4 := nm1
 y3 := by kernel_rfl
 y4 := by kernel_rfl
 c5 := by kernel_rfl
 c119 := by kernel_rfl
 c138 := by kernel_rfl
theorem iface_at {W : World} {n : String} {d : DataW Unit} {g : Nat} {nm : String} {d' : DataW Unit} (h : VarReads Tryz.prog W n d) (hd : d = .iface nm d') (hg : Tryz.prog.globalNamed n = some g) (ht : (Tryz.prog.globals[g]?).map (·.type) = some 117) : ∃ te pe, W.cell? ⟨g, 0, none⟩ = some (.iface te pe) := by
 subst hd
 obtain ⟨g', t, cs, fuel, p, hg', hty, hvar, hd⟩ := h
 obtain rfl := Option.some.inj (hg.symm.trans hg')
 obtain rfl := Option.some.inj (ht.symm.trans hty)
 obtain ⟨f1, u, v, hcs, _, _⟩ := iface_of_trod Tryz.underlying117 hd
 refine ⟨u, v, ?_⟩
 rw [World.var?_cell hg hvar 0, ← Array.getElem?_toList, hcs]
 rfl
theorem env_of {W : World} (hL : laidMet Tryz.prog laidL W) (hsh : W.ShapedOpen Tryz.prog) : sc.Env W where
 pow := by
  have h := Go.Lib.laidMet.reads hL (n := "internal/strconv.uint64pow10") (d := Rows.laid_internal_strconv_uint64pow10) (.tail _ (.tail _ (.head _)))
  rw [pow_eq] at h
  obtain ⟨g, t, cs, fuel, p, hg, hty, hvar, hd⟩ := h
  obtain rfl := Option.some.inj (nm2.symm.trans hg)
  obtain rfl := Option.some.inj (ty2.symm.trans hty)
  have hcs := cells_of_tab Tryz.underlying163 Tryz.underlying67 cellsU64 cells163 hd
  unfold TabIs
  rw [hvar, ← hcs]
 utf := by
  have h3 := Go.Lib.laidMet.reads hL (n := "unicode/utf8.first") (d := Rows.laid_unicode_utf8_first) (.tail _ (.tail _ (.tail _ (.tail _ (.tail _ (.tail _ (.head _)))))))
  have h4 := Go.Lib.laidMet.reads hL (n := "unicode/utf8.acceptRanges") (d := Rows.laid_unicode_utf8_acceptRanges) (.tail _ (.tail _ (.tail _ (.head _))))
  rw [first_eq] at h3
  rw [acc_eq] at h4
  exact utf8Tabs_of_readsT (U8Types.of260 Tryz.lays260) u8extra h3 h4
 max := Go.Proofs.cell_of_shapedOpen_int (zero := #[.int .i64 0]) (t := 3) hsh (of_decide_eq_true (by kernel_rfl)) (by kernel_rfl) rfl (by kernel_rfl) (by kernel_rfl) Tryz.underlying3
 syn := iface_at (Go.Lib.laidMet.reads hL (n := "strconv.ErrSyntax") (d := Rows.laid_strconv_ErrSyntax) (.tail _ (.tail _ (.tail _ (.tail _ (.tail _ (.head _))))))) rfl nm6 ty6
 rng := iface_at (Go.Lib.laidMet.reads hL (n := "strconv.ErrRange") (d := Rows.laid_strconv_ErrRange) (.tail _ (.tail _ (.tail _ (.tail _ (.head _)))))) rfl nm7 ty7
theorem own : ownKnob Tryz.prog.godebug = none := by kernel_rfl
abbrev synS : ByteArray := { data := #[105, 110, 118, 97, 108, 105, 100, 32, 115, 121, 110, 116, 97, 120] }
abbrev rngS : ByteArray := { data := #[118, 97, 108, 117, 101, 32, 111, 117, 116, 32, 111, 102, 32, 114, 97, 110, 103, 101] }
noncomputable def low : Nat := (World.holding Tryz.prog default ⟨#[], #[], []⟩).heap.size
def put (cs : Array Value) : Obj → Obj
 | .cells _ t frozen => .cells cs t frozen
 | o => o
def flat : DataW Unit → List Value
 | .agg l => l.flatMap fun d => match d with
  | .lit (.int k z) => [.int k z]
  | .agg m => m.flatMap fun d => match d with
   | .lit (.int k z) => [.int k z]
   | _ => []
  | _ => []
 | _ => []
noncomputable def laidWorld (os : Os) : World :=
 let w0 := World.holding Tryz.prog os ⟨#[.cells #[.string synS] 195, .cells #[.string rngS] 195], #[], []⟩
 { w0 with heap := (((((((w0.heap.modify 0 (put (flat firstData).toArray)).modify 1 (put (flat acceptData).toArray)).modify 2 (put (flat (tabData .u64 Lib.pow10Tab)).toArray)).modify 4 (put (flat Rows.laid_math_bits_deBruijn32tab).toArray)).modify 5 (put (flat Rows.laid_math_bits_deBruijn64tab).toArray)).modify 6 (put #[.iface 193 (.pointer (some ⟨low, 0, none⟩))])).modify 7 (put #[.iface 193 (.pointer (some ⟨low + 1, 0, none⟩))])) }
theorem laidWorld_met (os : Os) (args : Array Value) : laidMet Tryz.prog laidL ((laidWorld os).forCall (fun _ _ => 0) ⟨#[], args, []⟩).memory :=
 laidMet_of_run' 8 (by kernel_rfl) (by kernel_rfl)
theorem laidWorld_metH (os : Os) (args : Array Value) : laidMetH Tryz.prog laidL ((laidWorld os).forCall (fun _ _ => 0) ⟨#[], args, []⟩).memory := by
 rw [Go.MakeChecks.laidMetH_plain _ _ _ (by kernel_rfl)]
 exact laidWorld_met os args
end Go.Proofs.YtndbbgihpoiojaaGreatDoor.ev
namespace Go.Proofs.YtndbbgihpoiojaaGreatDoor.ev
open Go.RowKit Go.Lib Go.ChangeShapes Go.Proofs.YtndbbgihpoiojaaGreatDoorW.PrintWords Go.Proofs.YtndbbgihpoiojaaGreatDoor.Q
def Opens {α : Type} (d : Kd α) (t : TypeId) (wf : α → Prop) (wt : α → Nat) : Prop :=
 ∀ (H : Type) (enc : TypeId × Value → H) (w : World) (base : Nat) (sp : Nat → Bool) (held : Bool) (fuel : Nat) (cs : List Value) (x : DataW H × List MemPlace),
  DataW.trod enc Tryz.prog w base sp held fuel t cs = some x → ∃ a : α, d.K w a cs ∧ wf a ∧ wt a ≤ Rows.uptoBulk x.1
def InK (k : IntKind) (n : Int) : Prop := k.min ≤ n ∧ n ≤ k.max
theorem opens_int {t : TypeId} {k : IntKind} (ht : Tryz.prog.underlying t = some (.int k)) : Opens (Kd.int k) t (InK k) (fun _ => 1) := by
 intro H enc w base sp held fuel cs x h
 obtain ⟨n, rfl, rfl, hwf⟩ := DataW.trod_int ht h
 simp only [Lit.wf, Bool.and_eq_true, decide_eq_true_eq] at hwf
 exact ⟨n, rfl, hwf, by simp [Rows.uptoBulk]⟩
theorem opens_string {t : TypeId} (ht : Tryz.prog.underlying t = some .string) : Opens Kd.string t (fun _ => True) (fun s => s.size + 1) := by
 intro H enc w base sp held fuel cs x h
 obtain ⟨n, rfl, rfl, _⟩ := DataW.trod_string ht h
 refine ⟨n, rfl, trivial, ?_⟩
 simp only [Rows.uptoBulk]
 have : n.data.toList.length = n.size := Array.length_toList
 omega
theorem bulkAll_map {H β : Type} (l : List β) (f : β → DataW H) : Rows.uptoBulkAll (l.map f) = (l.map fun b => Rows.uptoBulk (f b)).sum := by
 induction l with
 | nil => simp [Rows.uptoBulkAll]
 | cons b l ih => simp [Rows.uptoBulkAll, ih]
theorem sum_le_sum {β : Type} {f g : β → Nat} (l : List β) (h : ∀ b ∈ l, f b ≤ g b) : (l.map f).sum ≤ (l.map g).sum := by
 induction l with
 | nil => simp
 | cons b l ih =>
  have h0 := h b (.head _)
  have h1 := ih (fun c hc => h c (.tail _ hc))
  simp only [List.map_cons, List.sum_cons]
  omega
theorem list_of' {β : Type} (n : Nat) (Pr : Nat → β → Prop) (h : ∀ i, i < n → ∃ b, Pr i b) : ∃ l : List β, l.length = n ∧ ∀ (i : Nat) (b : β), l[i]? = some b → Pr i b := by
 induction n with
 | zero => exact ⟨[], rfl, fun i b hb => by simp at hb⟩
 | succ n ih =>
  obtain ⟨l, hl, hp⟩ := ih (fun i hi => h i (by omega))
  obtain ⟨b, hb⟩ := h n (by omega)
  refine ⟨l ++ [b], by simp [hl], fun i c hc => ?_⟩
  by_cases hi : i < n
  · rw [List.getElem?_append_left (by omega)] at hc
    exact hp i c hc
  have hil : i < (l ++ [b]).length := (List.getElem?_eq_some_iff.1 hc).1
  have : i = n := by simp [hl] at hil; omega
  subst this
  rw [List.getElem?_append_right (by omega), hl] at hc
  simp at hc
  rw [← hc]
  exact hb
theorem sum_range {β : Type} (l : List β) (f : β → Nat) (g : Nat → Nat) (h : ∀ i b, l[i]? = some b → f b ≤ g i) : (l.map f).sum ≤ ((List.range l.length).map g).sum := by
 have e : l.map f = (List.range l.length).map fun i => match l[i]? with | some b => f b | none => 0 := by
  apply List.ext_getElem?
  intro i
  simp only [List.getElem?_map]
  by_cases hi : i < l.length
  · simp [hi]
  simp [hi]
 rw [e]
 apply sum_le_sum
 intro i hi
 simp only [List.mem_range] at hi
 rw [List.getElem?_eq_getElem hi]
 exact h i _ (List.getElem?_eq_getElem hi)
theorem opens_slice {α : Type} {d : Kd α} {t te : TypeId} {wf : α → Prop} {wt : α → Nat} (e : Nat) (ht : Tryz.prog.underlying t = some (.slice te)) (hs : Tryz.prog.cellsOf te = d.sz) (hd : Opens d te wf wt) :
 Opens (Kd.slice e d) t (fun xs => ∀ a ∈ xs, wf a) (fun xs => (xs.map wt).sum + 1) := by
 intro H enc w base sp held fuel cs x h
 rcases Go.Deep.open_slice ht h with ⟨rfl, rfl⟩ | ⟨a, len, cap, m, n, D, Pl, rfl, hb, hlc, hcap, hm, rfl, hx⟩
 · refine ⟨[], ⟨none, 0, rfl, Nat.le_refl _, rfl, by simp, fun h => absurd h (by simp)⟩, ?_, ?_⟩
   · intro a ha
     exact absurd ha List.not_mem_nil
   show 0 + 1 ≤ Rows.uptoBulk (DataW.nil (H := H))
   simp [Rows.uptoBulk]
 have hle : len ≤ m := by rw [hm]; split <;> omega
 obtain ⟨l, hl, hp⟩ := list_of' len (fun i b => ∃ c, c.length = d.sz ∧ d.K w b c ∧ (∀ j u, c[j]? = some u → w.cell? (a.add (i * d.sz + j)) = some u) ∧ wf b ∧ wt b ≤ Rows.uptoBulk (D i)) (fun i hi => by
  obtain ⟨cs', h1, h2⟩ := hx i (by omega)
  obtain ⟨b, k1, k2, k3⟩ := hd H enc w base sp held n cs' _ h2
  refine ⟨b, cs', d.K_len k1, k1, ?_, k2, k3⟩
  obtain ⟨_, hlen, hcell⟩ := World.cells?_some h1
  rw [hs] at hcell hlen
  intro j u hu
  have hj : j < cs'.length := (List.getElem?_eq_some_iff.1 hu).1
  have := hcell j (by omega)
  rw [add_add] at this
  exact this.trans hu)
 subst hl
 refine ⟨l, ⟨some a, cap, rfl, hlc, rfl, ?_, fun _ => ⟨a, rfl, fun j p hj => ?_⟩⟩, fun b hb => ?_, ?_⟩
 · unfold maxLen at hcap; omega
 · obtain ⟨c, h1, h2, h3, _⟩ := hp j p hj
   exact ⟨c, h1, h2, h3⟩
 · obtain ⟨i, hi, rfl⟩ := List.mem_iff_getElem.1 hb
   obtain ⟨c, _, _, _, h4, _⟩ := hp i _ (List.getElem?_eq_getElem hi)
   exact h4
 simp only [Rows.uptoBulk]
 rw [bulkAll_map]
 have := sum_range l wt (fun i => Rows.uptoBulk (D i)) (fun i b hb => by obtain ⟨c, _, _, _, _, h5⟩ := hp i b hb; exact h5)
 omega
theorem fld {H : Type} {enc : TypeId × Value → H} {w : World} {base n : Nat} {sp : Nat → Bool} {held : Bool} {fs : Array Field} {cs : List Value} {xs : List (DataW H × List MemPlace)}
 (hf : ∀ (i : Nat) (f : Field), fs[i]? = some f → DataW.trod enc Tryz.prog w base sp held n f.type ((cs.drop f.offset).take (Tryz.prog.cellsOf f.type)) = xs[i]?)
 (i off ty sz : Nat) (y : DataW H × List MemPlace) (hfi : (fs[i]?).map (fun f => (f.offset, f.type)) = some (off, ty)) (hsz : Tryz.prog.cellsOf ty = sz) (hx : xs[i]? = some y) :
 DataW.trod enc Tryz.prog w base sp held n ty ((cs.drop off).take sz) = some y := by
 obtain ⟨f, h1, h2⟩ := Option.map_eq_some_iff.1 hfi
 obtain ⟨rfl, rfl⟩ := Prod.mk.inj h2
 rw [← hsz, ← hx]
 exact hf i f h1
theorem opens37 : Opens k37 37 (fun p => InK .i64 p.f0 ∧ InK .i64 p.f1) (fun _ => 2) := by
 intro H enc w base sp held fuel cs x h
 obtain ⟨xs, n, rfl, rfl, hl, hxl, hf⟩ := DataW.trod_struct Tryz.underlying37 h
 rw [show Tryz.prog.cellsOf 37 = 2 by kernel_rfl] at hl
 match xs, hxl, cs, hl with
 | [y0, y1], _, [v0, v1], _ =>
  have g0 := fld hf 0 0 3 1 y0 rfl (by kernel_rfl) rfl
  have g1 := fld hf 1 1 3 1 y1 rfl (by kernel_rfl) rfl
  obtain ⟨a0, h0, q0, w0⟩ := opens_int Tryz.underlying3 H enc w base sp held n [v0] y0 g0
  obtain ⟨a1, h1, q1, w1⟩ := opens_int Tryz.underlying3 H enc w base sp held n [v1] y1 g1
  refine ⟨⟨a0, a1⟩, ⟨[v0], [v1], rfl, h0, h1⟩, ⟨q0, q1⟩, ?_⟩
  simp only [List.map_cons, List.map_nil, Rows.uptoBulk, Rows.uptoBulkAll] at w0 w1 ⊢
  omega
theorem opens66 : Opens k66 66 (fun p => InK .i64 p.f0 ∧ InK .i64 p.f1 ∧ InK .u8 p.f2) (fun _ => 1) := by
 intro H enc w base sp held fuel cs x h
 obtain ⟨xs, n, rfl, rfl, hl, hxl, hf⟩ := DataW.trod_struct Tryz.underlying66 h
 rw [show Tryz.prog.cellsOf 66 = 3 by kernel_rfl] at hl
 match xs, hxl, cs, hl with
 | [y0, y1, y2], _, [v0, v1, v2], _ =>
  have g0 := fld hf 0 0 3 1 y0 rfl (by kernel_rfl) rfl
  have g1 := fld hf 1 1 3 1 y1 rfl (by kernel_rfl) rfl
  have g2 := fld hf 2 2 5 1 y2 rfl (by kernel_rfl) rfl
  obtain ⟨a0, h0, q0, w0⟩ := opens_int Tryz.underlying3 H enc w base sp held n [v0] y0 g0
  obtain ⟨a1, h1, q1, w1⟩ := opens_int Tryz.underlying3 H enc w base sp held n [v1] y1 g1
  obtain ⟨a2, h2, q2, w2⟩ := opens_int Tryz.underlying5 H enc w base sp held n [v2] y2 g2
  refine ⟨⟨a0, a1, a2⟩, ⟨[v0], [v1, v2], rfl, h0, ⟨[v1], [v2], rfl, h1, h2⟩⟩, ⟨q0, q1, q2⟩, ?_⟩
  simp only [List.map_cons, List.map_nil, Rows.uptoBulk, Rows.uptoBulkAll] at w0 w1 ⊢
  omega
theorem opens70 : Opens k70 70 (fun p => InK .i64 p.f0 ∧ InK .i64 p.f1 ∧ InK .i64 p.f2 ∧ InK .i64 p.f3 ∧ InK .i64 p.f4) (fun _ => 1) := by
 intro H enc w base sp held fuel cs x h
 obtain ⟨xs, n, rfl, rfl, hl, hxl, hf⟩ := DataW.trod_struct Tryz.underlying70 h
 rw [show Tryz.prog.cellsOf 70 = 5 by kernel_rfl] at hl
 match xs, hxl, cs, hl with
 | [y0, y1, y2, y3, y4], _, [v0, v1, v2, v3, v4], _ =>
  have g0 := fld hf 0 0 3 1 y0 rfl (by kernel_rfl) rfl
  have g1 := fld hf 1 1 3 1 y1 rfl (by kernel_rfl) rfl
  have g2 := fld hf 2 2 3 1 y2 rfl (by kernel_rfl) rfl
  have g3 := fld hf 3 3 3 1 y3 rfl (by kernel_rfl) rfl
  have g4 := fld hf 4 4 3 1 y4 rfl (by kernel_rfl) rfl
  obtain ⟨a0, h0, q0, w0⟩ := opens_int Tryz.underlying3 H enc w base sp held n [v0] y0 g0
  obtain ⟨a1, h1, q1, w1⟩ := opens_int Tryz.underlying3 H enc w base sp held n [v1] y1 g1
  obtain ⟨a2, h2, q2, w2⟩ := opens_int Tryz.underlying3 H enc w base sp held n [v2] y2 g2
  obtain ⟨a3, h3, q3, w3⟩ := opens_int Tryz.underlying3 H enc w base sp held n [v3] y3 g3
  obtain ⟨a4, h4, q4, w4⟩ := opens_int Tryz.underlying3 H enc w base sp held n [v4] y4 g4
  refine ⟨⟨a0, a1, a2, a3, a4⟩, ⟨[v0], [v1, v2, v3, v4], rfl, h0, ⟨[v1], [v2, v3, v4], rfl, h1, ⟨[v2], [v3, v4], rfl, h2, ⟨[v3], [v4], rfl, h3, h4⟩⟩⟩⟩, ⟨q0, q1, q2, q3, q4⟩, ?_⟩
  simp only [List.map_cons, List.map_nil, Rows.uptoBulk, Rows.uptoBulkAll] at w0 w1 ⊢
  omega
theorem opens49 : Opens k49 49 (fun p => InK .i64 p.f0 ∧ (InK .i64 p.f1.f0 ∧ InK .i64 p.f1.f1) ∧ InK .i64 p.f2 ∧ (∀ n ∈ p.f5, InK .u8 n) ∧ InK .i64 p.f6) (fun p => p.f3.size + p.f4.size + p.f5.length) := by
 intro H enc w base sp held fuel cs x h
 obtain ⟨xs, n, rfl, rfl, hl, hxl, hf⟩ := DataW.trod_struct Tryz.underlying49 h
 rw [show Tryz.prog.cellsOf 49 = 8 by kernel_rfl] at hl
 match xs, hxl, cs, hl with
 | [y0, y1, y2, y3, y4, y5, y6], _, [v0, v1, v2, v3, v4, v5, v6, v7], _ =>
  have g0 := fld hf 0 0 3 1 y0 rfl (by kernel_rfl) rfl
  have g1 := fld hf 1 1 37 2 y1 rfl (by kernel_rfl) rfl
  have g2 := fld hf 2 3 3 1 y2 rfl (by kernel_rfl) rfl
  have g3 := fld hf 3 4 9 1 y3 rfl (by kernel_rfl) rfl
  have g4 := fld hf 4 5 9 1 y4 rfl (by kernel_rfl) rfl
  have g5 := fld hf 5 6 38 1 y5 rfl (by kernel_rfl) rfl
  have g6 := fld hf 6 7 3 1 y6 rfl (by kernel_rfl) rfl
  obtain ⟨a0, h0, q0, w0⟩ := opens_int Tryz.underlying3 H enc w base sp held n [v0] y0 g0
  obtain ⟨a1, h1, q1, w1⟩ := opens37 H enc w base sp held n [v1, v2] y1 g1
  obtain ⟨a2, h2, q2, w2⟩ := opens_int Tryz.underlying3 H enc w base sp held n [v3] y2 g2
  obtain ⟨a3, h3, q3, w3⟩ := opens_string Tryz.underlying9 H enc w base sp held n [v4] y3 g3
  obtain ⟨a4, h4, q4, w4⟩ := opens_string Tryz.underlying9 H enc w base sp held n [v5] y4 g4
  obtain ⟨a5, h5, q5, w5⟩ := opens_slice 5 Tryz.underlying38 (by kernel_rfl) (opens_int Tryz.underlying5) H enc w base sp held n [v6] y5 g5
  obtain ⟨a6, h6, q6, w6⟩ := opens_int Tryz.underlying3 H enc w base sp held n [v7] y6 g6
  refine ⟨⟨a0, a1, a2, a3, a4, a5, a6⟩, ⟨[v0], [v1, v2, v3, v4, v5, v6, v7], rfl, h0, ⟨[v1, v2], [v3, v4, v5, v6, v7], rfl, h1, ⟨[v3], [v4, v5, v6, v7], rfl, h2, ⟨[v4], [v5, v6, v7], rfl, h3, ⟨[v5], [v6, v7], rfl, h4, ⟨[v6], [v7], rfl, h5, h6⟩⟩⟩⟩⟩⟩, ⟨q0, q1, q2, q5, q6⟩, ?_⟩
  have e : (a5.map fun _ => 1).sum = a5.length := by
   clear h5 q5 w5
   induction a5 with
   | nil => rfl
   | cons z l ih => rw [List.map_cons, List.sum_cons, ih, List.length_cons]; omega
  replace w5 : (a5.map fun _ => 1).sum + 1 ≤ Rows.uptoBulk y5.1 := w5
  rw [e] at w5
  simp only [List.map_cons, List.map_nil, Rows.uptoBulk, Rows.uptoBulkAll] at w0 w1 w3 w4 ⊢
  omega
def EvK (x : S52) : Prop := InK .i64 x.f0 ∧ InK .i64 x.f1 ∧ (InK .i64 x.f2.f0 ∧ (InK .i64 x.f2.f1.f0 ∧ InK .i64 x.f2.f1.f1) ∧ InK .i64 x.f2.f2 ∧ (∀ n ∈ x.f2.f5, InK .u8 n) ∧ InK .i64 x.f2.f6) ∧ InK .i64 x.f3 ∧ ∀ l ∈ x.f4, ∀ f ∈ l, InK .i64 f.f0 ∧ InK .i64 f.f1 ∧ InK .u8 f.f2
theorem fw_eq (ls : List (List S66)) : (ls.map fun l => (l.map fun _ => 1).sum + 1).sum = fw ls := by
 unfold fw
 congr 1
 refine List.map_congr_left (fun l _ => ?_)
 have e : ∀ l : List S66, (l.map fun _ => 1).sum = l.length := fun l => by
  induction l with
  | nil => rfl
  | cons z l ih => rw [List.map_cons, List.sum_cons, ih, List.length_cons]; omega
 have := e l
 omega
theorem opens52 : Opens k52 52 EvK wv := by
 intro H enc w base sp held fuel cs x h
 obtain ⟨xs, n, rfl, rfl, hl, hxl, hf⟩ := DataW.trod_struct Tryz.underlying52 h
 rw [show Tryz.prog.cellsOf 52 = 12 by kernel_rfl] at hl
 match xs, hxl, cs, hl with
 | [y0, y1, y2, y3, y4], _, [v0, v1, v2, v3, v4, v5, v6, v7, v8, v9, v10, v11], _ =>
  have g0 := fld hf 0 0 3 1 y0 rfl (by kernel_rfl) rfl
  have g1 := fld hf 1 1 3 1 y1 rfl (by kernel_rfl) rfl
  have g2 := fld hf 2 2 49 8 y2 rfl (by kernel_rfl) rfl
  have g3 := fld hf 3 10 3 1 y3 rfl (by kernel_rfl) rfl
  have g4 := fld hf 4 11 50 1 y4 rfl (by kernel_rfl) rfl
  obtain ⟨a0, h0, q0, w0⟩ := opens_int Tryz.underlying3 H enc w base sp held n [v0] y0 g0
  obtain ⟨a1, h1, q1, w1⟩ := opens_int Tryz.underlying3 H enc w base sp held n [v1] y1 g1
  obtain ⟨a2, h2, q2, w2⟩ := opens49 H enc w base sp held n [v2, v3, v4, v5, v6, v7, v8, v9] y2 g2
  obtain ⟨a3, h3, q3, w3⟩ := opens_int Tryz.underlying3 H enc w base sp held n [v10] y3 g3
  obtain ⟨a4, h4, q4, w4⟩ := opens_slice 64 Tryz.underlying50 (by kernel_rfl) (opens_slice 66 Tryz.underlying64 (by kernel_rfl) opens66) H enc w base sp held n [v11] y4 g4
  refine ⟨⟨a0, a1, a2, a3, a4⟩, ⟨[v0], [v1, v2, v3, v4, v5, v6, v7, v8, v9, v10, v11], rfl, h0, ⟨[v1], [v2, v3, v4, v5, v6, v7, v8, v9, v10, v11], rfl, h1, ⟨[v2, v3, v4, v5, v6, v7, v8, v9], [v10, v11], rfl, h2, ⟨[v10], [v11], rfl, h3, h4⟩⟩⟩⟩, ⟨q0, q1, q2, q3, q4⟩, ?_⟩
  replace w4 : (a4.map fun l => (l.map fun _ => 1).sum + 1).sum + 1 ≤ Rows.uptoBulk y4.1 := w4
  rw [fw_eq] at w4
  simp only [List.map_cons, List.map_nil, Rows.uptoBulk, Rows.uptoBulkAll] at w0 w1 w2 ⊢
  show 1 + a2.f3.size + a2.f4.size + a2.f5.length + fw a4 ≤ _
  omega
theorem open26 {H : Type} {enc : TypeId × Value → H} {w : World} {base : Nat} {sp : Nat → Bool} {held : Bool} {fuel : Nat} {cs : List Value} {x : DataW H × List MemPlace}
 (h : DataW.trod enc Tryz.prog w base sp held fuel 26 cs = some x) :
 ∃ (A0 : Option Addr) (c0 : Nat) (l0 : List Int) (A1 : Option Addr) (c1 : Nat) (l1 : List S70) (A2 : Option Addr) (c2 : Nat) (l2 : List Int),
  cs = [.slice A0 l0.length c0, .slice A1 l1.length c1, .slice A2 l2.length c2] ∧ Kd.C (Kd.int .u64) w A0 l0.length l0 ∧ Kd.C k70 w A1 l1.length l1 ∧ Kd.C (Kd.int .i64) w A2 l2.length l2 ∧
  (∀ n ∈ l0, InK .u64 n) ∧ (∀ p ∈ l1, InK .i64 p.f0 ∧ InK .i64 p.f1 ∧ InK .i64 p.f2 ∧ InK .i64 p.f3 ∧ InK .i64 p.f4) ∧ (∀ n ∈ l2, InK .i64 n) ∧
  l0.length + l1.length + l2.length ≤ Rows.uptoBulk x.1 := by
 obtain ⟨xs, n, rfl, rfl, hl, hxl, hf⟩ := DataW.trod_struct Tryz.underlying26 h
 rw [show Tryz.prog.cellsOf 26 = 3 by kernel_rfl] at hl
 match xs, hxl, cs, hl with
 | [y0, y1, y2], _, [v0, v1, v2], _ =>
  have g0 := fld hf 0 0 22 1 y0 rfl (by kernel_rfl) rfl
  have g1 := fld hf 1 1 23 1 y1 rfl (by kernel_rfl) rfl
  have g2 := fld hf 2 2 24 1 y2 rfl (by kernel_rfl) rfl
  obtain ⟨l0, ⟨A0, c0, e0, _, k0⟩, q0, w0⟩ := opens_slice 68 Tryz.underlying22 (by kernel_rfl) (opens_int Tryz.underlying68) H enc w base sp held n [v0] y0 g0
  obtain ⟨l1, ⟨A1, c1, e1, _, k1⟩, q1, w1⟩ := opens_slice 70 Tryz.underlying23 (by kernel_rfl) opens70 H enc w base sp held n [v1] y1 g1
  obtain ⟨l2, ⟨A2, c2, e2, _, k2⟩, q2, w2⟩ := opens_slice 3 Tryz.underlying24 (by kernel_rfl) (opens_int Tryz.underlying3) H enc w base sp held n [v2] y2 g2
  obtain ⟨rfl, _⟩ := List.cons.inj e0
  obtain ⟨rfl, _⟩ := List.cons.inj e1
  obtain ⟨rfl, _⟩ := List.cons.inj e2
  refine ⟨A0, c0, l0, A1, c1, l1, A2, c2, l2, rfl, k0, k1, k2, q0, q1, q2, ?_⟩
  have e : ∀ {β : Type} (l : List β), (l.map fun _ => 1).sum = l.length := fun l => by
   induction l with
   | nil => rfl
   | cons z l ih => rw [List.map_cons, List.sum_cons, ih, List.length_cons]; omega
  replace w0 : (l0.map fun _ => 1).sum + 1 ≤ Rows.uptoBulk y0.1 := w0
  replace w1 : (l1.map fun _ => 1).sum + 1 ≤ Rows.uptoBulk y1.1 := w1
  replace w2 : (l2.map fun _ => 1).sum + 1 ≤ Rows.uptoBulk y2.1 := w2
  rw [e] at w0 w1 w2
  simp only [List.map_cons, List.map_nil, Rows.uptoBulk, Rows.uptoBulkAll] at ⊢
  omega
theorem open27 {H : Type} {enc : TypeId × Value → H} {w : World} {base : Nat} {sp : Nat → Bool} {held : Bool} {fuel : Nat} {v : Value} {x : DataW H × List MemPlace}
 (h : DataW.trod enc Tryz.prog w base sp held fuel 27 [v] = some x) :
 ∃ (A : Option Addr) (c : Nat) (l : List S52), v = .slice A l.length c ∧ l.length ≤ c ∧ Kd.C k52 w A l.length l ∧ (∀ e ∈ l, EvK e) ∧ wvs l ≤ Rows.uptoBulk x.1 := by
 obtain ⟨l, ⟨A, c, e, hc, k⟩, q, wt⟩ := opens_slice 52 Tryz.underlying27 (by kernel_rfl) opens52 H enc w base sp held fuel [v] x h
 obtain ⟨rfl, _⟩ := List.cons.inj e
 refine ⟨A, c, l, rfl, hc, k, q, ?_⟩
 have : wvs l + 1 ≤ Rows.uptoBulk x.1 := wt
 omega
end Go.Proofs.YtndbbgihpoiojaaGreatDoor.ev
namespace Go.Proofs.YtndbbgihpoiojaaGreatDoor.Q
open Go.RowKit Go.Proofs.YtndbbgihpoiojaaGreatDoorW.PrintWords Go.Proofs.YtndbbgihpoiojaaGreatDoorW.PrintLast
open Go.Proofs.YtndbbgihpoiojaaGreatDoor.ev (InK EvK)
def sz (l : List ByteArray) : Nat := (l.map ByteArray.size).sum
theorem sz_app (a b : List ByteArray) : sz (a ++ b) = sz a + sz b := by unfold sz; rw [List.map_append, List.sum_append]
theorem sz_cons (a : ByteArray) (b : List ByteArray) : sz (a :: b) = a.size + sz b := by unfold sz; rw [List.map_cons, List.sum_cons]
theorem sz_nil : sz [] = 0 := rfl
theorem join_sz (l : List ByteArray) (c : UInt8) : (joinB l ⟨#[c]⟩).size ≤ sz l + l.length := by
 by_cases h : l = []
 · subst h; exact Nat.zero_le _
 have h1 := join_jl c (l.map (·.data.toList)) (by simpa using h)
 have e : (joinB l ⟨#[c]⟩).size = (Lib.join (l.map (·.data.toList)) [c]).length := by rw [Lib.size_eq, joinB_data]
 have e2 : jl (l.map (·.data.toList)) = sz l + l.length := by
  clear h h1 e
  induction l with
  | nil => rfl
  | cons x l ih =>
   rw [List.map_cons, jl_cons, ih, sz_cons, List.length_cons, Lib.size_eq x]
   omega
 omega
theorem itoa_sz {n : Int} (h : sc.InInt n) : (itoaB n).size ≤ 21 := by
 unfold itoaB
 rw [size_mk]
 exact Lib.itoa_length_le n h.1 h.2
theorem quote_sz (x : ByteArray) : (quoteB x).size ≤ 3 * x.size + 2 := by
 have h : ∀ l : List UInt8, (sc.qt l).length ≤ 3 * l.length := by
  refine sc.qt_ind (Nat.le_refl _) (fun l hne ih => ?_)
  have h1 := sc.width_posL l
  have h2 := Lib.decodeL_le l hne
  have h3 := sc.qform_length l (Lib.decodeL l).1 (Lib.decodeL l).2
  rw [List.length_drop] at ih
  rw [sc.qt_step hne, List.length_append]
  omega
 have := h x.data.toList
 unfold quoteB
 rw [size_mk, sc.quote_len, Lib.size_eq]
 omega
theorem fate_sz {f : S66} (h : FateOK f) : (fateW f).size ≤ 65 := by
 obtain ⟨h0, h1, h2, h3⟩ := h
 have a := itoa_sz h0
 have b := itoa_sz h1
 have c := itoa_sz (n := f.f2) ⟨by omega, by omega⟩
 unfold fateW
 rw [ByteArray.size_append, ByteArray.size_append, ByteArray.size_append, ByteArray.size_append]
 show (itoaB f.f0).size + 1 + (itoaB f.f1).size + 1 + (itoaB f.f2).size ≤ 65
 omega
theorem fates_sz : ∀ (l : List S66), (∀ f ∈ l, FateOK f) → sz (l.map fateW) ≤ 65 * l.length
 | [], _ => Nat.le_refl _
 | f :: l, h => by
  have a := fate_sz (h f (List.mem_cons_self ..))
  have b := fates_sz l (fun g hg => h g (List.mem_cons_of_mem _ hg))
  rw [List.map_cons, sz_cons, List.length_cons]
  omega
theorem strikes_sz : ∀ (st : List (List S66)), FatesOK st → sz (st.flatMap strikeW) ≤ 65 * fw st ∧ (st.flatMap strikeW).length = fw st
 | [], _ => ⟨Nat.le_refl _, rfl⟩
 | l :: st, h => by
  obtain ⟨a, b⟩ := strikes_sz st (fun x hx => h x (List.mem_cons_of_mem _ hx))
  have c := fates_sz l (h l (List.mem_cons_self ..))
  have e : fw (l :: st) = 1 + l.length + fw st := by unfold fw; rw [List.map_cons, List.sum_cons]
  rw [List.flatMap_cons, sz_app, List.length_append, e]
  unfold strikeW at a b ⊢
  rw [sz_cons, List.length_cons, List.length_map]
  have s1 : (⟨#[47]⟩ : ByteArray).size = 1 := rfl
  omega
theorem kind_sz (k : Nat) : (kindL.getD k ⟨#[]⟩).size ≤ 6 := by
 by_cases h : k < 8
 · have : ∀ j : Fin 8, (kindL.getD j.val ⟨#[]⟩).size ≤ 6 := by decide
   exact this ⟨k, h⟩
 rw [List.getD_eq_getElem?_getD, List.getElem?_eq_none (by show 8 ≤ k; omega)]
 exact Nat.zero_le _
theorem strOf_sz (l : List Int) : (strOfNums l).size = l.length := by
 unfold strOfNums
 simp [ByteArray.size]
theorem rg_of {x : S52} (h : EvK x) : EvRg x := by
 obtain ⟨h0, h1, ⟨h2, ⟨h3, h4⟩, h5, h6, h7⟩, h8, h9⟩ := h
 exact ⟨h1, h3, h4, h5, h7, h8, fun v hv => h6 v hv, fun l hl f hf => ⟨(h9 l hl f hf).1, (h9 l hl f hf).2.1, (h9 l hl f hf).2.2.1, (h9 l hl f hf).2.2.2⟩⟩
theorem ev_sz {x : S52} (h : EvRg x) : sz (evWords x) ≤ 200 + 65 * wv x ∧ (evWords x).length ≤ 9 + wv x := by
 obtain ⟨h1, h2, h3, h4, h5, h6, _, h8⟩ := h
 have e : wv x = 1 + x.f2.f3.size + x.f2.f4.size + x.f2.f5.length + fw x.f4 := rfl
 unfold evWords
 split
 · unfold askWords
   have a1 := itoa_sz h1
   have a2 := itoa_sz h2
   have a3 := itoa_sz h3
   have a4 := itoa_sz h4
   have a5 := itoa_sz h5
   have q1 := quote_sz x.f2.f3
   have q2 := quote_sz x.f2.f4
   have q3 := quote_sz (strOfNums x.f2.f5)
   rw [strOf_sz] at q3
   have kd := kind_sz x.f2.f0.toNat
   have s3 : (⟨#[97, 115, 107]⟩ : ByteArray).size = 3 := rfl
   simp only [sz_app, sz_cons, sz_nil, List.length_append, List.length_cons, List.length_nil]
   have p1 : sz (if x.f2.f0 > 1 then [itoaB x.f2.f1.f0, itoaB x.f2.f1.f1] else []) ≤ 42 ∧ (if x.f2.f0 > 1 then [itoaB x.f2.f1.f0, itoaB x.f2.f1.f1] else []).length ≤ 2 := by
    split
    · simp only [sz_cons, sz_nil, List.length_cons, List.length_nil]; omega
    exact ⟨Nat.zero_le _, Nat.zero_le _⟩
   have p2 : sz (if x.f2.f0 > 1 ∧ x.f2.f0 < 6 then [itoaB x.f2.f2, quoteB x.f2.f3] else []) ≤ 23 + 3 * x.f2.f3.size ∧ (if x.f2.f0 > 1 ∧ x.f2.f0 < 6 then [itoaB x.f2.f2, quoteB x.f2.f3] else []).length ≤ 2 := by
    split
    · simp only [sz_cons, sz_nil, List.length_cons, List.length_nil]; omega
    exact ⟨Nat.zero_le _, Nat.zero_le _⟩
   have p3 : sz (if x.f2.f0 = 3 then [quoteB x.f2.f4, itoaB x.f2.f6] else if x.f2.f0 = 4 then [quoteB (strOfNums x.f2.f5)] else []) ≤ 25 + 3 * x.f2.f4.size + 3 * x.f2.f5.length ∧ (if x.f2.f0 = 3 then [quoteB x.f2.f4, itoaB x.f2.f6] else if x.f2.f0 = 4 then [quoteB (strOfNums x.f2.f5)] else []).length ≤ 2 := by
    split
    · simp only [sz_cons, sz_nil, List.length_cons, List.length_nil]; omega
    split
    · simp only [sz_cons, sz_nil, List.length_cons, List.length_nil]; omega
    exact ⟨Nat.zero_le _, Nat.zero_le _⟩
   omega
 have a6 := itoa_sz h6
 obtain ⟨b1, b2⟩ := strikes_sz x.f4 h8
 have p : sz (evHead x.f0 x.f3) ≤ 31 ∧ (evHead x.f0 x.f3).length ≤ 2 := by
  unfold evHead
  split
  · decide
  split
  · simp only [sz_cons, sz_nil, List.length_cons, List.length_nil]
    have : (⟨#[118, 97, 99, 117, 117, 109]⟩ : ByteArray).size = 6 := rfl
    omega
  split
  · simp only [sz_cons, sz_nil, List.length_cons, List.length_nil]
    have : (⟨#[99, 104, 101, 99, 107, 112, 111, 105, 110, 116]⟩ : ByteArray).size = 10 := rfl
    omega
  decide
 rw [sz_app, List.length_append]
 omega
theorem evW_sz {x : S52} (h : EvRg x) : (evW x).size ≤ 209 + 66 * wv x := by
 have a := ev_sz h
 have b := join_sz (evWords x) 32
 unfold evW
 omega
theorem utoa_sz {n : Int} (h : 0 ≤ n) (h1 : n < 18446744073709551616) : (utoaB n).size ≤ 20 := by
 unfold utoaB
 rw [size_mk, Lib.decDigits_length]
 exact Lib.nDigits_le20 _ (by omega)
theorem map_sz {α : Type} (f : α → ByteArray) (g : α → Nat) : ∀ (l : List α), (∀ x ∈ l, (f x).size ≤ g x) → sz (l.map f) ≤ (l.map g).sum
 | [], _ => Nat.le_refl _
 | x :: l, h => by
  have a := h x (List.mem_cons_self ..)
  have b := map_sz f g l (fun y hy => h y (List.mem_cons_of_mem _ hy))
  rw [List.map_cons, sz_cons, List.map_cons, List.sum_cons]
  omega
theorem sum_const {α : Type} (c : Nat) (l : List α) : (l.map fun _ => c).sum = c * l.length := by
 induction l with
 | nil => simp
 | cons x l ih => rw [List.map_cons, List.sum_cons, ih, List.length_cons, Nat.mul_succ, Nat.add_comm]
theorem sum_lin (l : List S52) : (l.map fun x => 209 + 66 * wv x).sum = 209 * l.length + 66 * wvs l := by
 induction l with
 | nil => rfl
 | cons x l ih =>
  have e : wvs (x :: l) = wv x + wvs l := by unfold wvs; rw [List.map_cons, List.sum_cons]
  rw [List.map_cons, List.sum_cons, ih, List.length_cons, e]
  omega
theorem len_wvs (l : List S52) : l.length ≤ wvs l := by
 induction l with
 | nil => exact Nat.le_refl _
 | cons x l ih =>
  have e : wvs (x :: l) = wv x + wvs l := by unfold wvs; rw [List.map_cons, List.sum_cons]
  have : 1 ≤ wv x := by unfold wv; omega
  rw [List.length_cons, e]
  omega
theorem print_ok {l0 : List Int} {l1 : List S70} {l2 : List Int} {evs : List S52} (h0 : ∀ x ∈ l0, 0 ≤ x ∧ x < 18446744073709551616) (h1 : ∀ x ∈ l1, AccOK x) (h2 : ∀ x ∈ l2, sc.InInt x) (h3 : ∀ x ∈ evs, EvRg x)
 (hN : l0.length + l1.length + l2.length + wvs evs ≤ 1048576) : PrintOK (l0, l1, l2, evs) := by
 have hle := len_wvs evs
 have hev : ∀ x ∈ evs, EvIn x ∧ (evWords x).length ≤ 4294967296 ∧ (evW x).size ≤ 140737488355328 := by
  intro x hx
  have hr := h3 x hx
  have hm := mem_wvs hx
  have hw : wv x = 1 + x.f2.f3.size + x.f2.f4.size + x.f2.f5.length + fw x.f4 := rfl
  have a := (ev_sz hr).2
  have b := evW_sz hr
  obtain ⟨r1, r2, r3, r4, r5, r6, r7, r8⟩ := hr
  exact ⟨⟨r1, r2, r3, r4, r5, r6, by omega, by omega, by rw [strOf_sz]; omega, r8⟩, by omega, by omega⟩
 have hlen : (linesP (l0, l1, l2, evs)).length = l0.length + l1.length + l2.length + evs.length := by
  unfold linesP
  simp only [List.length_append, List.length_map]
 have hsz : sz (linesP (l0, l1, l2, evs)) ≤ 40 * l0.length + 140 * l1.length + 40 * l2.length + (209 * evs.length + 66 * wvs evs) := by
  unfold linesP
  simp only [sz_app]
  have a := map_sz labelW (fun _ => 40) l0 (fun x hx => by
   have u := utoa_sz (h0 x hx).1 (h0 x hx).2
   have := join_sz [⟨#[108, 97, 98, 101, 108]⟩, utoaB x] 32
   have s : (⟨#[108, 97, 98, 101, 108]⟩ : ByteArray).size = 5 := rfl
   simp only [sz_cons, sz_nil, List.length_cons, List.length_nil] at this
   unfold labelW
   omega)
  have b := map_sz accW (fun _ => 140) l1 (fun x hx => by
   obtain ⟨a0, a1, a2, a3, a4⟩ := h1 x hx
   have u0 := itoa_sz a0
   have u1 := itoa_sz a1
   have u2 := itoa_sz a2
   have u3 := itoa_sz a3
   have u4 := itoa_sz a4
   have := join_sz [⟨#[97, 99, 99, 111, 117, 110, 116]⟩, itoaB x.f0, itoaB x.f1, itoaB x.f2, itoaB x.f3, itoaB x.f4] 32
   have s : (⟨#[97, 99, 99, 111, 117, 110, 116]⟩ : ByteArray).size = 7 := rfl
   simp only [sz_cons, sz_nil, List.length_cons, List.length_nil] at this
   unfold accW
   omega)
  have c := map_sz sesW (fun _ => 40) l2 (fun x hx => by
   have u := itoa_sz (h2 x hx)
   have := join_sz [⟨#[115, 101, 115, 115, 105, 111, 110]⟩, itoaB x] 32
   have s : (⟨#[115, 101, 115, 115, 105, 111, 110]⟩ : ByteArray).size = 7 := rfl
   simp only [sz_cons, sz_nil, List.length_cons, List.length_nil] at this
   unfold sesW
   omega)
  have d := map_sz evW (fun x => 209 + 66 * wv x) evs (fun x hx => evW_sz (h3 x hx))
  rw [sum_const] at a b c
  rw [sum_lin] at d
  omega
 have hj := join_sz (linesP (l0, l1, l2, evs)) 10
 exact ⟨h0, h1, h2, hev, by omega, by omega⟩
theorem stt_ok {l0 : List Int} {l1 : List S70} {l2 : List Int} {evs : List S52} (h0 : ∀ x ∈ l0, 0 ≤ x ∧ x < 18446744073709551616) (h1 : ∀ x ∈ l1, AccOK x) (h2 : ∀ x ∈ l2, sc.InInt x) (h3 : ∀ x ∈ evs, EvRg x) (hm : evs.all mayB = true) : SttOK (l0, l1, l2, evs) := by
 intro it hit
 unfold itemsOf at hit
 simp only [List.mem_append, List.mem_map] at hit
 rcases hit with ((⟨x, hx, rfl⟩ | ⟨x, hx, rfl⟩) | ⟨x, hx, rfl⟩) | ⟨x, hx, rfl⟩
 · exact h0 x hx
 · exact h1 x hx
 · exact h2 x hx
 exact ⟨h3 x hx, List.all_eq_true.1 hm x hx⟩
theorem print_back {l0 : List Int} {l1 : List S70} {l2 : List Int} {evs : List S52} (h0 : ∀ x ∈ l0, 0 ≤ x ∧ x < 18446744073709551616) (h1 : ∀ x ∈ l1, AccOK x) (h2 : ∀ x ∈ l2, sc.InInt x) (h3 : ∀ x ∈ evs, EvRg x) :
 (printS (l0, l1, l2, evs)).1.size ≤ 65536 ∧ ((printS (l0, l1, l2, evs)).2 ≠ 0 → (printS (l0, l1, l2, evs)).1 = ⟨#[]⟩) ∧ ((printS (l0, l1, l2, evs)).2 = 0 → parseS (printS (l0, l1, l2, evs)).1 = ((0, 0), some (l0, l1, l2, evs))) := by
 have hall : (printS (l0, l1, l2, evs)).2 = 0 → evs.all mayB = true := fun h => by
  unfold printS at h
  split at h
  · assumption
  cases h
 refine ⟨?_, fun h => ?_, fun h => parse_print (stt_ok h0 h1 h2 h3 (hall h)) (by rw [← h])⟩
 · unfold printS
   split
   · split
     · exact Nat.zero_le _
     split
     · exact Nat.zero_le _
     rename_i hh; show (joinB _ _ ++ _).size ≤ 65536; omega
   exact Nat.zero_le _
 unfold printS at h ⊢
 split
 · rename_i hm
   rw [if_pos hm] at h
   split
   · rfl
   rename_i h4
   rw [if_neg h4] at h
   split
   · rfl
   rename_i h5
   rw [if_neg h5] at h
   exact absurd rfl h
 rfl
end Go.Proofs.YtndbbgihpoiojaaGreatDoor.Q
namespace Go.Proofs.YtndbbgihpoiojaaGreatDoor.scriptBack
open Go.ChangeShapes Go.WideShapes Go.ChangeAt Go.RowKit Go.Proofs.YtndbbgihpoiojaaGreatDoor.ev Go.Proofs.YtndbbgihpoiojaaGreatDoor.Q Go.Proofs.YtndbbgihpoiojaaGreatDoorW.PrintWords Go.Proofs.YtndbbgihpoiojaaGreatDoorW.PrintLast
theorem laidOut : laidOutB Tryz.prog = true := by kernel_rfl
abbrev args0 : Array Value := #[.agg #[.slice none 0 0, .slice none 0 0, .slice none 0 0], .slice none 0 0]
theorem contract (H : Type) (enc : TypeId × Value → H) (W : World) (base : Nat) (args : Array Value) (ds gs : List (DataW H)) (before : List MemPlace)
 (hval : ∀ (j : Nat) t v, Tryz.f9.params[j]? = some t → args[j]? = some v → Value.okWide Tryz.prog W .any base t v)
 (hW : DataW.Whole enc Tryz.prog Tryz.f9.params.toList Rows.scriptBackSpec.vars false W args.toList ds gs before)
 (hk : Rows.uptoSmall H (ds ++ gs) = true) (hL : laidMetH Tryz.prog laidL W) (hsh : W.ShapedOpen Tryz.prog) :
 Calls Tryz.prog 9 args W fun e W' => ∃ v, e = .returned v ∧ Rows.scriptBackSpec.post enc Tryz.prog Tryz.f9 false true false false W args v W' := by
 have hW' := hW
 obtain ⟨p, q, hA0, hV, rfl, hfz, hnd⟩ := hW
 have hA : DataW.TrodAll enc Tryz.prog W 0 (fun _ => true) true Tryz.f9.params.toList args.toList ds p := hA0
 rw [Tryz.params9] at hA hval
 obtain ⟨v0, vs0, d0, ds0, p0, q0, hargs, rfl, rfl, h0, r0⟩ := trodAll_cons hA
 obtain ⟨v1, vs1, d1, ds1, p1, q1, rfl, rfl, rfl, h1, r1⟩ := trodAll_cons r0
 obtain ⟨rfl, rfl, rfl⟩ := trodAll_nil r1
 obtain rfl : args = #[v0, v1] := by cases args; simp_all
 obtain ⟨rfl, rfl⟩ := trodVars_none hV
 obtain ⟨cs, rfl, hcs⟩ := okWide_struct Tryz.underlying26 (hval 0 26 v0 rfl rfl)
 obtain ⟨A3, n3, c3, rfl⟩ := okWide_slice Tryz.underlying27 (hval 1 27 v1 rfl rfl)
 have k0 := h0
 have k1 := h1
 have lt0 : ∀ x ∈ p0, x.block < W.heap.size := by obtain ⟨m, hm⟩ := k0; exact DataW.trod_lt m _ _ _ hm
 have lt1 : ∀ x ∈ p1, x.block < W.heap.size := by obtain ⟨m, hm⟩ := k1; exact DataW.trod_lt m _ _ _ hm
 obtain ⟨fuel, hf⟩ := h0
 obtain ⟨A0, c0, l0, A1, c1, l1, A2, c2, l2, hcl, g0, g1, g2, i0, i1, i2, b0⟩ := open26 hf
 obtain rfl : cs = #[.slice A0 l0.length c0, .slice A1 l1.length c1, .slice A2 l2.length c2] := by
  have : cs.toList = _ := hcl
  cases cs
  simpa using this
 obtain ⟨fuel1, hf1⟩ := h1
 obtain ⟨A3', c3', evs, e27, hc3, g3, i3, b3⟩ := open27 (v := .slice A3 n3 c3) hf1
 injection e27 with e27 e28 e29
 subst e27 e28 e29
 have hN : l0.length + l1.length + l2.length + wvs evs ≤ 1048576 := by
  have h1 := of_decide_eq_true hk
  simp only [List.append_nil, Rows.uptoBulkAll] at h1
  have e0 : (d0, p0).1 = d0 := rfl
  have e1 : (d1, p1).1 = d1 := rfl
  rw [e0] at b0
  rw [e1] at b3
  omega
 rw [Go.MakeChecks.laidMetH_plain _ _ _ (by kernel_rfl)] at hL
 have u0 : ∀ x ∈ l0, 0 ≤ x ∧ x < 18446744073709551616 := fun x hx => by
  have : 0 ≤ x ∧ x ≤ 18446744073709551615 := i0 x hx
  omega
 have u3 : ∀ x ∈ evs, EvRg x := fun x hx => rg_of (i3 x hx)
 obtain ⟨z1, z2, z3⟩ := print_back u0 i1 i2 u3
 refine (back_calls A0 c0 l0 A1 c1 l1 A2 c2 l2 A3 c3 evs W (env_of hL hsh) g0 g1 g2 g3 hc3 (print_ok u0 i1 i2 u3 hN) (vast_small evs (by omega)) (printS (l0, l1, l2, evs)).1 (printS (l0, l1, l2, evs)).2 rfl (by omega) z2 z3).mono fun e W' ⟨he, bel⟩ => ?_
 subst he
 exact ⟨_, rfl, _, _, _, [], _, [], hW', trodAll_mk1 (shut_bool Tryz.underlying4 _), (trodAll_cons_mk (Below.trod laidOut (by kernel_rfl) (of_decide_eq_true (by kernel_rfl)) k0 bel lt0) (trodAll_cons_mk (Below.trod laidOut (by kernel_rfl) (of_decide_eq_true (by kernel_rfl)) k1 bel lt1) trodAll_mk0)), rfl, bel.frame _, fun h => by cases h⟩
theorem reads (os : Os) {H : Type} (enc : TypeId × Value → H) : ∃ places, DataW.whole enc Tryz.prog ((laidWorld os).forCall (fun _ _ => 0) ⟨#[], args0, []⟩).memory Tryz.f9.params.toList Rows.scriptBackSpec.vars false args0.toList 8 = some ([.agg [.nil, .nil, .nil], .nil], [], places) :=
 ⟨[], by kernel_rfl⟩
theorem liftedUpto (os : Os) (started : os.Started) (H : Type) (enc : TypeId × Value → H) (F : Stop.Interp) :
 ReturnsInHanded {} Tryz.checked os 9 .any ((Rows.OpenSpec.upto Rows.scriptBackSpec).preRow enc Tryz.prog Tryz.f9 Rows.scriptBackUptoRow.domain false Rows.scriptBackUptoRow.laid) (((Rows.OpenSpec.upto Rows.scriptBackSpec).at F).post enc Tryz.prog Tryz.f9 false true false false) := by
 obtain ⟨places, hx⟩ := reads os enc
 refine returnsInHanded_of_row (C := Tryz.checked) (s := Rows.OpenSpec.upto Rows.scriptBackSpec) own started (by kernel_rfl) Tryz.func9
  (witness_row_atRef (enc := enc) (C := Tryz.checked) false (laidWorld os) args0 rfl (by kernel_rfl) (by kernel_rfl) (by kernel_rfl)
   (OpenSpec.preRow_of_cond 8 hx (by kernel_rfl) (fun k hk => by cases hk; kernel_rfl) (by kernel_rfl) (laidWorld_metH os _))) ?_
 intro W base args ds gs before hval hW _ hcnd _ hL hsh _
 exact contract H enc W base args ds gs before hval hW (hcnd _ rfl) hL hsh
theorem saidUpto : Rows.ScriptBackUptoSaid :=
 OpenClaim.holds_of_cond 9 Tryz.f9 rfl rfl rfl rfl rfl rfl rfl ⟨rfl, rfl, rfl, rfl, rfl⟩ rfl rfl rfl rfl rfl (by kernel_rfl) Tryz.func9 (by kernel_rfl)
  (of_decide_eq_true (by kernel_rfl)) (by unfold Func.isWrapper; first | (rw [if_pos (by decide +kernel)]; kernel_rfl) | (rw [if_neg (by decide +kernel)]; exact ⟨rfl, rfl⟩))
  (fun os started H enc _ F => by rw [OpenClaim.pre_eq_preRow]; exact liftedUpto os started H enc F)
theorem plain (f : FuncId) (fn : Func) (hf : Tryz.pinned.checked.prog.funcNamed "cloister/cloisterlaw26.ScriptBack" = some f) (hfn : Tryz.pinned.checked.prog.funcs[f]? = some fn) :
 true = Tryz.pinned.checked.prog.looks [] ∧ ∀ (j : Nat) t, fn.params[j]? = some t → Tryz.pinned.checked.prog.wantsStandIn t = false := by
 obtain rfl : f = 9 := Option.some.inj ((show Tryz.prog.funcNamed "cloister/cloisterlaw26.ScriptBack" = some 9 by kernel_rfl).symm.trans hf) |>.symm
 obtain rfl : fn = Tryz.f9 := (Option.some.inj (Tryz.func9.symm.trans hfn)).symm
 have w26 : Tryz.prog.wantsStandIn 26 = false := by kernel_rfl
 have w27 : Tryz.prog.wantsStandIn 27 = false := by kernel_rfl
 refine ⟨by kernel_rfl, fun j t ht => ?_⟩
 rw [Tryz.params9] at ht
 have hm := Array.mem_of_getElem? ht
 simp at hm
 rcases hm with rfl | rfl
 · exact w26
 exact w27
theorem cardUpto : Rows.ScriptBackUptoCardSaid :=
 Claim7.holds_tied_plain_at .later [] _ _ _ _ saidUpto (fun _ h => by cases h) (by kernel_rfl) (fun _ h => by cases h) scriptBackUpto_row_tie rfl ⟨rfl, rfl⟩ (by kernel_rfl) rfl plain (by kernel_rfl)
end Go.Proofs.YtndbbgihpoiojaaGreatDoor.scriptBack
