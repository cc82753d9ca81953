/- Script: texts merged, part 2: cut to what the claim uses. -/
import Derived.Test.YtndbbgihpoiojaaGreatDoorScriptLines1
set_option linter.unusedVariables false
set_option linter.unusedSimpArgs false
set_option maxRecDepth 100000
set_option maxHeartbeats 8000000
namespace Go.Proofs.YtndbbgihpoiojaaGreatDoor.Q
open Go.RowKit Go.Proofs.YtndbbgihpoiojaaGreatDoorW.PrintWords Go.Proofs.YtndbbgihpoiojaaGreatDoorW.PrintLast Go.Proofs.YtndbbgihpoiojaaGreatDoorW.PrintMore
attribute [local go_sem] max2_int min2_int max_two min_two max_three min_three max_four min_four   -- for this text's walks alone
attribute [local go_sem high] eqA37
mutual
def script_Tell.j0 : Nat → List ByteArray → Int → Int → Int → Int → Int → Bool → List Int → List (S62) → Bool → Int → Option (ByteArray)
 | 0, _, _, _, _, _, _, _, _, _, _, _ => none
 | k + 1, x3, x145000, x145001, x145002, x145003, x145004, x145005, x145006, x145007, x145008, x145009 => if x145005 = true then (if x3.length < 8796093022208 then (script_Tell.j1 k (x3 ++ [(⟨#[102, 111, 117, 110, 100]⟩ : ByteArray)]) x145000 x145001 x145002 x145003 x145004 x145005 x145006 x145007 x145008 x145009) else (none)) else (script_Tell.j1 k x3 x145000 x145001 x145002 x145003 x145004 x145005 x145006 x145007 x145008 x145009)
def script_Tell.j1 : Nat → List ByteArray → Int → Int → Int → Int → Int → Bool → List Int → List (S62) → Bool → Int → Option (ByteArray)
 | 0, _, _, _, _, _, _, _, _, _, _, _ => none
 | k + 1, x3, x145000, x145001, x145002, x145003, x145004, x145005, x145006, x145007, x145008, x145009 => if (x145006.length : Int) > 0 then ((script_Quote.f (strOfNums x145006)).bind fun t162 => ((some (([(⟨#[118, 97, 108, 117, 101]⟩ : ByteArray), t162] : List ByteArray) : List ByteArray)).bind fun y163 => (if x3.length + y163.length < 8796093022208 then (script_Tell.j2 k (x3 ++ y163) x145000 x145001 x145002 x145003 x145004 x145005 x145006 x145007 x145008 x145009) else (none)))) else (script_Tell.j2 k x3 x145000 x145001 x145002 x145003 x145004 x145005 x145006 x145007 x145008 x145009)
def script_Tell.j2 : Nat → List ByteArray → Int → Int → Int → Int → Int → Bool → List Int → List (S62) → Bool → Int → Option (ByteArray)
 | 0, _, _, _, _, _, _, _, _, _, _, _ => none
 | k + 1, x3, x145000, x145001, x145002, x145003, x145004, x145005, x145006, x145007, x145008, x145009 => if (x145007.length : Int) > 0 then ((script_number.f (x145007.length : Int)).bind fun t169 => ((some (([(⟨#[112, 97, 105, 114, 115]⟩ : ByteArray), t169] : List ByteArray) : List ByteArray)).bind fun y170 => (if x3.length + y170.length < 8796093022208 then (script_Tell.j3 k (x3 ++ y170) x145000 x145001 x145002 x145003 x145004 x145005 x145006 x145007 x145008 x145009) else (none)))) else (script_Tell.j3 k x3 x145000 x145001 x145002 x145003 x145004 x145005 x145006 x145007 x145008 x145009)
def script_Tell.j3 : Nat → List ByteArray → Int → Int → Int → Int → Int → Bool → List Int → List (S62) → Bool → Int → Option (ByteArray)
 | 0, _, _, _, _, _, _, _, _, _, _, _ => none
 | k + 1, x3, x145000, x145001, x145002, x145003, x145004, x145005, x145006, x145007, x145008, x145009 => script_Tell.l0 k x3 x145007 (x145007.length : Int) 0 x145000 x145001 x145002 x145003 x145004 x145005 x145006 x145007 x145008 x145009
def script_Tell.l0 : Nat → List ByteArray → List (S62) → Int → Int → Int → Int → Int → Int → Int → Bool → List Int → List (S62) → Bool → Int → Option (ByteArray)
 | 0, _, _, _, _, _, _, _, _, _, _, _, _, _, _ => none
 | k + 1, x3, x59, x60, x61, x145000, x145001, x145002, x145003, x145004, x145005, x145006, x145007, x145008, x145009 => if x61 < x60 then (if 0 ≤ x61 then (if x61 < (x59.length : Int) then ((script_Quote.f ((rd_T62 x59 x61).f0)).bind fun t178 => ((script_Quote.f (strOfNums ((rd_T62 x59 x61).f1))).bind fun t179 => ((some (([t178, t179] : List ByteArray) : List ByteArray)).bind fun y180 => (if x3.length + y180.length < 8796093022208 then (script_Tell.l0 k (x3 ++ y180) x59 x60 (wrap64 (x61 + 1)) x145000 x145001 x145002 x145003 x145004 x145005 x145006 x145007 x145008 x145009) else (none))))) else (none)) else (none)) else (if x145008 = true then (if x3.length < 8796093022208 then (script_Tell.j5 k (x3 ++ [(⟨#[109, 111, 114, 101]⟩ : ByteArray)]) x145000 x145001 x145002 x145003 x145004 x145005 x145006 x145007 x145008 x145009) else (none)) else (script_Tell.j5 k x3 x145000 x145001 x145002 x145003 x145004 x145005 x145006 x145007 x145008 x145009))
def script_Tell.j5 : Nat → List ByteArray → Int → Int → Int → Int → Int → Bool → List Int → List (S62) → Bool → Int → Option (ByteArray)
 | 0, _, _, _, _, _, _, _, _, _, _, _ => none
 | k + 1, x3, x145000, x145001, x145002, x145003, x145004, x145005, x145006, x145007, x145008, x145009 => if x145009 = 0 then ((strings_Join.f x3 (⟨#[32]⟩ : ByteArray)).bind fun t189 => (some t189)) else ((script_number.f x145009).bind fun t190 => ((some (([(⟨#[115, 116, 97, 109, 112]⟩ : ByteArray), t190] : List ByteArray) : List ByteArray)).bind fun y191 => (if x3.length + y191.length < 8796093022208 then ((strings_Join.f (x3 ++ y191) (⟨#[32]⟩ : ByteArray)).bind fun t197 => (some t197)) else (none))))
end
def script_Tell.f (k : Nat) (a0_0 : Int) (a0_1 : Int) (a0_2 : Int) (a0_3 : Int) (a0_4 : Int) (a0_5 : Bool) (l0_6 : List Int) (l0_7 : List (S62)) (a0_8 : Bool) (a0_9 : Int) : Option (ByteArray) := (script_number.f a0_0).bind fun t145 => ((script_number.f a0_1).bind fun t146 => ((script_number.f a0_2).bind fun t147 => ((some (([(⟨#[115, 108, 111, 116]⟩ : ByteArray), t145, (⟨#[115, 101, 115, 115, 105, 111, 110]⟩ : ByteArray), t146, (⟨#[99, 111, 100, 101]⟩ : ByteArray), t147] : List ByteArray) : List ByteArray)).bind fun y148 => (if (!(a0_3 == 0) || (!(a0_4 == 0))) = true then ((script_number.f a0_3).bind fun t151 => ((script_number.f a0_4).bind fun t152 => ((some (([(⟨#[116, 120, 110]⟩ : ByteArray), t151, t152] : List ByteArray) : List ByteArray)).bind fun y153 => (if y148.length + y153.length < 8796093022208 then (script_Tell.j0 k (y148 ++ y153) a0_0 a0_1 a0_2 a0_3 a0_4 a0_5 l0_6 l0_7 a0_8 a0_9) else (none))))) else (script_Tell.j0 k y148 a0_0 a0_1 a0_2 a0_3 a0_4 a0_5 l0_6 l0_7 a0_8 a0_9)))))
def script_Tell.T1 : Bool × List (List Nat × List Nat) := (true, [([], []), ([0], [0]), ([1], [1]), ([], []), ([3], [3]), ([4, 2], [4]), ([], []), ([6], [6]), ([7, 5], [7]), ([2, 5, 8], [2, 5, 8]), ([9, 8, 0, 1, 2, 3, 4, 5, 6, 7, 8, 9], [9])])
def script_Tell.B1 : List Nat := [0, 1, 3, 0, 8, 31, 0, 64, 255, 511, 1023]
theorem script_Tell.tab1 : rtab .any (opsOf Tryz.f18 1) = script_Tell.T1 := by kernel_rfl
theorem script_Tell.bits1 : waitsOk script_Tell.T1.2 script_Tell.B1 = true := by kernel_rfl
def script_Tell.T3 : Bool × List (List Nat × List Nat) := (true, [([], []), ([], []), ([1], [1]), ([2], [2]), ([3], [3]), ([], []), ([5], [5]), ([6], [6]), ([7, 4], [7]), ([4, 8], [4, 8]), ([0, 9, 8], [0, 9]), ([10, 10, 0, 1, 2, 3, 4, 5, 6, 7, 8, 9, 10], [0, 10])])
def script_Tell.B3 : List Nat := [0, 0, 2, 6, 14, 0, 32, 96, 254, 510, 1023, 2047]
theorem script_Tell.tab3 : rtab .any (opsOf Tryz.f18 3) = script_Tell.T3 := by kernel_rfl
theorem script_Tell.bits3 : waitsOk script_Tell.T3.2 script_Tell.B3 = true := by kernel_rfl
def script_Tell.T13 : Bool × List (List Nat × List Nat) := (true, [([], []), ([], []), ([1], [1]), ([2], [2]), ([], []), ([4], [4]), ([5], [5]), ([6, 3], [6]), ([3, 7], [3, 7]), ([0, 8, 7], [0, 8]), ([9, 9, 0, 1, 2, 3, 4, 5, 6, 7, 8, 9], [0, 9])])
def script_Tell.B13 : List Nat := [0, 0, 2, 6, 0, 16, 48, 126, 254, 511, 1023]
theorem script_Tell.tab13 : rtab .any (opsOf Tryz.f18 13) = script_Tell.T13 := by kernel_rfl
theorem script_Tell.bits13 : waitsOk script_Tell.T13.2 script_Tell.B13 = true := by kernel_rfl
theorem script_Tell.c144 {w : World} {g : Nat} {a0_0 : Int} {a0_1 : Int} {a0_2 : Int} {a0_3 : Int} {a0_4 : Int} {a0_5 : Bool} {A0_6 : Option Addr} {c0_6 : Nat} {l0_6 : List Int} {A0_7 : Option Addr} {c0_7 : Nat} {l0_7 : List (S62)} {a0_8 : Bool} {a0_9 : Int} (h : w.heap[g]? = some (.cells #[.int .i64 a0_0, .int .i64 a0_1, .int .i64 a0_2, .int .i64 a0_3, .int .i64 a0_4, .bool a0_5, .slice A0_6 l0_6.length c0_6, .slice A0_7 l0_7.length c0_7, .bool a0_8, .int .i64 a0_9] 41 (0, 0))) : (w.cell? ⟨g, 0, none⟩ = some (.int .i64 a0_0) ∧ w.cell? ⟨g, 1, none⟩ = some (.int .i64 a0_1) ∧ w.cell? ⟨g, 2, none⟩ = some (.int .i64 a0_2) ∧ w.cell? ⟨g, 3, none⟩ = some (.int .i64 a0_3) ∧ w.cell? ⟨g, 4, none⟩ = some (.int .i64 a0_4) ∧ w.cell? ⟨g, 5, none⟩ = some (.bool a0_5) ∧ w.cell? ⟨g, 6, none⟩ = some (.slice A0_6 l0_6.length c0_6) ∧ w.cell? ⟨g, 7, none⟩ = some (.slice A0_7 l0_7.length c0_7) ∧ w.cell? ⟨g, 8, none⟩ = some (.bool a0_8) ∧ w.cell? ⟨g, 9, none⟩ = some (.int .i64 a0_9)) ∧ w.frozen? ⟨g, 0, none⟩ = false ∧ w.frozen? ⟨g, 1, none⟩ = false ∧ w.frozen? ⟨g, 2, none⟩ = false ∧ w.frozen? ⟨g, 3, none⟩ = false ∧ w.frozen? ⟨g, 4, none⟩ = false ∧ w.frozen? ⟨g, 5, none⟩ = false ∧ w.frozen? ⟨g, 6, none⟩ = false ∧ w.frozen? ⟨g, 7, none⟩ = false ∧ w.frozen? ⟨g, 8, none⟩ = false ∧ w.frozen? ⟨g, 9, none⟩ = false := ⟨(c10_ h), blk_frozen h 0, blk_frozen h 1, blk_frozen h 2, blk_frozen h 3, blk_frozen h 4, blk_frozen h 5, blk_frozen h 6, blk_frozen h 7, blk_frozen h 8, blk_frozen h 9⟩
theorem script_Tell.calls (k : Nat) (a0_0 : Int) (a0_1 : Int) (a0_2 : Int) (a0_3 : Int) (a0_4 : Int) (a0_5 : Bool) (A0_6 : Option Addr) (c0_6 : Nat) (l0_6 : List Int) (A0_7 : Option Addr) (c0_7 : Nat) (l0_7 : List (S62)) (a0_8 : Bool) (a0_9 : Int) (r : ByteArray) (w : World) (hr0_6 : Kd.C (Kd.int .u8) w A0_6 l0_6.length l0_6) (hc0_6 : l0_6.length ≤ c0_6) (hr0_7 : Kd.C k62 w A0_7 l0_7.length l0_7) (hc0_7 : l0_7.length ≤ c0_7) (hE : sc.Env w) (h : script_Tell.f k a0_0 a0_1 a0_2 a0_3 a0_4 a0_5 l0_6 l0_7 a0_8 a0_9 = some r) :
 Calls Tryz.prog 18 #[.agg #[.int .i64 a0_0, .int .i64 a0_1, .int .i64 a0_2, .int .i64 a0_3, .int .i64 a0_4, .bool a0_5, .slice A0_6 l0_6.length c0_6, .slice A0_7 l0_7.length c0_7, .bool a0_8, .int .i64 a0_9]] w fun e w' => e = .returned (.string r) ∧ Below w.heap.size w w' := by
 have hu41 := Tryz.underlying41
 have hu37 := Tryz.underlying37
 have hu62 := Tryz.underlying62
 have HR0_6 := am_ hr0_6
 have HC0_6 := am_ hc0_6
 clear hr0_6 hc0_6
 have HR0_7 := am_ hr0_7
 have HC0_7 := am_ hc0_7
 clear hr0_7 hc0_7
 have HE := am_ hE
 clear hE
 have HB := am_ (Below.refl w.heap.size w)
 have H : ((script_number.f a0_0).bind fun t145 => ((script_number.f a0_1).bind fun t146 => ((script_number.f a0_2).bind fun t147 => ((some (([(⟨#[115, 108, 111, 116]⟩ : ByteArray), t145, (⟨#[115, 101, 115, 115, 105, 111, 110]⟩ : ByteArray), t146, (⟨#[99, 111, 100, 101]⟩ : ByteArray), t147] : List ByteArray) : List ByteArray)).bind fun y148 => (if (!(a0_3 == 0) || (!(a0_4 == 0))) = true then ((script_number.f a0_3).bind fun t151 => ((script_number.f a0_4).bind fun t152 => ((some (([(⟨#[116, 120, 110]⟩ : ByteArray), t151, t152] : List ByteArray) : List ByteArray)).bind fun y153 => (if y148.length + y153.length < 8796093022208 then (script_Tell.j0 k (y148 ++ y153) a0_0 a0_1 a0_2 a0_3 a0_4 a0_5 l0_6 l0_7 a0_8 a0_9) else (none))))) else (script_Tell.j0 k y148 a0_0 a0_1 a0_2 a0_3 a0_4 a0_5 l0_6 l0_7 a0_8 a0_9)))))) = some r := h
 clear h
 replace H := Option.bind_eq_some_iff.mp H
 obtain ⟨t145, A20, H⟩ := H
 have A2 := am_ A20
 clear A20
 replace H := Option.bind_eq_some_iff.mp H
 obtain ⟨t146, A30, H⟩ := H
 have A3 := am_ A30
 clear A30
 replace H := Option.bind_eq_some_iff.mp H
 obtain ⟨t147, A40, H⟩ := H
 have A4 := am_ A40
 clear A40
 obtain ⟨y148, hy148⟩ : ∃ y_ : List ByteArray, y_ = (([(⟨#[115, 108, 111, 116]⟩ : ByteArray), t145, (⟨#[115, 101, 115, 115, 105, 111, 110]⟩ : ByteArray), t146, (⟨#[99, 111, 100, 101]⟩ : ByteArray), t147] : List ByteArray)) := ⟨_, rfl⟩
 replace H : (if (!(a0_3 == 0) || (!(a0_4 == 0))) = true then ((script_number.f a0_3).bind fun t151 => ((script_number.f a0_4).bind fun t152 => ((some (([(⟨#[116, 120, 110]⟩ : ByteArray), t151, t152] : List ByteArray) : List ByteArray)).bind fun y153 => (if y148.length + y153.length < 8796093022208 then (script_Tell.j0 k (y148 ++ y153) a0_0 a0_1 a0_2 a0_3 a0_4 a0_5 l0_6 l0_7 a0_8 a0_9) else (none))))) else (script_Tell.j0 k y148 a0_0 a0_1 a0_2 a0_3 a0_4 a0_5 l0_6 l0_7 a0_8 a0_9)) = some r := by first | (rw [hy148]; with_reducible exact H) | (have H2_ := (Option.bind_some _ _).symm.trans H; rw [hy148]; with_reducible exact H2_) | (have H2_ := (Option.bind_some _ _).symm.trans H; with_reducible exact H2_) | with_reducible exact H | (rw [hy148]; exact H) | exact H
 have Ny148 := am_ hy148
 clear hy148
 have HC5 := am_ H
 clear H
 go_enter Tryz.func18, Tryz.ntmps18
 try go_wp2_with (first | ((with_reducible refine gate_dst (N := 1) rfl ?_); refine box_event ?hg (N := 1) ?hd (cs := #[.int .i64 a0_0, .int .i64 a0_1, .int .i64 a0_2, .int .i64 a0_3, .int .i64 a0_4, .bool a0_5, .slice A0_6 l0_6.length c0_6, .slice A0_7 l0_7.length c0_7, .bool a0_8, .int .i64 a0_9]) (t := 41) ?hr ?_; (case hd => rfl); (case hg => rfl); (case hr => first | (go_simp; done) | (go_simp; rfl)); intro gb144 hg w6 hbox hb; have BK144 := am_ (hbox); have GW144 := am_ ((by rw [hg]; exact (below_size (by repeat (first | (with_reducible first | exact HB.out | apply b1_ | apply b2_ | apply b3_) | exact HB.out))) : w.heap.size ≤ gb144)); have GE144 := am_ ((by rw [hg]; exact (below_size (by repeat (first | (with_reducible first | exact HB.out | apply b1_ | apply b2_ | apply b3_) | exact HB.out))) : w.heap.size ≤ gb144)); replace HB := am_ (below_step (by repeat (first | (with_reducible first | exact HB.out | apply b1_ | apply b2_ | apply b3_) | exact HB.out)) hb); clear hb hbox hg))
 replace BK144 := am_ (d2_ BK144.out)
 replace HB := am_ (b3_ HB.out)
 refine start_ (n := 11) (S := fun w' => w'.cell? ⟨gb144, 0, none⟩ = some (.int .i64 a0_0) ∧ w'.cell? ⟨gb144, 1, none⟩ = some (.int .i64 a0_1) ∧ w'.cell? ⟨gb144, 2, none⟩ = some (.int .i64 a0_2) ∧ w'.cell? ⟨gb144, 3, none⟩ = some (.int .i64 a0_3) ∧ w'.cell? ⟨gb144, 4, none⟩ = some (.int .i64 a0_4) ∧ w'.cell? ⟨gb144, 5, none⟩ = some (.bool a0_5) ∧ w'.cell? ⟨gb144, 6, none⟩ = some (.slice A0_6 l0_6.length c0_6) ∧ w'.cell? ⟨gb144, 7, none⟩ = some (.slice A0_7 l0_7.length c0_7) ∧ w'.cell? ⟨gb144, 8, none⟩ = some (.bool a0_8) ∧ w'.cell? ⟨gb144, 9, none⟩ = some (.int .i64 a0_9)) (ds := []) #[false, false, false, false, false, false, false, false, false, false, false] (by kernel_rfl) rfl rfl (script_Tell.c144 BK144.out).1 (fun hHeld => ?_); refine with_tabW script_Tell.tab1 script_Tell.bits1 (fun HT_ HW_ => ?_)
 generalize w6.drew = w7 at BK144 HB hHeld ⊢
 refine pu_ 0 6 (bs_ 11 1) rfl rfl (any_of HT_.out (by kernel_rfl)) rfl (by intro w'; go_simp; with_reducible rfl) (by simp only [Act.put, aS, aZ, aC, i64_w, i32_w]; rfl) (fun _ _ _ h => h) ?_
 refine pu_ 3 9 (bs_ 11 9) rfl rfl (any_of HT_.out (by kernel_rfl)) rfl (by intro w'; go_simp; with_reducible rfl) (by simp only [Act.put, aS, aZ, aC, i64_w, i32_w]; rfl) (fun _ _ _ h => h) ?_
 refine pu_ 6 12 (bs_ 11 73) rfl rfl (any_of HT_.out (by kernel_rfl)) rfl (by intro w'; go_simp; with_reducible rfl) (by simp only [Act.put, aS, aZ, aC, i64_w, i32_w]; rfl) (fun _ _ _ h => h) ?_
 refine ta_ 1 7 (bs_ 11 75) rfl rfl (take_ofW HT_.out HW_.out (by kernel_rfl)) rfl (by rintro w' ⟨s0, s1, s2, s3, s4, s5, s6, s7, s8, s9⟩; go_simp; with_reducible rfl) hHeld (by simp only [Act.put, aS, aZ, aC, i64_w, i32_w]; rfl) (fun _ _ _ h => h) ?_
 refine ta_ 4 10 (bs_ 11 91) rfl rfl (take_ofW HT_.out HW_.out (by kernel_rfl)) rfl (by rintro w' ⟨s0, s1, s2, s3, s4, s5, s6, s7, s8, s9⟩; go_simp; with_reducible rfl) hHeld (by simp only [Act.put, aS, aZ, aC, i64_w, i32_w]; rfl) (fun _ _ _ h => h) ?_
 refine ta_ 7 13 (bs_ 11 219) rfl rfl (take_ofW HT_.out HW_.out (by kernel_rfl)) rfl (by rintro w' ⟨s0, s1, s2, s3, s4, s5, s6, s7, s8, s9⟩; go_simp; with_reducible rfl) hHeld (by simp only [Act.put, aS, aZ, aC, i64_w, i32_w]; rfl) (fun _ _ _ h => h) ?_
 refine one_ (i := 2) (N := some 8) (bs_ 11 223) rfl rfl (one_of HT_.out (by kernel_rfl)) (by decide) (fun K hK => ?_)
 refine goes_ Tryz.func33 (by kernel_rfl) rfl #[.int .i64 a0_0] (by rfl) rfl rfl (by (try simp only [aT, aK, aL]); first | done | rfl | (simp only [List.length_drop, List.length_take]; rfl)) ?_
 with_reducible refine (script_number.calls a0_0 t145 _ ?side1 A2.out).mono ?_
 (case side1 => exact sc.Env.below HE.out (by repeat (first | (with_reducible first | exact HB.out | apply b1_ | apply b2_ | apply b3_ | refine b4_ ?_ GE144.out) | exact HB.out)))
 rintro e w8 ⟨rfl, hb⟩
 refine ⟨_, rfl, ?_⟩
 replace BK144 := am_ (blk_below (by (with_reducible repeat (first | refine d1_ ?_ _ | refine d2_ ?_ | refine d3_ ?_ _)); exact BK144.out) hb)
 replace HB := am_ (below_step (by repeat (first | (with_reducible first | exact HB.out | apply b1_ | apply b2_ | apply b3_ | refine b4_ ?_ GE144.out) | exact HB.out)) hb)
 (try clear hb)
 (try clear hk)
 refine hK.out _ _ (script_Tell.c144 BK144.out).1 (fun hHeld => ?_)
 clear hK K
 refine no_ (by simp only [Act.put, aS, aZ, aC, i64_w, i32_w]; rfl) ?_
 refine one_ (i := 5) (N := some 11) (bs_ 11 255) rfl rfl (one_of HT_.out (by kernel_rfl)) (by decide) (fun K hK => ?_)
 refine goes_ Tryz.func33 (by kernel_rfl) rfl #[.int .i64 a0_1] (by rfl) rfl rfl (by (try simp only [aT, aK, aL]); first | done | rfl | (simp only [List.length_drop, List.length_take]; rfl)) ?_
 with_reducible refine (script_number.calls a0_1 t146 _ ?side1 A3.out).mono ?_
 (case side1 => exact sc.Env.below HE.out (by repeat (first | (with_reducible first | exact HB.out | apply b1_ | apply b2_ | apply b3_ | refine b4_ ?_ GE144.out) | exact HB.out)))
 rintro e w9 ⟨rfl, hb⟩
 refine ⟨_, rfl, ?_⟩
 replace BK144 := am_ (blk_below (by (with_reducible repeat (first | refine d1_ ?_ _ | refine d2_ ?_ | refine d3_ ?_ _)); exact BK144.out) hb)
 replace HB := am_ (below_step (by repeat (first | (with_reducible first | exact HB.out | apply b1_ | apply b2_ | apply b3_ | refine b4_ ?_ GE144.out) | exact HB.out)) hb)
 (try clear hb)
 (try clear hk)
 refine hK.out _ _ (script_Tell.c144 BK144.out).1 (fun hHeld => ?_)
 clear hK K
 refine no_ (by simp only [Act.put, aS, aZ, aC, i64_w, i32_w]; rfl) ?_
 refine one_ (i := 8) (N := some 14) (bs_ 11 511) rfl rfl (one_of HT_.out (by kernel_rfl)) (by decide) (fun K hK => ?_)
 refine goes_ Tryz.func33 (by kernel_rfl) rfl #[.int .i64 a0_2] (by rfl) rfl rfl (by (try simp only [aT, aK, aL]); first | done | rfl | (simp only [List.length_drop, List.length_take]; rfl)) ?_
 with_reducible refine (script_number.calls a0_2 t147 _ ?side1 A4.out).mono ?_
 (case side1 => exact sc.Env.below HE.out (by repeat (first | (with_reducible first | exact HB.out | apply b1_ | apply b2_ | apply b3_ | refine b4_ ?_ GE144.out) | exact HB.out)))
 rintro e w10 ⟨rfl, hb⟩
 refine ⟨_, rfl, ?_⟩
 replace BK144 := am_ (blk_below (by (with_reducible repeat (first | refine d1_ ?_ _ | refine d2_ ?_ | refine d3_ ?_ _)); exact BK144.out) hb)
 replace HB := am_ (below_step (by repeat (first | (with_reducible first | exact HB.out | apply b1_ | apply b2_ | apply b3_ | refine b4_ ?_ GE144.out) | exact HB.out)) hb)
 (try clear hb)
 (try clear hk)
 refine hK.out _ _ (script_Tell.c144 BK144.out).1 (fun hHeld => ?_)
 clear hK K
 refine no_ (by simp only [Act.put, aS, aZ, aC, i64_w, i32_w]; rfl) ?_
 refine one_ (i := 9) (N := some 15) (bs_ 11 1023) rfl rfl (one_of HT_.out (by kernel_rfl)) (by decide) (fun K hK => ?_)
 refine Kd.R_lit_step Kd.string _ 9 ?hg (N := 15) ?hd (xs := ([(⟨#[115, 108, 111, 116]⟩ : ByteArray), t145, (⟨#[115, 101, 115, 115, 105, 111, 110]⟩ : ByteArray), t146, (⟨#[99, 111, 100, 101]⟩ : ByteArray), t147] : List ByteArray)) (inner := [.string (⟨#[115, 108, 111, 116]⟩ : ByteArray), .string t145, .string (⟨#[115, 101, 115, 115, 105, 111, 110]⟩ : ByteArray), .string t146, .string (⟨#[99, 111, 100, 101]⟩ : ByteArray), .string t147]) (ok := fun _ => True) (okp := fun _ => True) ?hr ?hp (fun _ hk => hk) trivial (Below.refl _ _) (Nat.le_refl _) (by simp) ?_; (case hd => rfl); (case hg => rfl); (case hr => first | (go_simp; done) | (go_simp; rfl)); (case hp => exact (Reps.one (show Kd.M Kd.string _ _ _ (⟨#[115, 108, 111, 116]⟩ : ByteArray) [.string (⟨#[115, 108, 111, 116]⟩ : ByteArray)] from rfl) (Reps.one (show Kd.M Kd.string _ _ _ t145 [.string t145] from rfl) (Reps.one (show Kd.M Kd.string _ _ _ (⟨#[115, 101, 115, 115, 105, 111, 110]⟩ : ByteArray) [.string (⟨#[115, 101, 115, 115, 105, 111, 110]⟩ : ByteArray)] from rfl) (Reps.one (show Kd.M Kd.string _ _ _ t146 [.string t146] from rfl) (Reps.one (show Kd.M Kd.string _ _ _ (⟨#[99, 111, 100, 101]⟩ : ByteArray) [.string (⟨#[99, 111, 100, 101]⟩ : ByteArray)] from rfl) (Reps.one (show Kd.M Kd.string _ _ _ t147 [.string t147] from rfl) (Reps.none _ _))))))))
 intro v149 w11 ho12 hb hg_ hnew_
 clear hg_ hnew_
 (first | rw [← Ny148.out] at ho12 | (simp only [Int.reduceToNat] at ho12; rw [← Ny148.out] at ho12))
 have HO150 := am_ (Kd.R_lower ho12 (below_size (by repeat (first | (with_reducible first | exact HB.out | apply b1_ | apply b2_ | apply b3_ | refine b4_ ?_ GE144.out) | exact HB.out))))
 replace BK144 := am_ (blk_below (by (with_reducible repeat (first | refine d1_ ?_ _ | refine d2_ ?_ | refine d3_ ?_ _)); exact BK144.out) hb)
 replace HB := am_ (below_step (by repeat (first | (with_reducible first | exact HB.out | apply b1_ | apply b2_ | apply b3_ | refine b4_ ?_ GE144.out) | exact HB.out)) hb)
 clear hb ho12
 refine hK.out _ _ (script_Tell.c144 BK144.out).1 (fun hHeld => ?_)
 clear hK K
 refine no_ (by simp only [Act.put, aS, aZ, aC, i64_w, i32_w]; rfl) ?_
 refine pu_ 10 3 (bs_ 11 2047) rfl rfl (any_of HT_.out (by kernel_rfl)) rfl (by intro w'; go_simp; with_reducible rfl) (by simp only [Act.put, aS, aZ, aC, i64_w, i32_w]; rfl) (fun _ _ _ h => h) ?_
 refine done_ (done_of HT_.out (by kernel_rfl)) ?_
 obtain ⟨⟨hcz13_0, hcz13_1, hcz13_2, hcz13_3, hcz13_4, hcz13_5, hcz13_6, hcz13_7, hcz13_8, hcz13_9⟩, hfz13_0, hfz13_1, hfz13_2, hfz13_3, hfz13_4, hfz13_5, hfz13_6, hfz13_7, hfz13_8, hfz13_9⟩ := script_Tell.c144 BK144.out
 go_upto_if 19 with (fail)
 go_cut [3] (fun v3 wc => ∃ (kq : Nat) (x3_4 : List ByteArray), Aside0 (script_Tell.j0 kq x3_4 a0_0 a0_1 a0_2 a0_3 a0_4 a0_5 l0_6 l0_7 a0_8 a0_9 = some r) ∧ Aside0 (kq ≤ k) ∧ Aside0 (Kd.R Kd.string 9 wc w.heap.size (fun _ => True) v3 x3_4) ∧ Aside0 (wc.heap[gb144]? = some (.cells #[.int .i64 a0_0, .int .i64 a0_1, .int .i64 a0_2, .int .i64 a0_3, .int .i64 a0_4, .bool a0_5, (.slice A0_6 l0_6.length c0_6), (.slice A0_7 l0_7.length c0_7), .bool a0_8, .int .i64 a0_9] 41 (0, 0))) ∧ Aside0 (Below w.heap.size w wc))
 case first =>
  have H := HC5.out
  clear HC5
  by_cases c14 : (!(a0_3 == 0) || (!(a0_4 == 0))) = true
  · rw [if_pos c14] at H
    have c14b0 : (!(a0_3 == 0) || (!(a0_4 == 0))) = true := c14
    clear c14
    (first | rw [c14b0] | rw [c14b1] | rw [c14b2] | (simp only [i64_w, i32_w]; rw [c14b0]) | (simp only [i64_w, i32_w]; rw [c14b1]) | skip)
    replace H := Option.bind_eq_some_iff.mp H
    obtain ⟨t151, A150, H⟩ := H
    have A15 := am_ A150
    clear A150
    replace H := Option.bind_eq_some_iff.mp H
    obtain ⟨t152, A160, H⟩ := H
    have A16 := am_ A160
    clear A160
    obtain ⟨y153, hy153⟩ : ∃ y_ : List ByteArray, y_ = (([(⟨#[116, 120, 110]⟩ : ByteArray), t151, t152] : List ByteArray)) := ⟨_, rfl⟩
    replace H : (if y148.length + y153.length < 8796093022208 then (script_Tell.j0 k (y148 ++ y153) a0_0 a0_1 a0_2 a0_3 a0_4 a0_5 l0_6 l0_7 a0_8 a0_9) else (none)) = some r := by first | (rw [hy153]; with_reducible exact H) | (have H2_ := (Option.bind_some _ _).symm.trans H; rw [hy153]; with_reducible exact H2_) | (have H2_ := (Option.bind_some _ _).symm.trans H; with_reducible exact H2_) | with_reducible exact H | (rw [hy153]; exact H) | exact H
    have Ny153 := am_ hy153
    clear hy153
    by_cases c17 : y148.length + y153.length < 8796093022208
    · rw [if_pos c17] at H
      have LMc17 := am_ c17
      clear c17
      obtain ⟨y156, hy156⟩ : ∃ y_ : List ByteArray, y_ = (y148 ++ y153) := ⟨_, rfl⟩
      replace H : (script_Tell.j0 k y156 a0_0 a0_1 a0_2 a0_3 a0_4 a0_5 l0_6 l0_7 a0_8 a0_9) = some r := by first | (rw [hy156]; with_reducible exact H) | (have H2_ := (Option.bind_some _ _).symm.trans H; rw [hy156]; with_reducible exact H2_) | (have H2_ := (Option.bind_some _ _).symm.trans H; with_reducible exact H2_) | with_reducible exact H | (rw [hy156]; exact H) | exact H
      have Ny156 := am_ hy156
      clear hy156
      have H' := am_ H
      clear H
      try go_wp2
      replace HO150 := am_ (r3_ HO150.out)
      replace BK144 := am_ (d2_ BK144.out)
      replace HB := am_ (b3_ HB.out)
      refine start_ (n := 12) (S := fun w' => w'.cell? ⟨gb144, 0, none⟩ = some (.int .i64 a0_0) ∧ w'.cell? ⟨gb144, 1, none⟩ = some (.int .i64 a0_1) ∧ w'.cell? ⟨gb144, 2, none⟩ = some (.int .i64 a0_2) ∧ w'.cell? ⟨gb144, 3, none⟩ = some (.int .i64 a0_3) ∧ w'.cell? ⟨gb144, 4, none⟩ = some (.int .i64 a0_4) ∧ w'.cell? ⟨gb144, 5, none⟩ = some (.bool a0_5) ∧ w'.cell? ⟨gb144, 6, none⟩ = some (.slice A0_6 l0_6.length c0_6) ∧ w'.cell? ⟨gb144, 7, none⟩ = some (.slice A0_7 l0_7.length c0_7) ∧ w'.cell? ⟨gb144, 8, none⟩ = some (.bool a0_8) ∧ w'.cell? ⟨gb144, 9, none⟩ = some (.int .i64 a0_9)) (ds := []) #[false, false, false, false, false, false, false, false, false, false, false, false] (by kernel_rfl) rfl rfl (script_Tell.c144 BK144.out).1 (fun hHeld => ?_); refine with_tabW script_Tell.tab3 script_Tell.bits3 (fun HT_ HW_ => ?_)
      generalize w11.drew = w18 at HO150 BK144 HB hHeld ⊢
      refine pu_ 0 20 (bs_ 12 1) rfl rfl (any_of HT_.out (by kernel_rfl)) rfl (by intro w'; go_simp; with_reducible rfl) (by simp only [Act.put, aS, aZ, aC, i64_w, i32_w]; rfl) (fun _ _ _ h => h) ?_
      refine pu_ 1 21 (bs_ 12 3) rfl rfl (any_of HT_.out (by kernel_rfl)) rfl (by intro w'; go_simp; with_reducible rfl) (by simp only [Act.put, aS, aZ, aC, i64_w, i32_w]; rfl) (fun _ _ _ h => h) ?_
      refine pu_ 2 22 (bs_ 12 7) rfl rfl (any_of HT_.out (by kernel_rfl)) rfl (by intro w'; go_simp; with_reducible rfl) (by simp only [Act.put, aS, aZ, aC, i64_w, i32_w]; rfl) (fun _ _ _ h => h) ?_
      refine pu_ 5 25 (bs_ 12 39) rfl rfl (any_of HT_.out (by kernel_rfl)) rfl (by intro w'; go_simp; with_reducible rfl) (by simp only [Act.put, aS, aZ, aC, i64_w, i32_w]; rfl) (fun _ _ _ h => h) ?_
      refine pu_ 6 26 (bs_ 12 103) rfl rfl (any_of HT_.out (by kernel_rfl)) rfl (by intro w'; go_simp; with_reducible rfl) (by simp only [Act.put, aS, aZ, aC, i64_w, i32_w]; rfl) (fun _ _ _ h => h) ?_
      refine ta_ 3 23 (bs_ 12 111) rfl rfl (take_ofW HT_.out HW_.out (by kernel_rfl)) rfl (by rintro w' ⟨s0, s1, s2, s3, s4, s5, s6, s7, s8, s9⟩; go_simp; with_reducible rfl) hHeld (by simp only [Act.put, aS, aZ, aC, i64_w, i32_w]; rfl) (fun _ _ _ h => h) ?_
      refine ta_ 7 27 (bs_ 12 239) rfl rfl (take_ofW HT_.out HW_.out (by kernel_rfl)) rfl (by rintro w' ⟨s0, s1, s2, s3, s4, s5, s6, s7, s8, s9⟩; go_simp; with_reducible rfl) hHeld (by simp only [Act.put, aS, aZ, aC, i64_w, i32_w]; rfl) (fun _ _ _ h => h) ?_
      refine one_ (i := 4) (N := some 24) (bs_ 12 255) rfl rfl (one_of HT_.out (by kernel_rfl)) (by decide) (fun K hK => ?_)
      refine goes_ Tryz.func33 (by kernel_rfl) rfl #[.int .i64 a0_3] (by rfl) rfl rfl (by (try simp only [aT, aK, aL]); first | done | rfl | (simp only [List.length_drop, List.length_take]; rfl)) ?_
      with_reducible refine (script_number.calls a0_3 t151 _ ?side1 A15.out).mono ?_
      (case side1 => exact sc.Env.below HE.out (by repeat (first | (with_reducible first | exact HB.out | apply b1_ | apply b2_ | apply b3_ | refine b4_ ?_ GE144.out) | exact HB.out)))
      rintro e w19 ⟨rfl, hb⟩
      refine ⟨_, rfl, ?_⟩
      replace HO150 := am_ (Kd.R_below (by (with_reducible repeat (first | apply r1_ | apply r2_ | apply r3_)); exact HO150.out) hb)
      replace BK144 := am_ (blk_below (by (with_reducible repeat (first | refine d1_ ?_ _ | refine d2_ ?_ | refine d3_ ?_ _)); exact BK144.out) hb)
      replace HB := am_ (below_step (by repeat (first | (with_reducible first | exact HB.out | apply b1_ | apply b2_ | apply b3_ | refine b4_ ?_ GE144.out) | exact HB.out)) hb)
      (try clear hb)
      (try clear hk)
      refine hK.out _ _ (script_Tell.c144 BK144.out).1 (fun hHeld => ?_)
      clear hK K
      refine no_ (by simp only [Act.put, aS, aZ, aC, i64_w, i32_w]; rfl) ?_
      refine one_ (i := 8) (N := some 28) (bs_ 12 511) rfl rfl (one_of HT_.out (by kernel_rfl)) (by decide) (fun K hK => ?_)
      refine goes_ Tryz.func33 (by kernel_rfl) rfl #[.int .i64 a0_4] (by rfl) rfl rfl (by (try simp only [aT, aK, aL]); first | done | rfl | (simp only [List.length_drop, List.length_take]; rfl)) ?_
      with_reducible refine (script_number.calls a0_4 t152 _ ?side1 A16.out).mono ?_
      (case side1 => exact sc.Env.below HE.out (by repeat (first | (with_reducible first | exact HB.out | apply b1_ | apply b2_ | apply b3_ | refine b4_ ?_ GE144.out) | exact HB.out)))
      rintro e w20 ⟨rfl, hb⟩
      refine ⟨_, rfl, ?_⟩
      replace HO150 := am_ (Kd.R_below (by (with_reducible repeat (first | apply r1_ | apply r2_ | apply r3_)); exact HO150.out) hb)
      replace BK144 := am_ (blk_below (by (with_reducible repeat (first | refine d1_ ?_ _ | refine d2_ ?_ | refine d3_ ?_ _)); exact BK144.out) hb)
      replace HB := am_ (below_step (by repeat (first | (with_reducible first | exact HB.out | apply b1_ | apply b2_ | apply b3_ | refine b4_ ?_ GE144.out) | exact HB.out)) hb)
      (try clear hb)
      (try clear hk)
      refine hK.out _ _ (script_Tell.c144 BK144.out).1 (fun hHeld => ?_)
      clear hK K
      refine no_ (by simp only [Act.put, aS, aZ, aC, i64_w, i32_w]; rfl) ?_
      refine one_ (i := 9) (N := some 29) (bs_ 12 1023) rfl rfl (one_of HT_.out (by kernel_rfl)) (by decide) (fun K hK => ?_)
      refine Kd.R_lit_step Kd.string _ 9 ?hg (N := 29) ?hd (xs := ([(⟨#[116, 120, 110]⟩ : ByteArray), t151, t152] : List ByteArray)) (inner := [.string (⟨#[116, 120, 110]⟩ : ByteArray), .string t151, .string t152]) (ok := fun _ => True) (okp := fun _ => True) ?hr ?hp (fun _ hk => hk) trivial (Below.refl _ _) (Nat.le_refl _) (by simp) ?_; (case hd => rfl); (case hg => rfl); (case hr => first | (go_simp; done) | (go_simp; rfl)); (case hp => exact (Reps.one (show Kd.M Kd.string _ _ _ (⟨#[116, 120, 110]⟩ : ByteArray) [.string (⟨#[116, 120, 110]⟩ : ByteArray)] from rfl) (Reps.one (show Kd.M Kd.string _ _ _ t151 [.string t151] from rfl) (Reps.one (show Kd.M Kd.string _ _ _ t152 [.string t152] from rfl) (Reps.none _ _)))))
      intro v154 w21 ho22 hb hg_ hnew_
      clear hg_ hnew_
      (first | rw [← Ny153.out] at ho22 | (simp only [Int.reduceToNat] at ho22; rw [← Ny153.out] at ho22))
      have HO155 := am_ (Kd.R_lower (Kd.R_new' ho22 (Kd.R_lt (by (with_reducible repeat (first | apply r1_ | apply r2_ | apply r3_)); exact HO150.out))) (below_size (by repeat (first | (with_reducible first | exact HB.out | apply b1_ | apply b2_ | apply b3_ | refine b4_ ?_ GE144.out) | exact HB.out))))
      replace HO150 := am_ (Kd.R_elder' (by (with_reducible repeat (first | apply r1_ | apply r2_ | apply r3_)); exact HO150.out) (Kd.R_base ho22) hb)
      replace BK144 := am_ (blk_below (by (with_reducible repeat (first | refine d1_ ?_ _ | refine d2_ ?_ | refine d3_ ?_ _)); exact BK144.out) hb)
      replace HB := am_ (below_step (by repeat (first | (with_reducible first | exact HB.out | apply b1_ | apply b2_ | apply b3_ | refine b4_ ?_ GE144.out) | exact HB.out)) hb)
      clear hb ho22
      obtain ⟨Ao24, co24, eo24⟩ := Kd.R_slice HO155.out
      (first | subst eo24 | (injection eo24 with f1_ f2_ f3_; have f4_ := f1_.symm; have f5_ := f3_.symm; clear f1_ f2_ f3_; subst f4_; subst f5_))
      refine hK.out _ _ (script_Tell.c144 BK144.out).1 (fun hHeld => ?_)
      clear hK K
      refine no_ (by simp only [Act.put, aS, aZ, aC, i64_w, i32_w]; rfl) ?_
      refine one_ (i := 10) (N := some 30) (bs_ 12 2047) rfl rfl (one_of HT_.out (by kernel_rfl)) (by decide) (fun K hK => ?_)
      refine Kd.R_append_rows_step Kd.string (w0 := w) w.heap.size (by rfl) (.tmp 20) (.tmp 29) 71 9 (.string ⟨#[]⟩) 16 rfl Tryz.underlying71 info9 rfl (by decide) (by omega) v149 y148 y153 _ _ _ (fun k_ => some k_ ≠ (.slice Ao24 y153.length co24 : Value).ownBlock) (fun _ => False) rfl rfl ?aO ?aR (fun _ _ h => h) (fun _ h => h.elim) ?aF ?aB ?aS ?aL ?_
      (case aR => repeat (first | exact (Kd.R_reads' HO155.out).2.2 | (with_reducible refine Kd.C_alloc ?_ _) | (with_reducible refine Kd.C_drewN ?_ _) | (with_reducible refine Kd.C_drew ?_)))
      (case aB => exact (by repeat (first | (with_reducible first | exact HB.out | apply b1_ | apply b2_ | apply b3_ | refine b4_ ?_ GE144.out) | exact HB.out)))
      (case aF => exact (fun k_ hk => Kd.fresh' (Kd.R_lt (by (with_reducible repeat (first | apply r1_ | apply r2_ | apply r3_)); exact HO155.out)) k_ hk))
      (case aO => exact (by (with_reducible repeat (first | apply r1_ | apply r2_ | apply r3_)); exact Kd.R_mono HO150.out (fun _ hk => hk.2)))
      (case aS => exact (below_size (by repeat (first | (with_reducible first | exact HB.out | apply b1_ | apply b2_ | apply b3_ | refine b4_ ?_ GE144.out) | exact HB.out))))
      (case aL => have := LMc17.out; omega)
      intro v157 w23 ho hb hg hat
      rw [← Ny156.out] at ho
      replace BK144 := am_ (blk_grown (g := gb144) (o := .cells #[.int .i64 a0_0, .int .i64 a0_1, .int .i64 a0_2, .int .i64 a0_3, .int .i64 a0_4, .bool a0_5, .slice A0_6 l0_6.length c0_6, .slice A0_7 l0_7.length c0_7, .bool a0_8, .int .i64 a0_9] 41 (0, 0)) (by (with_reducible repeat (first | refine d1_ ?_ _ | refine d2_ ?_ | refine d3_ ?_ _)); exact BK144.out) hg (Kd.R_ne HO150.out BK144.out (by decide)))
      replace HO155 := am_ (Kd.R_after (ok := (fun _ => True)) (by (with_reducible repeat (first | apply r1_ | apply r2_ | apply r3_)); exact HO155.out) hg hat)
      replace HB := am_ (hb)
      have HO158 := am_ (ho)
      clear HO150
      clear ho hb hg hat
      refine hK.out _ _ (script_Tell.c144 BK144.out).1 (fun hHeld => ?_)
      clear hK K
      refine no_ (by simp only [Act.put, aS, aZ, aC, i64_w, i32_w]; rfl) ?_
      refine pu_ 11 3 (bs_ 12 4095) rfl rfl (any_of HT_.out (by kernel_rfl)) rfl (by intro w'; go_simp; with_reducible rfl) (by simp only [Act.put, aS, aZ, aC, i64_w, i32_w]; rfl) (fun _ _ _ h => h) ?_
      refine done_ (done_of HT_.out (by kernel_rfl)) ?_
      try go_wp2
      go_meet
      case rel => exact ⟨_, (y156), H', ⟨by first | omega | exact Nat.le_refl _⟩, ⟨by (with_reducible repeat (first | apply r1_ | apply r2_ | apply r3_)); exact Kd.R_mono HO158.out (fun _ hk => trivial)⟩, ⟨by (with_reducible repeat (first | refine d1_ ?_ _ | refine d2_ ?_ | refine d3_ ?_ _)); exact BK144.out⟩, ⟨by repeat (first | (with_reducible first | exact HB.out | apply b1_ | apply b2_ | apply b3_ | refine b4_ ?_ GE144.out) | exact HB.out)⟩⟩
    rw [if_neg c17] at H
    exact absurd H (by simp)
  rw [if_neg c14] at H
  have c14b0 : (!(a0_3 == 0) || (!(a0_4 == 0))) = false := by simpa using c14
  clear c14
  (first | rw [c14b0] | rw [c14b1] | rw [c14b2] | (simp only [i64_w, i32_w]; rw [c14b0]) | (simp only [i64_w, i32_w]; rw [c14b1]) | skip)
  have H' := am_ H
  clear H
  go_wp2
  go_meet
  case rel => exact ⟨_, (y148), H', ⟨by first | omega | exact Nat.le_refl _⟩, ⟨by (with_reducible repeat (first | apply r1_ | apply r2_ | apply r3_)); exact HO150.out⟩, ⟨by (with_reducible repeat (first | refine d1_ ?_ _ | refine d2_ ?_ | refine d3_ ?_ _)); exact BK144.out⟩, ⟨by repeat (first | (with_reducible first | exact HB.out | apply b1_ | apply b2_ | apply b3_ | refine b4_ ?_ GE144.out) | exact HB.out)⟩⟩
 case rest =>
  clear HC5
  try clear c1
  try clear p2
  try clear c3
  try clear c14
  try clear c14b0
  try clear c14b1
  try clear c14b2
  try clear c17
  try clear c18
  try clear hcz13_0 hcz13_1 hcz13_2 hcz13_3 hcz13_4 hcz13_5 hcz13_6 hcz13_7 hcz13_8 hcz13_9 hfz13_0 hfz13_1 hfz13_2 hfz13_3 hfz13_4 hfz13_5 hfz13_6 hfz13_7 hfz13_8 hfz13_9
  obtain ⟨kq, x3_4, HA, HJ4, HO_3, BK144, HB⟩ := hcut
  cases kq with
  | zero => exact absurd HA.out (by simp [script_Tell.j0])
  | succ kj4 =>
   have H := HA.out
   clear HA
   simp only [script_Tell.j0] at H
   have HC25 := am_ H
   clear H
   obtain ⟨⟨hcz26_0, hcz26_1, hcz26_2, hcz26_3, hcz26_4, hcz26_5, hcz26_6, hcz26_7, hcz26_8, hcz26_9⟩, hfz26_0, hfz26_1, hfz26_2, hfz26_3, hfz26_4, hfz26_5, hfz26_6, hfz26_7, hfz26_8, hfz26_9⟩ := script_Tell.c144 BK144.out
   go_upto_if 32 with (fail)
   go_cut [3] (fun v3 wc => ∃ (kq : Nat) (x3_24 : List ByteArray), Aside0 (script_Tell.j1 kq x3_24 a0_0 a0_1 a0_2 a0_3 a0_4 a0_5 l0_6 l0_7 a0_8 a0_9 = some r) ∧ Aside0 (kq ≤ kj4) ∧ Aside0 (Kd.R Kd.string 9 wc w.heap.size (fun _ => True) v3 x3_24) ∧ Aside0 (wc.heap[gb144]? = some (.cells #[.int .i64 a0_0, .int .i64 a0_1, .int .i64 a0_2, .int .i64 a0_3, .int .i64 a0_4, .bool a0_5, (.slice A0_6 l0_6.length c0_6), (.slice A0_7 l0_7.length c0_7), .bool a0_8, .int .i64 a0_9] 41 (0, 0))) ∧ Aside0 (Below w.heap.size w wc))
   case first =>
    have H := HC25.out
    clear HC25
    by_cases c27 : a0_5 = true
    · subst c27
      have H1 : (if x3_4.length < 8796093022208 then (script_Tell.j1 kj4 (x3_4 ++ [(⟨#[102, 111, 117, 110, 100]⟩ : ByteArray)]) a0_0 a0_1 a0_2 a0_3 a0_4 true l0_6 l0_7 a0_8 a0_9) else (none)) = some r := by rw [if_pos rfl] at H; exact H
      clear H
      have H := H1
      clear H1
      by_cases c28 : x3_4.length < 8796093022208
      · rw [if_pos c28] at H
        have LMc28 := am_ c28
        clear c28
        obtain ⟨y159, hy159⟩ : ∃ y_ : List ByteArray, y_ = (x3_4 ++ [(⟨#[102, 111, 117, 110, 100]⟩ : ByteArray)]) := ⟨_, rfl⟩
        replace H : (script_Tell.j1 kj4 y159 a0_0 a0_1 a0_2 a0_3 a0_4 true l0_6 l0_7 a0_8 a0_9) = some r := by first | (rw [hy159]; with_reducible exact H) | (have H2_ := (Option.bind_some _ _).symm.trans H; rw [hy159]; with_reducible exact H2_) | (have H2_ := (Option.bind_some _ _).symm.trans H; with_reducible exact H2_) | with_reducible exact H | (rw [hy159]; exact H) | exact H
        have Ny159 := am_ hy159
        clear hy159
        have H' := am_ H
        clear H
        go_wp2_with (first | ((with_reducible refine gate_builtin (b := .append) (xs := #[.tmp 33, .tmp 34]) rfl ?_); at_builtin; refine Kd.R_append Kd.string (w0 := w) w.heap.size rfl (.tmp 33) (.tmp 34) 71 9 (.string ⟨#[]⟩) 16 rfl Tryz.underlying71 info9 rfl (by decide) (by omega) u3 x3_4 (⟨#[102, 111, 117, 110, 100]⟩ : ByteArray) [.string (⟨#[102, 111, 117, 110, 100]⟩ : ByteArray)] (fun _ => True) (fun _ => False) rfl rfl ?aP (fun _ hk => hk.elim) ?aF ?aO ?aB ?aS ?aL ?_; (case aP => exact rfl); (case aB => exact (by repeat (first | (with_reducible first | exact HB.out | apply b1_ | apply b2_ | apply b3_ | refine b4_ ?_ GE144.out) | exact HB.out))); (case aF => exact (fun _ _ => trivial)); (case aO => exact (by (with_reducible repeat (first | apply r1_ | apply r2_ | apply r3_)); exact HO_3.out)); (case aS => exact (below_size (by repeat (first | (with_reducible first | exact HB.out | apply b1_ | apply b2_ | apply b3_ | refine b4_ ?_ GE144.out) | exact HB.out)))); (case aL => have := LMc28.out; omega); intro v160 w29 ho hb hg hat; rw [← Ny159.out] at ho; replace BK144 := am_ (blk_grown (g := gb144) (o := .cells #[.int .i64 a0_0, .int .i64 a0_1, .int .i64 a0_2, .int .i64 a0_3, .int .i64 a0_4, .bool true, .slice A0_6 l0_6.length c0_6, .slice A0_7 l0_7.length c0_7, .bool a0_8, .int .i64 a0_9] 41 (0, 0)) (by (with_reducible repeat (first | refine d1_ ?_ _ | refine d2_ ?_ | refine d3_ ?_ _)); exact BK144.out) hg (Kd.R_ne HO_3.out BK144.out (by decide))); replace HB := am_ (hb); have HO161 := am_ (ho); clear HO_3; clear ho hb hg hat))
        go_meet
        case rel => exact ⟨_, (y159), H', ⟨by have := HJ4.out; first | omega | exact Nat.le_refl _⟩, ⟨by (with_reducible repeat (first | apply r1_ | apply r2_ | apply r3_)); exact HO161.out⟩, ⟨by (with_reducible repeat (first | refine d1_ ?_ _ | refine d2_ ?_ | refine d3_ ?_ _)); exact BK144.out⟩, ⟨by repeat (first | (with_reducible first | exact HB.out | apply b1_ | apply b2_ | apply b3_ | refine b4_ ?_ GE144.out) | exact HB.out)⟩⟩
      rw [if_neg c28] at H
      exact absurd H (by simp)
    replace c27 := Bool.eq_false_iff.mpr c27
    subst c27
    have H1 : (script_Tell.j1 kj4 x3_4 a0_0 a0_1 a0_2 a0_3 a0_4 false l0_6 l0_7 a0_8 a0_9) = some r := by rw [if_neg (show ¬ (false = true) by decide)] at H; exact H
    clear H
    have H := H1
    clear H1
    have H' := am_ H
    clear H
    go_wp2
    go_meet
    case rel => exact ⟨_, (x3_4), H', ⟨by have := HJ4.out; first | omega | exact Nat.le_refl _⟩, ⟨by (with_reducible repeat (first | apply r1_ | apply r2_ | apply r3_)); exact HO_3.out⟩, ⟨by (with_reducible repeat (first | refine d1_ ?_ _ | refine d2_ ?_ | refine d3_ ?_ _)); exact BK144.out⟩, ⟨by repeat (first | (with_reducible first | exact HB.out | apply b1_ | apply b2_ | apply b3_ | refine b4_ ?_ GE144.out) | exact HB.out)⟩⟩
   case rest =>
    clear HC25
    try clear c1
    try clear c2
    try clear p2
    try clear c3
    try clear c14
    try clear c14b0
    try clear c14b1
    try clear c14b2
    try clear c17
    try clear c18
    try clear c27
    try clear c28
    try clear hcz13_0 hcz13_1 hcz13_2 hcz13_3 hcz13_4 hcz13_5 hcz13_6 hcz13_7 hcz13_8 hcz13_9 hfz13_0 hfz13_1 hfz13_2 hfz13_3 hfz13_4 hfz13_5 hfz13_6 hfz13_7 hfz13_8 hfz13_9
    try clear hcz26_0 hcz26_1 hcz26_2 hcz26_3 hcz26_4 hcz26_5 hcz26_6 hcz26_7 hcz26_8 hcz26_9 hfz26_0 hfz26_1 hfz26_2 hfz26_3 hfz26_4 hfz26_5 hfz26_6 hfz26_7 hfz26_8 hfz26_9
    try clear p2
    obtain ⟨kq, x3_24, HA, HJ24, HO_3, BK144, HB⟩ := hcut
    cases kq with
    | zero => exact absurd HA.out (by simp [script_Tell.j1])
    | succ kj24 =>
     have H := HA.out
     clear HA
     simp only [script_Tell.j1] at H
     have HC30 := am_ H
     clear H
     obtain ⟨⟨hcz31_0, hcz31_1, hcz31_2, hcz31_3, hcz31_4, hcz31_5, hcz31_6, hcz31_7, hcz31_8, hcz31_9⟩, hfz31_0, hfz31_1, hfz31_2, hfz31_3, hfz31_4, hfz31_5, hfz31_6, hfz31_7, hfz31_8, hfz31_9⟩ := script_Tell.c144 BK144.out
     go_upto_if 39 with (fail)
     go_cut [3] (fun v3 wc => ∃ (kq : Nat) (x3_29 : List ByteArray), Aside0 (script_Tell.j2 kq x3_29 a0_0 a0_1 a0_2 a0_3 a0_4 a0_5 l0_6 l0_7 a0_8 a0_9 = some r) ∧ Aside0 (kq ≤ kj24) ∧ Aside0 (Kd.R Kd.string 9 wc w.heap.size (fun _ => True) v3 x3_29) ∧ Aside0 (wc.heap[gb144]? = some (.cells #[.int .i64 a0_0, .int .i64 a0_1, .int .i64 a0_2, .int .i64 a0_3, .int .i64 a0_4, .bool a0_5, (.slice A0_6 l0_6.length c0_6), (.slice A0_7 l0_7.length c0_7), .bool a0_8, .int .i64 a0_9] 41 (0, 0))) ∧ Aside0 (Below w.heap.size w wc))
     case first =>
      have H := HC30.out
      clear HC30
      by_cases c32 : (l0_6.length : Int) > 0
      · rw [if_pos c32] at H
        have c32b0 : decide (0 < (l0_6.length : Int)) = true := decide_eq_true c32
        have c32b1 : decide (0 < l0_6.length) = true := decide_eq_true (by omega)
        clear c32
        (first | rw [c32b0] | rw [c32b1] | rw [c32b2] | (simp only [i64_w, i32_w]; rw [c32b0]) | (simp only [i64_w, i32_w]; rw [c32b1]) | skip)
        replace H := Option.bind_eq_some_iff.mp H
        obtain ⟨t162, A330, H⟩ := H
        have A33 := am_ A330
        clear A330
        obtain ⟨y163, hy163⟩ : ∃ y_ : List ByteArray, y_ = (([(⟨#[118, 97, 108, 117, 101]⟩ : ByteArray), t162] : List ByteArray)) := ⟨_, rfl⟩
        replace H : (if x3_24.length + y163.length < 8796093022208 then (script_Tell.j2 kj24 (x3_24 ++ y163) a0_0 a0_1 a0_2 a0_3 a0_4 a0_5 l0_6 l0_7 a0_8 a0_9) else (none)) = some r := by first | (rw [hy163]; with_reducible exact H) | (have H2_ := (Option.bind_some _ _).symm.trans H; rw [hy163]; with_reducible exact H2_) | (have H2_ := (Option.bind_some _ _).symm.trans H; with_reducible exact H2_) | with_reducible exact H | (rw [hy163]; exact H) | exact H
        have Ny163 := am_ hy163
        clear hy163
        by_cases c34 : x3_24.length + y163.length < 8796093022208
        · rw [if_pos c34] at H
          have LMc34 := am_ c34
          clear c34
          obtain ⟨y166, hy166⟩ : ∃ y_ : List ByteArray, y_ = (x3_24 ++ y163) := ⟨_, rfl⟩
          replace H : (script_Tell.j2 kj24 y166 a0_0 a0_1 a0_2 a0_3 a0_4 a0_5 l0_6 l0_7 a0_8 a0_9) = some r := by first | (rw [hy166]; with_reducible exact H) | (have H2_ := (Option.bind_some _ _).symm.trans H; rw [hy166]; with_reducible exact H2_) | (have H2_ := (Option.bind_some _ _).symm.trans H; with_reducible exact H2_) | with_reducible exact H | (rw [hy166]; exact H) | exact H
          have Ny166 := am_ hy166
          clear hy166
          have H' := am_ H
          clear H
          obtain ⟨⟨hcz35_0, hcz35_1, hcz35_2, hcz35_3, hcz35_4, hcz35_5, hcz35_6, hcz35_7, hcz35_8, hcz35_9⟩, hfz35_0, hfz35_1, hfz35_2, hfz35_3, hfz35_4, hfz35_5, hfz35_6, hfz35_7, hfz35_8, hfz35_9⟩ := script_Tell.c144 BK144.out
          have hcv36 := Kd.C_string (P := Tryz.prog) (A := A0_6) (c := c0_6) Tryz.underlying38 Tryz.underlying5 Tryz.underlying9 (Kd.C_below HR0_6.out HB.out)
          try go_wp2_with (first | ((with_reducible refine gate_callee (f := 20) rfl ?_); refine goesL_ (some 44) rfl rfl Tryz.func20 (by kernel_rfl) rfl #[.string (strOfNums l0_6)] rfl (by (try simp only [aT, aK, aL]); first | done | rfl | (simp only [List.length_drop, List.length_take]; rfl)) ?_; (with_reducible refine (script_Quote.calls (strOfNums l0_6) t162 _ ?side1 A33.out).mono ?_); (case side1 => exact sc.Env.below HE.out (by repeat (first | (with_reducible first | exact HB.out | apply b1_ | apply b2_ | apply b3_ | refine b4_ ?_ GE144.out) | exact HB.out))); rintro e w37 ⟨rfl, hb⟩; refine ⟨_, rfl, ?_⟩; replace HO_3 := am_ (Kd.R_below (by (with_reducible repeat (first | apply r1_ | apply r2_ | apply r3_)); exact HO_3.out) hb); replace BK144 := am_ (blk_below (by (with_reducible repeat (first | refine d1_ ?_ _ | refine d2_ ?_ | refine d3_ ?_ _)); exact BK144.out) hb); replace HB := am_ (below_step (by repeat (first | (with_reducible first | exact HB.out | apply b1_ | apply b2_ | apply b3_ | refine b4_ ?_ GE144.out) | exact HB.out)) hb); (try clear hb); (try clear hk)) | ((with_reducible refine gate_dst (N := 45) rfl ?_); refine Kd.R_lit Kd.string _ 9 ?hg (N := 45) ?hd (xs := ([(⟨#[118, 97, 108, 117, 101]⟩ : ByteArray), t162] : List ByteArray)) (inner := [.string (⟨#[118, 97, 108, 117, 101]⟩ : ByteArray), .string t162]) (ok := fun _ => True) (okp := fun _ => True) ?hr ?hp (fun _ hk => hk) trivial (Below.refl _ _) (Nat.le_refl _) (by simp) ?_; (case hd => rfl); (case hg => rfl); (case hr => first | (go_simp; done) | (go_simp; rfl)); (case hp => exact (Reps.one (show Kd.M Kd.string _ _ _ (⟨#[118, 97, 108, 117, 101]⟩ : ByteArray) [.string (⟨#[118, 97, 108, 117, 101]⟩ : ByteArray)] from rfl) (Reps.one (show Kd.M Kd.string _ _ _ t162 [.string t162] from rfl) (Reps.none _ _)))); intro v164 w38 ho39 hb hg_ hnew_; clear hg_ hnew_; (first | rw [← Ny163.out] at ho39 | (simp only [Int.reduceToNat] at ho39; rw [← Ny163.out] at ho39)); have HO165 := am_ (Kd.R_lower (Kd.R_new' ho39 (Kd.R_lt (by (with_reducible repeat (first | apply r1_ | apply r2_ | apply r3_)); exact HO_3.out))) (below_size (by repeat (first | (with_reducible first | exact HB.out | apply b1_ | apply b2_ | apply b3_ | refine b4_ ?_ GE144.out) | exact HB.out)))); replace HO_3 := am_ (Kd.R_elder' (by (with_reducible repeat (first | apply r1_ | apply r2_ | apply r3_)); exact HO_3.out) (Kd.R_base ho39) hb); replace BK144 := am_ (blk_below (by (with_reducible repeat (first | refine d1_ ?_ _ | refine d2_ ?_ | refine d3_ ?_ _)); exact BK144.out) hb); replace HB := am_ (below_step (by repeat (first | (with_reducible first | exact HB.out | apply b1_ | apply b2_ | apply b3_ | refine b4_ ?_ GE144.out) | exact HB.out)) hb); clear hb ho39; obtain ⟨Ao41, co41, eo41⟩ := Kd.R_slice HO165.out; subst eo41) | ((with_reducible refine gate_builtin (b := .append) (xs := #[.tmp 40, .tmp 45]) rfl ?_); at_builtin; refine Kd.R_append_rows Kd.string (w0 := w) w.heap.size rfl (.tmp 40) (.tmp 45) 71 9 (.string ⟨#[]⟩) 16 rfl Tryz.underlying71 info9 rfl (by decide) (by omega) u3 x3_24 y163 _ _ _ (fun k_ => some k_ ≠ (.slice Ao41 y163.length co41 : Value).ownBlock) (fun _ => False) rfl rfl ?aO ?aR (fun _ _ h => h) (fun _ h => h.elim) ?aF ?aB ?aS ?aL ?_; (case aR => repeat (first | exact (Kd.R_reads' HO165.out).2.2 | (with_reducible refine Kd.C_alloc ?_ _) | (with_reducible refine Kd.C_drewN ?_ _) | (with_reducible refine Kd.C_drew ?_))); (case aB => exact (by repeat (first | (with_reducible first | exact HB.out | apply b1_ | apply b2_ | apply b3_ | refine b4_ ?_ GE144.out) | exact HB.out))); (case aF => exact (fun k_ hk => Kd.fresh' (Kd.R_lt (by (with_reducible repeat (first | apply r1_ | apply r2_ | apply r3_)); exact HO165.out)) k_ hk)); (case aO => exact (by (with_reducible repeat (first | apply r1_ | apply r2_ | apply r3_)); exact Kd.R_mono HO_3.out (fun _ hk => hk.2))); (case aS => exact (below_size (by repeat (first | (with_reducible first | exact HB.out | apply b1_ | apply b2_ | apply b3_ | refine b4_ ?_ GE144.out) | exact HB.out)))); (case aL => have := LMc34.out; omega); intro v167 w40 ho hb hg hat; rw [← Ny166.out] at ho; replace BK144 := am_ (blk_grown (g := gb144) (o := .cells #[.int .i64 a0_0, .int .i64 a0_1, .int .i64 a0_2, .int .i64 a0_3, .int .i64 a0_4, .bool a0_5, .slice A0_6 l0_6.length c0_6, .slice A0_7 l0_7.length c0_7, .bool a0_8, .int .i64 a0_9] 41 (0, 0)) (by (with_reducible repeat (first | refine d1_ ?_ _ | refine d2_ ?_ | refine d3_ ?_ _)); exact BK144.out) hg (Kd.R_ne HO_3.out BK144.out (by decide))); replace HO165 := am_ (Kd.R_after (ok := (fun _ => True)) (by (with_reducible repeat (first | apply r1_ | apply r2_ | apply r3_)); exact HO165.out) hg hat); replace HB := am_ (hb); have HO168 := am_ (ho); clear HO_3; clear ho hb hg hat))
          go_meet
          case rel => exact ⟨_, (y166), H', ⟨by have := HJ4.out; have := HJ24.out; first | omega | exact Nat.le_refl _⟩, ⟨by (with_reducible repeat (first | apply r1_ | apply r2_ | apply r3_)); exact Kd.R_mono HO168.out (fun _ hk => trivial)⟩, ⟨by (with_reducible repeat (first | refine d1_ ?_ _ | refine d2_ ?_ | refine d3_ ?_ _)); exact BK144.out⟩, ⟨by repeat (first | (with_reducible first | exact HB.out | apply b1_ | apply b2_ | apply b3_ | refine b4_ ?_ GE144.out) | exact HB.out)⟩⟩
        rw [if_neg c34] at H
        exact absurd H (by simp)
      rw [if_neg c32] at H
      have c32b0 : decide (0 < (l0_6.length : Int)) = false := decide_eq_false c32
      have c32b1 : decide (0 < l0_6.length) = false := decide_eq_false (by omega)
      clear c32
      (first | rw [c32b0] | rw [c32b1] | rw [c32b2] | (simp only [i64_w, i32_w]; rw [c32b0]) | (simp only [i64_w, i32_w]; rw [c32b1]) | skip)
      have H' := am_ H
      clear H
      go_wp2
      go_meet
      case rel => exact ⟨_, (x3_24), H', ⟨by have := HJ4.out; have := HJ24.out; first | omega | exact Nat.le_refl _⟩, ⟨by (with_reducible repeat (first | apply r1_ | apply r2_ | apply r3_)); exact HO_3.out⟩, ⟨by (with_reducible repeat (first | refine d1_ ?_ _ | refine d2_ ?_ | refine d3_ ?_ _)); exact BK144.out⟩, ⟨by repeat (first | (with_reducible first | exact HB.out | apply b1_ | apply b2_ | apply b3_ | refine b4_ ?_ GE144.out) | exact HB.out)⟩⟩
     case rest =>
      clear HC30
      try clear c1
      try clear c2
      try clear p2
      try clear c3
      try clear hcv3
      try clear c14
      try clear c14b0
      try clear c14b1
      try clear c14b2
      try clear c17
      try clear c18
      try clear c20
      try clear c27
      try clear c28
      try clear c32
      try clear c32b0
      try clear c32b1
      try clear c32b2
      try clear c33
      try clear c34
      try clear hcv36
      try clear hcz13_0 hcz13_1 hcz13_2 hcz13_3 hcz13_4 hcz13_5 hcz13_6 hcz13_7 hcz13_8 hcz13_9 hfz13_0 hfz13_1 hfz13_2 hfz13_3 hfz13_4 hfz13_5 hfz13_6 hfz13_7 hfz13_8 hfz13_9
      try clear hcz26_0 hcz26_1 hcz26_2 hcz26_3 hcz26_4 hcz26_5 hcz26_6 hcz26_7 hcz26_8 hcz26_9 hfz26_0 hfz26_1 hfz26_2 hfz26_3 hfz26_4 hfz26_5 hfz26_6 hfz26_7 hfz26_8 hfz26_9
      try clear hcz31_0 hcz31_1 hcz31_2 hcz31_3 hcz31_4 hcz31_5 hcz31_6 hcz31_7 hcz31_8 hcz31_9 hfz31_0 hfz31_1 hfz31_2 hfz31_3 hfz31_4 hfz31_5 hfz31_6 hfz31_7 hfz31_8 hfz31_9
      try clear hcz35_0 hcz35_1 hcz35_2 hcz35_3 hcz35_4 hcz35_5 hcz35_6 hcz35_7 hcz35_8 hcz35_9 hfz35_0 hfz35_1 hfz35_2 hfz35_3 hfz35_4 hfz35_5 hfz35_6 hfz35_7 hfz35_8 hfz35_9
      try clear p2
      obtain ⟨kq, x3_29, HA, HJ29, HO_3, BK144, HB⟩ := hcut
      cases kq with
      | zero => exact absurd HA.out (by simp [script_Tell.j2])
      | succ kj29 =>
       have H := HA.out
       clear HA
       simp only [script_Tell.j2] at H
       have HC42 := am_ H
       clear H
       obtain ⟨⟨hcz43_0, hcz43_1, hcz43_2, hcz43_3, hcz43_4, hcz43_5, hcz43_6, hcz43_7, hcz43_8, hcz43_9⟩, hfz43_0, hfz43_1, hfz43_2, hfz43_3, hfz43_4, hfz43_5, hfz43_6, hfz43_7, hfz43_8, hfz43_9⟩ := script_Tell.c144 BK144.out
       go_upto_if 50 with (fail)
       go_cut [3] (fun v3 wc => ∃ (kq : Nat) (x3_41 : List ByteArray), Aside0 (script_Tell.j3 kq x3_41 a0_0 a0_1 a0_2 a0_3 a0_4 a0_5 l0_6 l0_7 a0_8 a0_9 = some r) ∧ Aside0 (kq ≤ kj29) ∧ Aside0 (Kd.R Kd.string 9 wc w.heap.size (fun _ => True) v3 x3_41) ∧ Aside0 (wc.heap[gb144]? = some (.cells #[.int .i64 a0_0, .int .i64 a0_1, .int .i64 a0_2, .int .i64 a0_3, .int .i64 a0_4, .bool a0_5, (.slice A0_6 l0_6.length c0_6), (.slice A0_7 l0_7.length c0_7), .bool a0_8, .int .i64 a0_9] 41 (0, 0))) ∧ Aside0 (Below w.heap.size w wc))
       case first =>
        have H := HC42.out
        clear HC42
        by_cases c44 : (l0_7.length : Int) > 0
        · rw [if_pos c44] at H
          have c44b0 : decide (0 < (l0_7.length : Int)) = true := decide_eq_true c44
          have c44b1 : decide (0 < l0_7.length) = true := decide_eq_true (by omega)
          clear c44
          (first | rw [c44b0] | rw [c44b1] | rw [c44b2] | (simp only [i64_w, i32_w]; rw [c44b0]) | (simp only [i64_w, i32_w]; rw [c44b1]) | skip)
          replace H := Option.bind_eq_some_iff.mp H
          obtain ⟨t169, A450, H⟩ := H
          have A45 := am_ A450
          clear A450
          obtain ⟨y170, hy170⟩ : ∃ y_ : List ByteArray, y_ = (([(⟨#[112, 97, 105, 114, 115]⟩ : ByteArray), t169] : List ByteArray)) := ⟨_, rfl⟩
          replace H : (if x3_29.length + y170.length < 8796093022208 then (script_Tell.j3 kj29 (x3_29 ++ y170) a0_0 a0_1 a0_2 a0_3 a0_4 a0_5 l0_6 l0_7 a0_8 a0_9) else (none)) = some r := by first | (rw [hy170]; with_reducible exact H) | (have H2_ := (Option.bind_some _ _).symm.trans H; rw [hy170]; with_reducible exact H2_) | (have H2_ := (Option.bind_some _ _).symm.trans H; with_reducible exact H2_) | with_reducible exact H | (rw [hy170]; exact H) | exact H
          have Ny170 := am_ hy170
          clear hy170
          by_cases c46 : x3_29.length + y170.length < 8796093022208
          · rw [if_pos c46] at H
            have LMc46 := am_ c46
            clear c46
            obtain ⟨y173, hy173⟩ : ∃ y_ : List ByteArray, y_ = (x3_29 ++ y170) := ⟨_, rfl⟩
            replace H : (script_Tell.j3 kj29 y173 a0_0 a0_1 a0_2 a0_3 a0_4 a0_5 l0_6 l0_7 a0_8 a0_9) = some r := by first | (rw [hy173]; with_reducible exact H) | (have H2_ := (Option.bind_some _ _).symm.trans H; rw [hy173]; with_reducible exact H2_) | (have H2_ := (Option.bind_some _ _).symm.trans H; with_reducible exact H2_) | with_reducible exact H | (rw [hy173]; exact H) | exact H
            have Ny173 := am_ hy173
            clear hy173
            have H' := am_ H
            clear H
            obtain ⟨⟨hcz47_0, hcz47_1, hcz47_2, hcz47_3, hcz47_4, hcz47_5, hcz47_6, hcz47_7, hcz47_8, hcz47_9⟩, hfz47_0, hfz47_1, hfz47_2, hfz47_3, hfz47_4, hfz47_5, hfz47_6, hfz47_7, hfz47_8, hfz47_9⟩ := script_Tell.c144 BK144.out
            try go_wp2_with (first | ((with_reducible refine gate_callee (f := 33) rfl ?_); refine goesL_ (some 55) rfl rfl Tryz.func33 (by kernel_rfl) rfl #[.int .i64 (l0_7.length : Int)] rfl (by (try simp only [aT, aK, aL]); first | done | rfl | (simp only [List.length_drop, List.length_take]; rfl)) ?_; (with_reducible refine (script_number.calls (l0_7.length : Int) t169 _ ?side1 A45.out).mono ?_); (case side1 => exact sc.Env.below HE.out (by repeat (first | (with_reducible first | exact HB.out | apply b1_ | apply b2_ | apply b3_ | refine b4_ ?_ GE144.out) | exact HB.out))); rintro e w48 ⟨rfl, hb⟩; refine ⟨_, rfl, ?_⟩; replace HO_3 := am_ (Kd.R_below (by (with_reducible repeat (first | apply r1_ | apply r2_ | apply r3_)); exact HO_3.out) hb); replace BK144 := am_ (blk_below (by (with_reducible repeat (first | refine d1_ ?_ _ | refine d2_ ?_ | refine d3_ ?_ _)); exact BK144.out) hb); replace HB := am_ (below_step (by repeat (first | (with_reducible first | exact HB.out | apply b1_ | apply b2_ | apply b3_ | refine b4_ ?_ GE144.out) | exact HB.out)) hb); (try clear hb); (try clear hk)) | ((with_reducible refine gate_dst (N := 56) rfl ?_); refine Kd.R_lit Kd.string _ 9 ?hg (N := 56) ?hd (xs := ([(⟨#[112, 97, 105, 114, 115]⟩ : ByteArray), t169] : List ByteArray)) (inner := [.string (⟨#[112, 97, 105, 114, 115]⟩ : ByteArray), .string t169]) (ok := fun _ => True) (okp := fun _ => True) ?hr ?hp (fun _ hk => hk) trivial (Below.refl _ _) (Nat.le_refl _) (by simp) ?_; (case hd => rfl); (case hg => rfl); (case hr => first | (go_simp; done) | (go_simp; rfl)); (case hp => exact (Reps.one (show Kd.M Kd.string _ _ _ (⟨#[112, 97, 105, 114, 115]⟩ : ByteArray) [.string (⟨#[112, 97, 105, 114, 115]⟩ : ByteArray)] from rfl) (Reps.one (show Kd.M Kd.string _ _ _ t169 [.string t169] from rfl) (Reps.none _ _)))); intro v171 w49 ho50 hb hg_ hnew_; clear hg_ hnew_; (first | rw [← Ny170.out] at ho50 | (simp only [Int.reduceToNat] at ho50; rw [← Ny170.out] at ho50)); have HO172 := am_ (Kd.R_lower (Kd.R_new' ho50 (Kd.R_lt (by (with_reducible repeat (first | apply r1_ | apply r2_ | apply r3_)); exact HO_3.out))) (below_size (by repeat (first | (with_reducible first | exact HB.out | apply b1_ | apply b2_ | apply b3_ | refine b4_ ?_ GE144.out) | exact HB.out)))); replace HO_3 := am_ (Kd.R_elder' (by (with_reducible repeat (first | apply r1_ | apply r2_ | apply r3_)); exact HO_3.out) (Kd.R_base ho50) hb); replace BK144 := am_ (blk_below (by (with_reducible repeat (first | refine d1_ ?_ _ | refine d2_ ?_ | refine d3_ ?_ _)); exact BK144.out) hb); replace HB := am_ (below_step (by repeat (first | (with_reducible first | exact HB.out | apply b1_ | apply b2_ | apply b3_ | refine b4_ ?_ GE144.out) | exact HB.out)) hb); clear hb ho50; obtain ⟨Ao52, co52, eo52⟩ := Kd.R_slice HO172.out; subst eo52) | ((with_reducible refine gate_builtin (b := .append) (xs := #[.tmp 51, .tmp 56]) rfl ?_); at_builtin; refine Kd.R_append_rows Kd.string (w0 := w) w.heap.size rfl (.tmp 51) (.tmp 56) 71 9 (.string ⟨#[]⟩) 16 rfl Tryz.underlying71 info9 rfl (by decide) (by omega) u3 x3_29 y170 _ _ _ (fun k_ => some k_ ≠ (.slice Ao52 y170.length co52 : Value).ownBlock) (fun _ => False) rfl rfl ?aO ?aR (fun _ _ h => h) (fun _ h => h.elim) ?aF ?aB ?aS ?aL ?_; (case aR => repeat (first | exact (Kd.R_reads' HO172.out).2.2 | (with_reducible refine Kd.C_alloc ?_ _) | (with_reducible refine Kd.C_drewN ?_ _) | (with_reducible refine Kd.C_drew ?_))); (case aB => exact (by repeat (first | (with_reducible first | exact HB.out | apply b1_ | apply b2_ | apply b3_ | refine b4_ ?_ GE144.out) | exact HB.out))); (case aF => exact (fun k_ hk => Kd.fresh' (Kd.R_lt (by (with_reducible repeat (first | apply r1_ | apply r2_ | apply r3_)); exact HO172.out)) k_ hk)); (case aO => exact (by (with_reducible repeat (first | apply r1_ | apply r2_ | apply r3_)); exact Kd.R_mono HO_3.out (fun _ hk => hk.2))); (case aS => exact (below_size (by repeat (first | (with_reducible first | exact HB.out | apply b1_ | apply b2_ | apply b3_ | refine b4_ ?_ GE144.out) | exact HB.out)))); (case aL => have := LMc46.out; omega); intro v174 w51 ho hb hg hat; rw [← Ny173.out] at ho; replace BK144 := am_ (blk_grown (g := gb144) (o := .cells #[.int .i64 a0_0, .int .i64 a0_1, .int .i64 a0_2, .int .i64 a0_3, .int .i64 a0_4, .bool a0_5, .slice A0_6 l0_6.length c0_6, .slice A0_7 l0_7.length c0_7, .bool a0_8, .int .i64 a0_9] 41 (0, 0)) (by (with_reducible repeat (first | refine d1_ ?_ _ | refine d2_ ?_ | refine d3_ ?_ _)); exact BK144.out) hg (Kd.R_ne HO_3.out BK144.out (by decide))); replace HO172 := am_ (Kd.R_after (ok := (fun _ => True)) (by (with_reducible repeat (first | apply r1_ | apply r2_ | apply r3_)); exact HO172.out) hg hat); replace HB := am_ (hb); have HO175 := am_ (ho); clear HO_3; clear ho hb hg hat))
            go_meet
            case rel => exact ⟨_, (y173), H', ⟨by have := HJ4.out; have := HJ24.out; have := HJ29.out; first | omega | exact Nat.le_refl _⟩, ⟨by (with_reducible repeat (first | apply r1_ | apply r2_ | apply r3_)); exact Kd.R_mono HO175.out (fun _ hk => trivial)⟩, ⟨by (with_reducible repeat (first | refine d1_ ?_ _ | refine d2_ ?_ | refine d3_ ?_ _)); exact BK144.out⟩, ⟨by repeat (first | (with_reducible first | exact HB.out | apply b1_ | apply b2_ | apply b3_ | refine b4_ ?_ GE144.out) | exact HB.out)⟩⟩
          rw [if_neg c46] at H
          exact absurd H (by simp)
        rw [if_neg c44] at H
        have c44b0 : decide (0 < (l0_7.length : Int)) = false := decide_eq_false c44
        have c44b1 : decide (0 < l0_7.length) = false := decide_eq_false (by omega)
        clear c44
        (first | rw [c44b0] | rw [c44b1] | rw [c44b2] | (simp only [i64_w, i32_w]; rw [c44b0]) | (simp only [i64_w, i32_w]; rw [c44b1]) | skip)
        have H' := am_ H
        clear H
        go_wp2
        go_meet
        case rel => exact ⟨_, (x3_29), H', ⟨by have := HJ4.out; have := HJ24.out; have := HJ29.out; first | omega | exact Nat.le_refl _⟩, ⟨by (with_reducible repeat (first | apply r1_ | apply r2_ | apply r3_)); exact HO_3.out⟩, ⟨by (with_reducible repeat (first | refine d1_ ?_ _ | refine d2_ ?_ | refine d3_ ?_ _)); exact BK144.out⟩, ⟨by repeat (first | (with_reducible first | exact HB.out | apply b1_ | apply b2_ | apply b3_ | refine b4_ ?_ GE144.out) | exact HB.out)⟩⟩
       case rest =>
        clear HC42
        try clear c1
        try clear c2
        try clear p2
        try clear c3
        try clear hcv3
        try clear c4
        try clear c14
        try clear c14b0
        try clear c14b1
        try clear c14b2
        try clear c17
        try clear c18
        try clear c20
        try clear c27
        try clear c28
        try clear c32
        try clear c32b0
        try clear c32b1
        try clear c32b2
        try clear c33
        try clear c34
        try clear hcv36
        try clear c44
        try clear c44b0
        try clear c44b1
        try clear c44b2
        try clear c46
        try clear hcz13_0 hcz13_1 hcz13_2 hcz13_3 hcz13_4 hcz13_5 hcz13_6 hcz13_7 hcz13_8 hcz13_9 hfz13_0 hfz13_1 hfz13_2 hfz13_3 hfz13_4 hfz13_5 hfz13_6 hfz13_7 hfz13_8 hfz13_9
        try clear hcz26_0 hcz26_1 hcz26_2 hcz26_3 hcz26_4 hcz26_5 hcz26_6 hcz26_7 hcz26_8 hcz26_9 hfz26_0 hfz26_1 hfz26_2 hfz26_3 hfz26_4 hfz26_5 hfz26_6 hfz26_7 hfz26_8 hfz26_9
        try clear hcz31_0 hcz31_1 hcz31_2 hcz31_3 hcz31_4 hcz31_5 hcz31_6 hcz31_7 hcz31_8 hcz31_9 hfz31_0 hfz31_1 hfz31_2 hfz31_3 hfz31_4 hfz31_5 hfz31_6 hfz31_7 hfz31_8 hfz31_9
        try clear hcz35_0 hcz35_1 hcz35_2 hcz35_3 hcz35_4 hcz35_5 hcz35_6 hcz35_7 hcz35_8 hcz35_9 hfz35_0 hfz35_1 hfz35_2 hfz35_3 hfz35_4 hfz35_5 hfz35_6 hfz35_7 hfz35_8 hfz35_9
        try clear hcz43_0 hcz43_1 hcz43_2 hcz43_3 hcz43_4 hcz43_5 hcz43_6 hcz43_7 hcz43_8 hcz43_9 hfz43_0 hfz43_1 hfz43_2 hfz43_3 hfz43_4 hfz43_5 hfz43_6 hfz43_7 hfz43_8 hfz43_9
        try clear hcz47_0 hcz47_1 hcz47_2 hcz47_3 hcz47_4 hcz47_5 hcz47_6 hcz47_7 hcz47_8 hcz47_9 hfz47_0 hfz47_1 hfz47_2 hfz47_3 hfz47_4 hfz47_5 hfz47_6 hfz47_7 hfz47_8 hfz47_9
        try clear p2
        obtain ⟨kq, x3_41, HA, HJ41, HO_3, BK144, HB⟩ := hcut
        cases kq with
        | zero => exact absurd HA.out (by simp [script_Tell.j3])
        | succ kj41 =>
         have H := HA.out
         clear HA
         simp only [script_Tell.j3] at H
         have H' := am_ H
         clear H
         obtain ⟨⟨hcz53_0, hcz53_1, hcz53_2, hcz53_3, hcz53_4, hcz53_5, hcz53_6, hcz53_7, hcz53_8, hcz53_9⟩, hfz53_0, hfz53_1, hfz53_2, hfz53_3, hfz53_4, hfz53_5, hfz53_6, hfz53_7, hfz53_8, hfz53_9⟩ := script_Tell.c144 BK144.out
         go_wp2
         go_loopg [3, 61] kj41 (fun kq v3 v61 w' => ∃ (x3_5 : List ByteArray) (x61_5 : Int), v61 = .int .i64 x61_5 ∧ Aside0 (script_Tell.l0 kq x3_5 l0_7 (l0_7.length : Int) x61_5 a0_0 a0_1 a0_2 a0_3 a0_4 a0_5 l0_6 l0_7 a0_8 a0_9 = some r) ∧ Aside0 (kq ≤ kj41) ∧ Aside0 (Kd.R Kd.string 9 w' w.heap.size (fun _ => True) v3 x3_5) ∧ Aside0 (w'.heap[gb144]? = some (.cells #[.int .i64 a0_0, .int .i64 a0_1, .int .i64 a0_2, .int .i64 a0_3, .int .i64 a0_4, .bool a0_5, (.slice A0_6 l0_6.length c0_6), (.slice A0_7 l0_7.length c0_7), .bool a0_8, .int .i64 a0_9] 41 (0, 0))) ∧ Aside0 (Below w.heap.size w w'))
         case atStart => exact ⟨(x3_41), (0), (by first | rfl | (simp; done) | (simp [*]; done)), H', ⟨Nat.le_refl _⟩, ⟨by (with_reducible repeat (first | apply r1_ | apply r2_ | apply r3_)); exact HO_3.out⟩, ⟨by (with_reducible repeat (first | refine d1_ ?_ _ | refine d2_ ?_ | refine d3_ ?_ _)); exact BK144.out⟩, ⟨by repeat (first | (with_reducible first | exact HB.out | apply b1_ | apply b2_ | apply b3_ | refine b4_ ?_ GE144.out) | exact HB.out)⟩⟩
         case round =>
          clear H'
          try clear c1
          try clear c2
          try clear p2
          try clear c3
          try clear hcv3
          try clear c4
          try clear c14
          try clear c14b0
          try clear c14b1
          try clear c14b2
          try clear c17
          try clear c18
          try clear c20
          try clear c27
          try clear c28
          try clear c32
          try clear c32b0
          try clear c32b1
          try clear c32b2
          try clear c33
          try clear c34
          try clear hcv36
          try clear c44
          try clear c44b0
          try clear c44b1
          try clear c44b2
          try clear c46
          try clear hcz13_0 hcz13_1 hcz13_2 hcz13_3 hcz13_4 hcz13_5 hcz13_6 hcz13_7 hcz13_8 hcz13_9 hfz13_0 hfz13_1 hfz13_2 hfz13_3 hfz13_4 hfz13_5 hfz13_6 hfz13_7 hfz13_8 hfz13_9
          try clear hcz26_0 hcz26_1 hcz26_2 hcz26_3 hcz26_4 hcz26_5 hcz26_6 hcz26_7 hcz26_8 hcz26_9 hfz26_0 hfz26_1 hfz26_2 hfz26_3 hfz26_4 hfz26_5 hfz26_6 hfz26_7 hfz26_8 hfz26_9
          try clear hcz31_0 hcz31_1 hcz31_2 hcz31_3 hcz31_4 hcz31_5 hcz31_6 hcz31_7 hcz31_8 hcz31_9 hfz31_0 hfz31_1 hfz31_2 hfz31_3 hfz31_4 hfz31_5 hfz31_6 hfz31_7 hfz31_8 hfz31_9
          try clear hcz35_0 hcz35_1 hcz35_2 hcz35_3 hcz35_4 hcz35_5 hcz35_6 hcz35_7 hcz35_8 hcz35_9 hfz35_0 hfz35_1 hfz35_2 hfz35_3 hfz35_4 hfz35_5 hfz35_6 hfz35_7 hfz35_8 hfz35_9
          try clear hcz43_0 hcz43_1 hcz43_2 hcz43_3 hcz43_4 hcz43_5 hcz43_6 hcz43_7 hcz43_8 hcz43_9 hfz43_0 hfz43_1 hfz43_2 hfz43_3 hfz43_4 hfz43_5 hfz43_6 hfz43_7 hfz43_8 hfz43_9
          try clear hcz47_0 hcz47_1 hcz47_2 hcz47_3 hcz47_4 hcz47_5 hcz47_6 hcz47_7 hcz47_8 hcz47_9 hfz47_0 hfz47_1 hfz47_2 hfz47_3 hfz47_4 hfz47_5 hfz47_6 hfz47_7 hfz47_8 hfz47_9
          try clear hcz53_0 hcz53_1 hcz53_2 hcz53_3 hcz53_4 hcz53_5 hcz53_6 hcz53_7 hcz53_8 hcz53_9 hfz53_0 hfz53_1 hfz53_2 hfz53_3 hfz53_4 hfz53_5 hfz53_6 hfz53_7 hfz53_8 hfz53_9
          try clear p2
          obtain ⟨x3_5, x61_5, rfl, HA, HK5, HO_3, BK144, HB⟩ := hrel
          cases gk with
          | zero => exact absurd HA.out (by simp [script_Tell.l0])
          | succ k5 =>
           have H := HA.out
           clear HA
           simp only [script_Tell.l0] at H
           by_cases c54 : x61_5 < (l0_7.length : Int)
           · rw [if_pos c54] at H
             have c54b0 : decide (x61_5 < (l0_7.length : Int)) = true := decide_eq_true c54
             clear c54
             by_cases c55 : 0 ≤ x61_5
             · rw [if_pos c55] at H
               have c55b0 : decide (0 ≤ x61_5) = true := decide_eq_true c55
               clear c55
               by_cases c56 : x61_5 < (l0_7.length : Int)
               · rw [if_pos c56] at H
                 have c56b0 : decide (x61_5 < (l0_7.length : Int)) = true := decide_eq_true c56
                 clear c56
                 replace H := Option.bind_eq_some_iff.mp H
                 obtain ⟨t178, A570, H⟩ := H
                 have A57 := am_ A570
                 clear A570
                 replace H := Option.bind_eq_some_iff.mp H
                 obtain ⟨t179, A580, H⟩ := H
                 have A58 := am_ A580
                 clear A580
                 obtain ⟨y180, hy180⟩ : ∃ y_ : List ByteArray, y_ = (([t178, t179] : List ByteArray)) := ⟨_, rfl⟩
                 replace H : (if x3_5.length + y180.length < 8796093022208 then (script_Tell.l0 k5 (x3_5 ++ y180) l0_7 (l0_7.length : Int) (wrap64 (x61_5 + 1)) a0_0 a0_1 a0_2 a0_3 a0_4 a0_5 l0_6 l0_7 a0_8 a0_9) else (none)) = some r := by first | (rw [hy180]; with_reducible exact H) | (have H2_ := (Option.bind_some _ _).symm.trans H; rw [hy180]; with_reducible exact H2_) | (have H2_ := (Option.bind_some _ _).symm.trans H; with_reducible exact H2_) | with_reducible exact H | (rw [hy180]; exact H) | exact H
                 have Ny180 := am_ hy180
                 clear hy180
                 by_cases c59 : x3_5.length + y180.length < 8796093022208
                 · rw [if_pos c59] at H
                   have LMc59 := am_ c59
                   clear c59
                   obtain ⟨y183, hy183⟩ : ∃ y_ : List ByteArray, y_ = (x3_5 ++ y180) := ⟨_, rfl⟩
                   replace H : (script_Tell.l0 k5 y183 l0_7 (l0_7.length : Int) (wrap64 (x61_5 + 1)) a0_0 a0_1 a0_2 a0_3 a0_4 a0_5 l0_6 l0_7 a0_8 a0_9) = some r := by first | (rw [hy183]; with_reducible exact H) | (have H2_ := (Option.bind_some _ _).symm.trans H; rw [hy183]; with_reducible exact H2_) | (have H2_ := (Option.bind_some _ _).symm.trans H; with_reducible exact H2_) | with_reducible exact H | (rw [hy183]; exact H) | exact H
                   have Ny183 := am_ hy183
                   clear hy183
                   have H' := am_ H
                   clear H
                   have p176 : 0 ≤ (x61_5 : Int) := of_decide_eq_true (by first | (with_reducible assumption) | assumption)
                   have q176 : x61_5 < (l0_7.length : Int) := of_decide_eq_true (by first | (with_reducible assumption) | assumption)
                   obtain ⟨ad176, A176_1, c176_1, e176, hx176_0, hx176_1, hl176_1, hi176_1⟩ := at_T62 HR0_7.out x61_5 p176 q176
                   cases e176
                   replace hx176_0 := (HB.out.cell (World.block_lt_of_cell? w _ hx176_0)).trans hx176_0
                   replace hx176_1 := (HB.out.cell (World.block_lt_of_cell? w _ hx176_1)).trans hx176_1
                   have HR176_1 := am_ hi176_1
                   have HC176_1 := am_ hl176_1
                   clear hi176_1 hl176_1
                   replace p176 := eq_true p176
                   replace q176 := eq_true q176
                   try go_wp2_with (first | ((with_reducible refine gate_dst (N := 5) rfl ?_); refine box_event ?hg (N := 5) ?hd (cs := #[.string (⟨#[]⟩ : ByteArray), .slice none 0 0]) (t := 62) ?hr ?_; (case hd => rfl); (case hg => rfl); (case hr => first | (go_simp; done) | (go_simp; rfl)); intro gb177 hg w60 hbox hb; replace HO_3 := am_ (Kd.R_below (by (with_reducible repeat (first | apply r1_ | apply r2_ | apply r3_)); exact HO_3.out) hb); have BK177 := am_ (hbox); have GW177 := am_ ((by rw [hg]; exact (below_size (by repeat (first | (with_reducible first | exact HB.out | apply b1_ | apply b2_ | apply b3_ | refine b4_ ?_ GE144.out) | exact HB.out))) : w.heap.size ≤ gb177)); have GE177 := am_ ((by rw [hg]; exact (below_size (by repeat (first | (with_reducible first | exact HB.out | apply b1_ | apply b2_ | apply b3_ | refine b4_ ?_ GE144.out) | exact HB.out))) : w.heap.size ≤ gb177)); replace HB := am_ (below_step (by repeat (first | (with_reducible first | exact HB.out | apply b1_ | apply b2_ | apply b3_ | refine b4_ ?_ GE144.out) | exact HB.out)) hb); have NB144_177 := am_ ((by rw [hg]; exact Nat.ne_of_lt (blk_lt (by (with_reducible repeat (first | refine d1_ ?_ _ | refine d2_ ?_ | refine d3_ ?_ _)); exact BK144.out)) : gb144 ≠ gb177)); have NB177_144 := am_ ((by rw [hg]; exact Nat.ne_of_gt (blk_lt (by (with_reducible repeat (first | refine d1_ ?_ _ | refine d2_ ?_ | refine d3_ ?_ _)); exact BK144.out)) : gb177 ≠ gb144)); replace BK144 := am_ (blk_below (by (with_reducible repeat (first | refine d1_ ?_ _ | refine d2_ ?_ | refine d3_ ?_ _)); exact BK144.out) hb); clear hb hbox hg; have hnb61 := NB177_144.out; have hnc61 := NB144_177.out; have hcz62_0 : w60.cell? ⟨gb177, 0, none⟩ = some (.string (⟨#[]⟩ : ByteArray)) := (blk_cell BK177.out 0).trans rfl; have hcz62_1 : w60.cell? ⟨gb177, 1, none⟩ = some (.slice none 0 0) := (blk_cell BK177.out 1).trans rfl; have hfz62_0 := blk_frozen BK177.out 0; have hfz62_1 := blk_frozen BK177.out 1; obtain ⟨Ao63, co63, eo63⟩ := Kd.R_slice HO_3.out; subst eo63))
                   have n0_ : Aside0 (Kd.R Kd.string 9 ((w60.setCell ⟨gb177, 0, none⟩ (.string ((rd_T62 l0_7 x61_5).f0))).setCell ⟨gb177, 1, none⟩ (.slice A176_1 ((rd_T62 l0_7 x61_5).f1).length c176_1)) w.heap.size (fun _ => True) (.slice Ao63 x3_5.length co63) x3_5) := ⟨by (with_reducible repeat (first | apply r1_ | apply r2_ | apply r3_)); exact Kd.R_mono (Kd.R_far (p := ⟨gb177, 1, none⟩) (Kd.R_far (p := ⟨gb177, 0, none⟩) (Kd.R_types HO_3.out BK177.out (by decide)) (fun _ hk => hk.2) (.string ((rd_T62 l0_7 x61_5).f0))) (fun _ hk => hk.2) (.slice A176_1 ((rd_T62 l0_7 x61_5).f1).length c176_1)) (fun _ hk => trivial)⟩
                   have n1_ : Aside0 (((w60.setCell ⟨gb177, 0, none⟩ (.string ((rd_T62 l0_7 x61_5).f0))).setCell ⟨gb177, 1, none⟩ (.slice A176_1 ((rd_T62 l0_7 x61_5).f1).length c176_1)).heap[gb144]? = some (.cells #[.int .i64 a0_0, .int .i64 a0_1, .int .i64 a0_2, .int .i64 a0_3, .int .i64 a0_4, .bool a0_5, .slice A0_6 l0_6.length c0_6, .slice (some ad176) l0_7.length c0_7, .bool a0_8, .int .i64 a0_9] 41 (0, 0))) := ⟨by (with_reducible repeat (first | refine d1_ ?_ _ | refine d2_ ?_ | refine d3_ ?_ _)); refine blk_far ?_ NB144_177.out _; (with_reducible repeat (first | refine d1_ ?_ _ | refine d2_ ?_ | refine d3_ ?_ _)); refine blk_far ?_ NB144_177.out _; (with_reducible repeat (first | refine d1_ ?_ _ | refine d2_ ?_ | refine d3_ ?_ _)); exact BK144.out⟩
                   have n2_ : Aside0 (((w60.setCell ⟨gb177, 0, none⟩ (.string ((rd_T62 l0_7 x61_5).f0))).setCell ⟨gb177, 1, none⟩ (.slice A176_1 ((rd_T62 l0_7 x61_5).f1).length c176_1)).heap[gb177]? = some (.cells #[.string ((rd_T62 l0_7 x61_5).f0), .slice A176_1 ((rd_T62 l0_7 x61_5).f1).length c176_1] 62 (0, 0))) := ⟨by (with_reducible repeat (first | refine d1_ ?_ _ | refine d2_ ?_ | refine d3_ ?_ _)); refine blk_put (cs := #[.string ((rd_T62 l0_7 x61_5).f0), .slice none 0 0]) ?_ 1 _ rfl; (with_reducible repeat (first | refine d1_ ?_ _ | refine d2_ ?_ | refine d3_ ?_ _)); refine blk_put (cs := #[.string (⟨#[]⟩ : ByteArray), .slice none 0 0]) ?_ 0 _ rfl; (with_reducible repeat (first | refine d1_ ?_ _ | refine d2_ ?_ | refine d3_ ?_ _)); exact BK177.out⟩
                   have n3_ : Aside0 (Below w.heap.size w ((w60.setCell ⟨gb177, 0, none⟩ (.string ((rd_T62 l0_7 x61_5).f0))).setCell ⟨gb177, 1, none⟩ (.slice A176_1 ((rd_T62 l0_7 x61_5).f1).length c176_1))) := ⟨by repeat (first | (with_reducible first | exact HB.out | apply b1_ | apply b2_ | apply b3_ | refine b4_ ?_ GE144.out | refine b4_ ?_ GE177.out) | exact HB.out)⟩
                   (try clear HO_3)
                   (try clear BK144)
                   (try clear BK177)
                   (try clear HB)
                   generalize ((w60.setCell ⟨gb177, 0, none⟩ (.string ((rd_T62 l0_7 x61_5).f0))).setCell ⟨gb177, 1, none⟩ (.slice A176_1 ((rd_T62 l0_7 x61_5).f1).length c176_1)) = w64 at n0_ n1_ n2_ n3_ ⊢
                   have HO_3 := n0_
                   have BK144 := n1_
                   have BK177 := n2_
                   have HB := n3_
                   clear n0_ n1_ n2_ n3_
                   replace HO_3 := am_ (r3_ HO_3.out)
                   replace BK144 := am_ (d2_ BK144.out)
                   replace BK177 := am_ (d2_ BK177.out)
                   replace HB := am_ (b3_ HB.out)
                   refine start_ (n := 11) (S := fun w' => w'.cell? ⟨gb177, 0, none⟩ = some (.string ((rd_T62 l0_7 x61_5).f0)) ∧ w'.cell? ⟨gb177, 1, none⟩ = some (.slice A176_1 ((rd_T62 l0_7 x61_5).f1).length c176_1) ∧ (convert 38 9 (.slice A176_1 ((rd_T62 l0_7 x61_5).f1).length c176_1)).run Tryz.prog w' = .ok (.string (strOfNums ((rd_T62 l0_7 x61_5).f1))) w') (ds := []) #[false, false, false, false, false, false, false, false, false, false, false] (by kernel_rfl) rfl rfl ⟨(blk_cell BK177.out 0).trans rfl, (blk_cell BK177.out 1).trans rfl, Kd.C_string (P := Tryz.prog) (A := A176_1) (c := c176_1) Tryz.underlying38 Tryz.underlying5 Tryz.underlying9 (Kd.C_below HR176_1.out HB.out)⟩ (fun hHeld => ?_); refine with_tabW script_Tell.tab13 script_Tell.bits13 (fun HT_ HW_ => ?_)
                   generalize w64.drew = w65 at HO_3 BK144 BK177 HB hHeld ⊢
                   refine pu_ 0 65 (bs_ 11 1) rfl rfl (any_of HT_.out (by kernel_rfl)) rfl (by intro w'; go_simp; with_reducible rfl) (by simp only [Act.put, aS, aZ, aC, i64_w, i32_w]; rfl) (fun _ _ _ h => h) ?_
                   refine pu_ 1 66 (bs_ 11 3) rfl rfl (any_of HT_.out (by kernel_rfl)) rfl (by intro w'; go_simp; with_reducible rfl) (by simp only [Act.put, aS, aZ, aC, i64_w, i32_w]; rfl) (fun _ _ _ h => h) ?_
                   refine pu_ 4 69 (bs_ 11 19) rfl rfl (any_of HT_.out (by kernel_rfl)) rfl (by intro w'; go_simp; with_reducible rfl) (by simp only [Act.put, aS, aZ, aC, i64_w, i32_w]; rfl) (fun _ _ _ h => h) ?_
                   refine ta_ 2 67 (bs_ 11 23) rfl rfl (take_ofW HT_.out HW_.out (by kernel_rfl)) rfl (by rintro w' ⟨s0, s1, s2⟩; go_simp; with_reducible rfl) hHeld (by simp only [Act.put, aS, aZ, aC, i64_w, i32_w]; rfl) (fun _ _ _ h => h) ?_
                   refine ta_ 5 70 (bs_ 11 55) rfl rfl (take_ofW HT_.out HW_.out (by kernel_rfl)) rfl (by rintro w' ⟨s0, s1, s2⟩; go_simp; with_reducible rfl) hHeld (by simp only [Act.put, aS, aZ, aC, i64_w, i32_w]; rfl) (fun _ _ _ h => h) ?_
                   refine ta_ 6 71 (bs_ 11 119) rfl rfl (take_ofW HT_.out HW_.out (by kernel_rfl)) rfl (by rintro w' ⟨s0, s1, s2⟩; go_simp; with_reducible rfl) hHeld (by simp only [Act.put, aS, aZ, aC, i64_w, i32_w]; rfl) (fun _ _ _ h => h) ?_
                   refine one_ (i := 3) (N := some 68) (bs_ 11 127) rfl rfl (one_of HT_.out (by kernel_rfl)) (by decide) (fun K hK => ?_)
                   refine goes_ Tryz.func20 (by kernel_rfl) rfl #[.string ((rd_T62 l0_7 x61_5).f0)] (by rfl) rfl rfl (by (try simp only [aT, aK, aL]); first | done | rfl | (simp only [List.length_drop, List.length_take]; rfl)) ?_
                   with_reducible refine (script_Quote.calls ((rd_T62 l0_7 x61_5).f0) t178 _ ?side1 A57.out).mono ?_
                   (case side1 => exact sc.Env.below HE.out (by repeat (first | (with_reducible first | exact HB.out | apply b1_ | apply b2_ | apply b3_ | refine b4_ ?_ GE144.out | refine b4_ ?_ GE177.out) | exact HB.out)))
                   rintro e w66 ⟨rfl, hb⟩
                   refine ⟨_, rfl, ?_⟩
                   replace HO_3 := am_ (Kd.R_below (by (with_reducible repeat (first | apply r1_ | apply r2_ | apply r3_)); exact HO_3.out) hb)
                   replace BK144 := am_ (blk_below (by (with_reducible repeat (first | refine d1_ ?_ _ | refine d2_ ?_ | refine d3_ ?_ _)); exact BK144.out) hb)
                   replace BK177 := am_ (blk_below (by (with_reducible repeat (first | refine d1_ ?_ _ | refine d2_ ?_ | refine d3_ ?_ _)); exact BK177.out) hb)
                   replace HB := am_ (below_step (by repeat (first | (with_reducible first | exact HB.out | apply b1_ | apply b2_ | apply b3_ | refine b4_ ?_ GE144.out | refine b4_ ?_ GE177.out) | exact HB.out)) hb)
                   (try clear hb)
                   (try clear hk)
                   refine hK.out _ _ ⟨(blk_cell BK177.out 0).trans rfl, (blk_cell BK177.out 1).trans rfl, Kd.C_string (P := Tryz.prog) (A := A176_1) (c := c176_1) Tryz.underlying38 Tryz.underlying5 Tryz.underlying9 (Kd.C_below HR176_1.out HB.out)⟩ (fun hHeld => ?_)
                   clear hK K
                   refine no_ (by simp only [Act.put, aS, aZ, aC, i64_w, i32_w]; rfl) ?_
                   refine one_ (i := 7) (N := some 72) (bs_ 11 255) rfl rfl (one_of HT_.out (by kernel_rfl)) (by decide) (fun K hK => ?_)
                   refine goes_ Tryz.func20 (by kernel_rfl) rfl #[.string (strOfNums ((rd_T62 l0_7 x61_5).f1))] (by rfl) rfl rfl (by (try simp only [aT, aK, aL]); first | done | rfl | (simp only [List.length_drop, List.length_take]; rfl)) ?_
                   with_reducible refine (script_Quote.calls (strOfNums ((rd_T62 l0_7 x61_5).f1)) t179 _ ?side1 A58.out).mono ?_
                   (case side1 => exact sc.Env.below HE.out (by repeat (first | (with_reducible first | exact HB.out | apply b1_ | apply b2_ | apply b3_ | refine b4_ ?_ GE144.out | refine b4_ ?_ GE177.out) | exact HB.out)))
                   rintro e w68 ⟨rfl, hb⟩
                   refine ⟨_, rfl, ?_⟩
                   replace HO_3 := am_ (Kd.R_below (by (with_reducible repeat (first | apply r1_ | apply r2_ | apply r3_)); exact HO_3.out) hb)
                   replace BK144 := am_ (blk_below (by (with_reducible repeat (first | refine d1_ ?_ _ | refine d2_ ?_ | refine d3_ ?_ _)); exact BK144.out) hb)
                   replace BK177 := am_ (blk_below (by (with_reducible repeat (first | refine d1_ ?_ _ | refine d2_ ?_ | refine d3_ ?_ _)); exact BK177.out) hb)
                   replace HB := am_ (below_step (by repeat (first | (with_reducible first | exact HB.out | apply b1_ | apply b2_ | apply b3_ | refine b4_ ?_ GE144.out | refine b4_ ?_ GE177.out) | exact HB.out)) hb)
                   (try clear hb)
                   (try clear hk)
                   refine hK.out _ _ ⟨(blk_cell BK177.out 0).trans rfl, (blk_cell BK177.out 1).trans rfl, Kd.C_string (P := Tryz.prog) (A := A176_1) (c := c176_1) Tryz.underlying38 Tryz.underlying5 Tryz.underlying9 (Kd.C_below HR176_1.out HB.out)⟩ (fun hHeld => ?_)
                   clear hK K
                   refine no_ (by simp only [Act.put, aS, aZ, aC, i64_w, i32_w]; rfl) ?_
                   refine one_ (i := 8) (N := some 73) (bs_ 11 511) rfl rfl (one_of HT_.out (by kernel_rfl)) (by decide) (fun K hK => ?_)
                   refine Kd.R_lit_step Kd.string _ 9 ?hg (N := 73) ?hd (xs := ([t178, t179] : List ByteArray)) (inner := [.string t178, .string t179]) (ok := fun _ => True) (okp := fun _ => True) ?hr ?hp (fun _ hk => hk) trivial (Below.refl _ _) (Nat.le_refl _) (by simp) ?_; (case hd => rfl); (case hg => rfl); (case hr => first | (go_simp; done) | (go_simp; rfl)); (case hp => exact (Reps.one (show Kd.M Kd.string _ _ _ t178 [.string t178] from rfl) (Reps.one (show Kd.M Kd.string _ _ _ t179 [.string t179] from rfl) (Reps.none _ _))))
                   intro v181 w69 ho70 hb hg_ hnew_
                   clear hg_ hnew_
                   (first | rw [← Ny180.out] at ho70 | (simp only [Int.reduceToNat] at ho70; rw [← Ny180.out] at ho70))
                   have HO182 := am_ (Kd.R_lower (Kd.R_new' ho70 (Kd.R_lt (by (with_reducible repeat (first | apply r1_ | apply r2_ | apply r3_)); exact HO_3.out))) (below_size (by repeat (first | (with_reducible first | exact HB.out | apply b1_ | apply b2_ | apply b3_ | refine b4_ ?_ GE144.out | refine b4_ ?_ GE177.out) | exact HB.out))))
                   replace HO_3 := am_ (Kd.R_elder' (by (with_reducible repeat (first | apply r1_ | apply r2_ | apply r3_)); exact HO_3.out) (Kd.R_base ho70) hb)
                   replace BK144 := am_ (blk_below (by (with_reducible repeat (first | refine d1_ ?_ _ | refine d2_ ?_ | refine d3_ ?_ _)); exact BK144.out) hb)
                   replace BK177 := am_ (blk_below (by (with_reducible repeat (first | refine d1_ ?_ _ | refine d2_ ?_ | refine d3_ ?_ _)); exact BK177.out) hb)
                   replace HB := am_ (below_step (by repeat (first | (with_reducible first | exact HB.out | apply b1_ | apply b2_ | apply b3_ | refine b4_ ?_ GE144.out | refine b4_ ?_ GE177.out) | exact HB.out)) hb)
                   clear hb ho70
                   obtain ⟨Ao72, co72, eo72⟩ := Kd.R_slice HO182.out
                   (first | subst eo72 | (injection eo72 with f1_ f2_ f3_; have f4_ := f1_.symm; have f5_ := f3_.symm; clear f1_ f2_ f3_; subst f4_; subst f5_))
                   refine hK.out _ _ ⟨(blk_cell BK177.out 0).trans rfl, (blk_cell BK177.out 1).trans rfl, Kd.C_string (P := Tryz.prog) (A := A176_1) (c := c176_1) Tryz.underlying38 Tryz.underlying5 Tryz.underlying9 (Kd.C_below HR176_1.out HB.out)⟩ (fun hHeld => ?_)
                   clear hK K
                   refine no_ (by simp only [Act.put, aS, aZ, aC, i64_w, i32_w]; rfl) ?_
                   refine one_ (i := 9) (N := some 74) (bs_ 11 1023) rfl rfl (one_of HT_.out (by kernel_rfl)) (by decide) (fun K hK => ?_)
                   refine Kd.R_append_rows_step Kd.string (w0 := w) w.heap.size (by rfl) (.tmp 65) (.tmp 73) 71 9 (.string ⟨#[]⟩) 16 rfl Tryz.underlying71 info9 rfl (by decide) (by omega) (.slice Ao63 x3_5.length co63) x3_5 y180 _ _ _ (fun k_ => some k_ ≠ (.slice Ao72 y180.length co72 : Value).ownBlock) (fun _ => False) rfl rfl ?aO ?aR (fun _ _ h => h) (fun _ h => h.elim) ?aF ?aB ?aS ?aL ?_
                   (case aR => repeat (first | exact (Kd.R_reads' HO182.out).2.2 | (with_reducible refine Kd.C_alloc ?_ _) | (with_reducible refine Kd.C_drewN ?_ _) | (with_reducible refine Kd.C_drew ?_)))
                   (case aB => exact (by repeat (first | (with_reducible first | exact HB.out | apply b1_ | apply b2_ | apply b3_ | refine b4_ ?_ GE144.out | refine b4_ ?_ GE177.out) | exact HB.out)))
                   (case aF => exact (fun k_ hk => Kd.fresh' (Kd.R_lt (by (with_reducible repeat (first | apply r1_ | apply r2_ | apply r3_)); exact HO182.out)) k_ hk))
                   (case aO => exact (by (with_reducible repeat (first | apply r1_ | apply r2_ | apply r3_)); exact Kd.R_mono HO_3.out (fun _ hk => hk.2)))
                   (case aS => exact (below_size (by repeat (first | (with_reducible first | exact HB.out | apply b1_ | apply b2_ | apply b3_ | refine b4_ ?_ GE144.out | refine b4_ ?_ GE177.out) | exact HB.out))))
                   (case aL => have := LMc59.out; omega)
                   intro v184 w71 ho hb hg hat
                   rw [← Ny183.out] at ho
                   replace BK144 := am_ (blk_grown (g := gb144) (o := .cells #[.int .i64 a0_0, .int .i64 a0_1, .int .i64 a0_2, .int .i64 a0_3, .int .i64 a0_4, .bool a0_5, .slice A0_6 l0_6.length c0_6, .slice (some ad176) l0_7.length c0_7, .bool a0_8, .int .i64 a0_9] 41 (0, 0)) (by (with_reducible repeat (first | refine d1_ ?_ _ | refine d2_ ?_ | refine d3_ ?_ _)); exact BK144.out) hg (Kd.R_ne HO_3.out BK144.out (by decide)))
                   replace BK177 := am_ (blk_grown (g := gb177) (o := .cells #[.string ((rd_T62 l0_7 x61_5).f0), .slice A176_1 ((rd_T62 l0_7 x61_5).f1).length c176_1] 62 (0, 0)) (by (with_reducible repeat (first | refine d1_ ?_ _ | refine d2_ ?_ | refine d3_ ?_ _)); exact BK177.out) hg (Kd.R_ne HO_3.out BK177.out (by decide)))
                   replace HO182 := am_ (Kd.R_after (ok := (fun _ => True)) (by (with_reducible repeat (first | apply r1_ | apply r2_ | apply r3_)); exact HO182.out) hg hat)
                   replace HB := am_ (hb)
                   have HO185 := am_ (ho)
                   clear HO_3
                   clear ho hb hg hat
                   refine hK.out _ _ ⟨(blk_cell BK177.out 0).trans rfl, (blk_cell BK177.out 1).trans rfl, Kd.C_string (P := Tryz.prog) (A := A176_1) (c := c176_1) Tryz.underlying38 Tryz.underlying5 Tryz.underlying9 (Kd.C_below HR176_1.out HB.out)⟩ (fun hHeld => ?_)
                   clear hK K
                   refine no_ (by simp only [Act.put, aS, aZ, aC, i64_w, i32_w]; rfl) ?_
                   refine pu_ 10 3 (bs_ 11 2047) rfl rfl (any_of HT_.out (by kernel_rfl)) rfl (by intro w'; go_simp; with_reducible rfl) (by simp only [Act.put, aS, aZ, aC, i64_w, i32_w]; rfl) (fun _ _ _ h => h) ?_
                   refine done_ (done_of HT_.out (by kernel_rfl)) ?_
                   try go_wp2
                   go_roundg k5
                   case measure => have := HJ4.out; have := HJ24.out; have := HJ29.out; have := HJ41.out; have := HK5.out; omega
                   case rel => exact ⟨(y183), (wrap64 (x61_5 + 1)), (by first | rfl | (simp; done) | (simp [*]; done)), H', ⟨by have := HJ4.out; have := HJ24.out; have := HJ29.out; have := HJ41.out; have := HK5.out; omega⟩, ⟨by (with_reducible repeat (first | apply r1_ | apply r2_ | apply r3_)); exact Kd.R_mono HO185.out (fun _ hk => trivial)⟩, ⟨by (with_reducible repeat (first | refine d1_ ?_ _ | refine d2_ ?_ | refine d3_ ?_ _)); exact BK144.out⟩, ⟨by repeat (first | (with_reducible first | exact HB.out | apply b1_ | apply b2_ | apply b3_ | refine b4_ ?_ GE144.out | refine b4_ ?_ GE177.out) | exact HB.out)⟩⟩
                 rw [if_neg c59] at H
                 exact absurd H (by simp)
               rw [if_neg c56] at H
               exact absurd H (by simp)
             rw [if_neg c55] at H
             exact absurd H (by simp)
           rw [if_neg c54] at H
           have c54b0 : decide (x61_5 < (l0_7.length : Int)) = false := decide_eq_false c54
           clear c54
           have HC73 := am_ H
           clear H
           obtain ⟨⟨hcz74_0, hcz74_1, hcz74_2, hcz74_3, hcz74_4, hcz74_5, hcz74_6, hcz74_7, hcz74_8, hcz74_9⟩, hfz74_0, hfz74_1, hfz74_2, hfz74_3, hfz74_4, hfz74_5, hfz74_6, hfz74_7, hfz74_8, hfz74_9⟩ := script_Tell.c144 BK144.out
           go_upto_if 77 with (fail)
           go_cut [3] (fun v3 wc => ∃ (kq : Nat) (x3_72 : List ByteArray), Aside0 (script_Tell.j5 kq x3_72 a0_0 a0_1 a0_2 a0_3 a0_4 a0_5 l0_6 l0_7 a0_8 a0_9 = some r) ∧ Aside0 (kq ≤ k5) ∧ Aside0 (Kd.R Kd.string 9 wc w.heap.size (fun _ => True) v3 x3_72) ∧ Aside0 (wc.heap[gb144]? = some (.cells #[.int .i64 a0_0, .int .i64 a0_1, .int .i64 a0_2, .int .i64 a0_3, .int .i64 a0_4, .bool a0_5, (.slice A0_6 l0_6.length c0_6), (.slice A0_7 l0_7.length c0_7), .bool a0_8, .int .i64 a0_9] 41 (0, 0))) ∧ Aside0 (Below w.heap.size w wc))
           case first =>
            have H := HC73.out
            clear HC73
            by_cases c75 : a0_8 = true
            · subst c75
              have H1 : (if x3_5.length < 8796093022208 then (script_Tell.j5 k5 (x3_5 ++ [(⟨#[109, 111, 114, 101]⟩ : ByteArray)]) a0_0 a0_1 a0_2 a0_3 a0_4 a0_5 l0_6 l0_7 true a0_9) else (none)) = some r := by rw [if_pos rfl] at H; exact H
              clear H
              have H := H1
              clear H1
              by_cases c76 : x3_5.length < 8796093022208
              · rw [if_pos c76] at H
                have LMc76 := am_ c76
                clear c76
                obtain ⟨y186, hy186⟩ : ∃ y_ : List ByteArray, y_ = (x3_5 ++ [(⟨#[109, 111, 114, 101]⟩ : ByteArray)]) := ⟨_, rfl⟩
                replace H : (script_Tell.j5 k5 y186 a0_0 a0_1 a0_2 a0_3 a0_4 a0_5 l0_6 l0_7 true a0_9) = some r := by first | (rw [hy186]; with_reducible exact H) | (have H2_ := (Option.bind_some _ _).symm.trans H; rw [hy186]; with_reducible exact H2_) | (have H2_ := (Option.bind_some _ _).symm.trans H; with_reducible exact H2_) | with_reducible exact H | (rw [hy186]; exact H) | exact H
                have Ny186 := am_ hy186
                clear hy186
                have H' := am_ H
                clear H
                go_wp2_with (first | ((with_reducible refine gate_builtin (b := .append) (xs := #[.tmp 78, .tmp 79]) rfl ?_); at_builtin; refine Kd.R_append Kd.string (w0 := w) w.heap.size rfl (.tmp 78) (.tmp 79) 71 9 (.string ⟨#[]⟩) 16 rfl Tryz.underlying71 info9 rfl (by decide) (by omega) u3 x3_5 (⟨#[109, 111, 114, 101]⟩ : ByteArray) [.string (⟨#[109, 111, 114, 101]⟩ : ByteArray)] (fun _ => True) (fun _ => False) rfl rfl ?aP (fun _ hk => hk.elim) ?aF ?aO ?aB ?aS ?aL ?_; (case aP => exact rfl); (case aB => exact (by repeat (first | (with_reducible first | exact HB.out | apply b1_ | apply b2_ | apply b3_ | refine b4_ ?_ GE144.out) | exact HB.out))); (case aF => exact (fun _ _ => trivial)); (case aO => exact (by (with_reducible repeat (first | apply r1_ | apply r2_ | apply r3_)); exact HO_3.out)); (case aS => exact (below_size (by repeat (first | (with_reducible first | exact HB.out | apply b1_ | apply b2_ | apply b3_ | refine b4_ ?_ GE144.out) | exact HB.out)))); (case aL => have := LMc76.out; omega); intro v187 w77 ho hb hg hat; rw [← Ny186.out] at ho; replace BK144 := am_ (blk_grown (g := gb144) (o := .cells #[.int .i64 a0_0, .int .i64 a0_1, .int .i64 a0_2, .int .i64 a0_3, .int .i64 a0_4, .bool a0_5, .slice A0_6 l0_6.length c0_6, .slice A0_7 l0_7.length c0_7, .bool true, .int .i64 a0_9] 41 (0, 0)) (by (with_reducible repeat (first | refine d1_ ?_ _ | refine d2_ ?_ | refine d3_ ?_ _)); exact BK144.out) hg (Kd.R_ne HO_3.out BK144.out (by decide))); replace HB := am_ (hb); have HO188 := am_ (ho); clear HO_3; clear ho hb hg hat))
                go_meet
                case rel => exact ⟨_, (y186), H', ⟨by have := HJ4.out; have := HJ24.out; have := HJ29.out; have := HJ41.out; have := HK5.out; first | omega | exact Nat.le_refl _⟩, ⟨by (with_reducible repeat (first | apply r1_ | apply r2_ | apply r3_)); exact HO188.out⟩, ⟨by (with_reducible repeat (first | refine d1_ ?_ _ | refine d2_ ?_ | refine d3_ ?_ _)); exact BK144.out⟩, ⟨by repeat (first | (with_reducible first | exact HB.out | apply b1_ | apply b2_ | apply b3_ | refine b4_ ?_ GE144.out) | exact HB.out)⟩⟩
              rw [if_neg c76] at H
              exact absurd H (by simp)
            replace c75 := Bool.eq_false_iff.mpr c75
            subst c75
            have H1 : (script_Tell.j5 k5 x3_5 a0_0 a0_1 a0_2 a0_3 a0_4 a0_5 l0_6 l0_7 false a0_9) = some r := by rw [if_neg (show ¬ (false = true) by decide)] at H; exact H
            clear H
            have H := H1
            clear H1
            have H' := am_ H
            clear H
            go_wp2
            go_meet
            case rel => exact ⟨_, (x3_5), H', ⟨by have := HJ4.out; have := HJ24.out; have := HJ29.out; have := HJ41.out; have := HK5.out; first | omega | exact Nat.le_refl _⟩, ⟨by (with_reducible repeat (first | apply r1_ | apply r2_ | apply r3_)); exact HO_3.out⟩, ⟨by (with_reducible repeat (first | refine d1_ ?_ _ | refine d2_ ?_ | refine d3_ ?_ _)); exact BK144.out⟩, ⟨by repeat (first | (with_reducible first | exact HB.out | apply b1_ | apply b2_ | apply b3_ | refine b4_ ?_ GE144.out) | exact HB.out)⟩⟩
           case rest =>
            clear HC73
            try clear c1
            try clear p1
            try clear q1
            try clear hx1
            try clear c2
            try clear p2
            try clear c3
            try clear hcv3
            try clear c4
            try clear c5
            try clear c6
            try clear p6
            try clear c7
            try clear c14
            try clear c14b0
            try clear c14b1
            try clear c14b2
            try clear c17
            try clear p17
            try clear q17
            try clear hx17
            try clear c18
            try clear c20
            try clear c27
            try clear c28
            try clear c32
            try clear c32b0
            try clear c32b1
            try clear c32b2
            try clear c33
            try clear c34
            try clear hcv36
            try clear c44
            try clear c44b0
            try clear c44b1
            try clear c44b2
            try clear c46
            try clear c54
            try clear c54b0
            try clear c55
            try clear c55b0
            try clear c56
            try clear c56b0
            try clear c59
            try clear c61
            try clear p64
            try clear c75
            try clear c76
            try clear hcz13_0 hcz13_1 hcz13_2 hcz13_3 hcz13_4 hcz13_5 hcz13_6 hcz13_7 hcz13_8 hcz13_9 hfz13_0 hfz13_1 hfz13_2 hfz13_3 hfz13_4 hfz13_5 hfz13_6 hfz13_7 hfz13_8 hfz13_9
            try clear hcz26_0 hcz26_1 hcz26_2 hcz26_3 hcz26_4 hcz26_5 hcz26_6 hcz26_7 hcz26_8 hcz26_9 hfz26_0 hfz26_1 hfz26_2 hfz26_3 hfz26_4 hfz26_5 hfz26_6 hfz26_7 hfz26_8 hfz26_9
            try clear hcz31_0 hcz31_1 hcz31_2 hcz31_3 hcz31_4 hcz31_5 hcz31_6 hcz31_7 hcz31_8 hcz31_9 hfz31_0 hfz31_1 hfz31_2 hfz31_3 hfz31_4 hfz31_5 hfz31_6 hfz31_7 hfz31_8 hfz31_9
            try clear hcz35_0 hcz35_1 hcz35_2 hcz35_3 hcz35_4 hcz35_5 hcz35_6 hcz35_7 hcz35_8 hcz35_9 hfz35_0 hfz35_1 hfz35_2 hfz35_3 hfz35_4 hfz35_5 hfz35_6 hfz35_7 hfz35_8 hfz35_9
            try clear hcz43_0 hcz43_1 hcz43_2 hcz43_3 hcz43_4 hcz43_5 hcz43_6 hcz43_7 hcz43_8 hcz43_9 hfz43_0 hfz43_1 hfz43_2 hfz43_3 hfz43_4 hfz43_5 hfz43_6 hfz43_7 hfz43_8 hfz43_9
            try clear hcz47_0 hcz47_1 hcz47_2 hcz47_3 hcz47_4 hcz47_5 hcz47_6 hcz47_7 hcz47_8 hcz47_9 hfz47_0 hfz47_1 hfz47_2 hfz47_3 hfz47_4 hfz47_5 hfz47_6 hfz47_7 hfz47_8 hfz47_9
            try clear hcz53_0 hcz53_1 hcz53_2 hcz53_3 hcz53_4 hcz53_5 hcz53_6 hcz53_7 hcz53_8 hcz53_9 hfz53_0 hfz53_1 hfz53_2 hfz53_3 hfz53_4 hfz53_5 hfz53_6 hfz53_7 hfz53_8 hfz53_9
            try clear hcz62_0 hcz62_1 hfz62_0 hfz62_1
            try clear hcz74_0 hcz74_1 hcz74_2 hcz74_3 hcz74_4 hcz74_5 hcz74_6 hcz74_7 hcz74_8 hcz74_9 hfz74_0 hfz74_1 hfz74_2 hfz74_3 hfz74_4 hfz74_5 hfz74_6 hfz74_7 hfz74_8 hfz74_9
            try clear hx176_0
            try clear hx176_1
            try clear p176
            try clear p2
            try clear q176
            obtain ⟨kq, x3_72, HA, HJ72, HO_3, BK144, HB⟩ := hcut
            cases kq with
            | zero => exact absurd HA.out (by simp [script_Tell.j5])
            | succ kj72 =>
             have H := HA.out
             clear HA
             simp only [script_Tell.j5] at H
             by_cases c78 : a0_9 = 0
             · rw [if_pos c78] at H
               have c78b0 : (a0_9 == 0) = true := beq_iff_eq.mpr c78
               have c78b1 : (a0_9 != 0) = false := bne_eq_false_iff_eq.mpr c78
               clear c78
               replace H := Option.bind_eq_some_iff.mp H
               obtain ⟨t189, A790, H⟩ := H
               have A79 := am_ A790
               clear A790
               obtain rfl := Option.some.inj H
               obtain ⟨⟨hcz80_0, hcz80_1, hcz80_2, hcz80_3, hcz80_4, hcz80_5, hcz80_6, hcz80_7, hcz80_8, hcz80_9⟩, hfz80_0, hfz80_1, hfz80_2, hfz80_3, hfz80_4, hfz80_5, hfz80_6, hfz80_7, hfz80_8, hfz80_9⟩ := script_Tell.c144 BK144.out
               obtain ⟨Ao81, co81, eo81⟩ := Kd.R_slice HO_3.out
               subst eo81
               go_wp2_with (first | ((with_reducible refine gate_callee (f := 35) rfl ?_); refine goesL_ (some 91) rfl rfl Tryz.func35 (by kernel_rfl) rfl #[.slice Ao81 x3_72.length co81, .string (⟨#[32]⟩ : ByteArray)] rfl (by (try simp only [aT, aK, aL]); first | done | rfl | (simp only [List.length_drop, List.length_take]; rfl)) ?_; (with_reducible refine (strings_Join.calls _ _ x3_72 (⟨#[32]⟩ : ByteArray) t189 _ ?side1 ?side2 A79.out).mono ?_); (case side1 => repeat (first | exact (Kd.R_reads' HO_3.out).2.2 | (with_reducible refine Kd.C_alloc ?_ _) | (with_reducible refine Kd.C_drewN ?_ _) | (with_reducible refine Kd.C_drew ?_))); (case side2 => exact (Kd.R_reads' HO_3.out).2.1); rintro e w82 ⟨rfl, hb⟩; refine ⟨_, rfl, ?_⟩; replace HO_3 := am_ (Kd.R_below (by (with_reducible repeat (first | apply r1_ | apply r2_ | apply r3_)); exact HO_3.out) hb); replace BK144 := am_ (blk_below (by (with_reducible repeat (first | refine d1_ ?_ _ | refine d2_ ?_ | refine d3_ ?_ _)); exact BK144.out) hb); replace HB := am_ (below_step (by repeat (first | (with_reducible first | exact HB.out | apply b1_ | apply b2_ | apply b3_ | refine b4_ ?_ GE144.out) | exact HB.out)) hb); (try clear hb); (try clear hk)))
               go_ret
               exact ⟨by first | rfl | (simp [errW_none, errW_some] <;> rfl) | (simp [*, errW_none, errW_some] <;> rfl), by repeat (first | (with_reducible first | exact HB.out | apply b1_ | apply b2_ | apply b3_ | refine b4_ ?_ GE144.out) | exact HB.out)⟩
             rw [if_neg c78] at H
             have c78b0 : (a0_9 == 0) = false := beq_eq_false_iff_ne.mpr c78
             have c78b1 : (a0_9 != 0) = true := bne_iff_ne.mpr c78
             replace H := Option.bind_eq_some_iff.mp H
             obtain ⟨t190, A830, H⟩ := H
             have A83 := am_ A830
             clear A830
             obtain ⟨y191, hy191⟩ : ∃ y_ : List ByteArray, y_ = (([(⟨#[115, 116, 97, 109, 112]⟩ : ByteArray), t190] : List ByteArray)) := ⟨_, rfl⟩
             replace H : (if x3_72.length + y191.length < 8796093022208 then ((strings_Join.f (x3_72 ++ y191) (⟨#[32]⟩ : ByteArray)).bind fun t197 => (some t197)) else (none)) = some r := by first | (rw [hy191]; with_reducible exact H) | (have H2_ := (Option.bind_some _ _).symm.trans H; rw [hy191]; with_reducible exact H2_) | (have H2_ := (Option.bind_some _ _).symm.trans H; with_reducible exact H2_) | with_reducible exact H | (rw [hy191]; exact H) | exact H
             have Ny191 := am_ hy191
             clear hy191
             by_cases c84 : x3_72.length + y191.length < 8796093022208
             · rw [if_pos c84] at H
               have LMc84 := am_ c84
               clear c84
               obtain ⟨y194, hy194⟩ : ∃ y_ : List ByteArray, y_ = (x3_72 ++ y191) := ⟨_, rfl⟩
               replace H : ((strings_Join.f y194 (⟨#[32]⟩ : ByteArray)).bind fun t197 => (some t197)) = some r := by first | (rw [hy194]; with_reducible exact H) | (have H2_ := (Option.bind_some _ _).symm.trans H; rw [hy194]; with_reducible exact H2_) | (have H2_ := (Option.bind_some _ _).symm.trans H; with_reducible exact H2_) | with_reducible exact H | (rw [hy194]; exact H) | exact H
               have Ny194 := am_ hy194
               clear hy194
               replace H := Option.bind_eq_some_iff.mp H
               obtain ⟨t197, A850, H⟩ := H
               have A85 := am_ A850
               clear A850
               obtain rfl := Option.some.inj H
               obtain ⟨⟨hcz86_0, hcz86_1, hcz86_2, hcz86_3, hcz86_4, hcz86_5, hcz86_6, hcz86_7, hcz86_8, hcz86_9⟩, hfz86_0, hfz86_1, hfz86_2, hfz86_3, hfz86_4, hfz86_5, hfz86_6, hfz86_7, hfz86_8, hfz86_9⟩ := script_Tell.c144 BK144.out
               try go_wp2_with (first | ((with_reducible refine gate_callee (f := 33) rfl ?_); refine goesL_ (some 87) rfl rfl Tryz.func33 (by kernel_rfl) rfl #[.int .i64 a0_9] rfl (by (try simp only [aT, aK, aL]); first | done | rfl | (simp only [List.length_drop, List.length_take]; rfl)) ?_; (with_reducible refine (script_number.calls a0_9 t190 _ ?side1 A83.out).mono ?_); (case side1 => exact sc.Env.below HE.out (by repeat (first | (with_reducible first | exact HB.out | apply b1_ | apply b2_ | apply b3_ | refine b4_ ?_ GE144.out) | exact HB.out))); rintro e w87 ⟨rfl, hb⟩; refine ⟨_, rfl, ?_⟩; replace HO_3 := am_ (Kd.R_below (by (with_reducible repeat (first | apply r1_ | apply r2_ | apply r3_)); exact HO_3.out) hb); replace BK144 := am_ (blk_below (by (with_reducible repeat (first | refine d1_ ?_ _ | refine d2_ ?_ | refine d3_ ?_ _)); exact BK144.out) hb); replace HB := am_ (below_step (by repeat (first | (with_reducible first | exact HB.out | apply b1_ | apply b2_ | apply b3_ | refine b4_ ?_ GE144.out) | exact HB.out)) hb); (try clear hb); (try clear hk)) | ((with_reducible refine gate_dst (N := 88) rfl ?_); refine Kd.R_lit Kd.string _ 9 ?hg (N := 88) ?hd (xs := ([(⟨#[115, 116, 97, 109, 112]⟩ : ByteArray), t190] : List ByteArray)) (inner := [.string (⟨#[115, 116, 97, 109, 112]⟩ : ByteArray), .string t190]) (ok := fun _ => True) (okp := fun _ => True) ?hr ?hp (fun _ hk => hk) trivial (Below.refl _ _) (Nat.le_refl _) (by simp) ?_; (case hd => rfl); (case hg => rfl); (case hr => first | (go_simp; done) | (go_simp; rfl)); (case hp => exact (Reps.one (show Kd.M Kd.string _ _ _ (⟨#[115, 116, 97, 109, 112]⟩ : ByteArray) [.string (⟨#[115, 116, 97, 109, 112]⟩ : ByteArray)] from rfl) (Reps.one (show Kd.M Kd.string _ _ _ t190 [.string t190] from rfl) (Reps.none _ _)))); intro v192 w88 ho89 hb hg_ hnew_; clear hg_ hnew_; (first | rw [← Ny191.out] at ho89 | (simp only [Int.reduceToNat] at ho89; rw [← Ny191.out] at ho89)); have HO193 := am_ (Kd.R_lower (Kd.R_new' ho89 (Kd.R_lt (by (with_reducible repeat (first | apply r1_ | apply r2_ | apply r3_)); exact HO_3.out))) (below_size (by repeat (first | (with_reducible first | exact HB.out | apply b1_ | apply b2_ | apply b3_ | refine b4_ ?_ GE144.out) | exact HB.out)))); replace HO_3 := am_ (Kd.R_elder' (by (with_reducible repeat (first | apply r1_ | apply r2_ | apply r3_)); exact HO_3.out) (Kd.R_base ho89) hb); replace BK144 := am_ (blk_below (by (with_reducible repeat (first | refine d1_ ?_ _ | refine d2_ ?_ | refine d3_ ?_ _)); exact BK144.out) hb); replace HB := am_ (below_step (by repeat (first | (with_reducible first | exact HB.out | apply b1_ | apply b2_ | apply b3_ | refine b4_ ?_ GE144.out) | exact HB.out)) hb); clear hb ho89; obtain ⟨Ao91, co91, eo91⟩ := Kd.R_slice HO193.out; subst eo91) | ((with_reducible refine gate_builtin (b := .append) (xs := #[.tmp 84, .tmp 88]) rfl ?_); at_builtin; refine Kd.R_append_rows Kd.string (w0 := w) w.heap.size rfl (.tmp 84) (.tmp 88) 71 9 (.string ⟨#[]⟩) 16 rfl Tryz.underlying71 info9 rfl (by decide) (by omega) u3 x3_72 y191 _ _ _ (fun k_ => some k_ ≠ (.slice Ao91 y191.length co91 : Value).ownBlock) (fun _ => False) rfl rfl ?aO ?aR (fun _ _ h => h) (fun _ h => h.elim) ?aF ?aB ?aS ?aL ?_; (case aR => repeat (first | exact (Kd.R_reads' HO193.out).2.2 | (with_reducible refine Kd.C_alloc ?_ _) | (with_reducible refine Kd.C_drewN ?_ _) | (with_reducible refine Kd.C_drew ?_))); (case aB => exact (by repeat (first | (with_reducible first | exact HB.out | apply b1_ | apply b2_ | apply b3_ | refine b4_ ?_ GE144.out) | exact HB.out))); (case aF => exact (fun k_ hk => Kd.fresh' (Kd.R_lt (by (with_reducible repeat (first | apply r1_ | apply r2_ | apply r3_)); exact HO193.out)) k_ hk)); (case aO => exact (by (with_reducible repeat (first | apply r1_ | apply r2_ | apply r3_)); exact Kd.R_mono HO_3.out (fun _ hk => hk.2))); (case aS => exact (below_size (by repeat (first | (with_reducible first | exact HB.out | apply b1_ | apply b2_ | apply b3_ | refine b4_ ?_ GE144.out) | exact HB.out)))); (case aL => have := LMc84.out; omega); intro v195 w90 ho hb hg hat; rw [← Ny194.out] at ho; replace BK144 := am_ (blk_grown (g := gb144) (o := .cells #[.int .i64 a0_0, .int .i64 a0_1, .int .i64 a0_2, .int .i64 a0_3, .int .i64 a0_4, .bool a0_5, .slice A0_6 l0_6.length c0_6, .slice A0_7 l0_7.length c0_7, .bool a0_8, .int .i64 a0_9] 41 (0, 0)) (by (with_reducible repeat (first | refine d1_ ?_ _ | refine d2_ ?_ | refine d3_ ?_ _)); exact BK144.out) hg (Kd.R_ne HO_3.out BK144.out (by decide))); replace HO193 := am_ (Kd.R_after (ok := (fun _ => True)) (by (with_reducible repeat (first | apply r1_ | apply r2_ | apply r3_)); exact HO193.out) hg hat); replace HB := am_ (hb); have HO196 := am_ (ho); clear HO_3; clear ho hb hg hat; obtain ⟨Ao92, co92, eo92⟩ := Kd.R_slice HO196.out; subst eo92) | ((with_reducible refine gate_callee (f := 35) rfl ?_); refine goesL_ (some 91) rfl rfl Tryz.func35 (by kernel_rfl) rfl #[.slice Ao92 y194.length co92, .string (⟨#[32]⟩ : ByteArray)] rfl (by (try simp only [aT, aK, aL]); first | done | rfl | (simp only [List.length_drop, List.length_take]; rfl)) ?_; (with_reducible refine (strings_Join.calls _ _ y194 (⟨#[32]⟩ : ByteArray) t197 _ ?side1 ?side2 A85.out).mono ?_); (case side1 => repeat (first | exact (Kd.R_reads' HO196.out).2.2 | (with_reducible refine Kd.C_alloc ?_ _) | (with_reducible refine Kd.C_drewN ?_ _) | (with_reducible refine Kd.C_drew ?_))); (case side2 => exact (Kd.R_reads' HO196.out).2.1); rintro e w93 ⟨rfl, hb⟩; refine ⟨_, rfl, ?_⟩; replace HO193 := am_ (Kd.R_below (by (with_reducible repeat (first | apply r1_ | apply r2_ | apply r3_)); exact HO193.out) hb); replace HO196 := am_ (Kd.R_below (by (with_reducible repeat (first | apply r1_ | apply r2_ | apply r3_)); exact HO196.out) hb); replace BK144 := am_ (blk_below (by (with_reducible repeat (first | refine d1_ ?_ _ | refine d2_ ?_ | refine d3_ ?_ _)); exact BK144.out) hb); replace HB := am_ (below_step (by repeat (first | (with_reducible first | exact HB.out | apply b1_ | apply b2_ | apply b3_ | refine b4_ ?_ GE144.out) | exact HB.out)) hb); (try clear hb); (try clear hk)))
               go_ret
               exact ⟨by first | rfl | (simp [errW_none, errW_some] <;> rfl) | (simp [*, errW_none, errW_some] <;> rfl), by repeat (first | (with_reducible first | exact HB.out | apply b1_ | apply b2_ | apply b3_ | refine b4_ ?_ GE144.out) | exact HB.out)⟩
             rw [if_neg c84] at H
             exact absurd H (by simp)
end Go.Proofs.YtndbbgihpoiojaaGreatDoor.Q
namespace Go.Proofs.YtndbbgihpoiojaaGreatDoor.Q
open Go.RowKit Go.Proofs.YtndbbgihpoiojaaGreatDoorW.PrintWords Go.Proofs.YtndbbgihpoiojaaGreatDoorW.PrintLast Go.Proofs.YtndbbgihpoiojaaGreatDoorW.PrintMore
attribute [local go_sem] max2_int min2_int max_two min_two max_three min_three max_four min_four   -- for this text's walks alone
def slices_Equal_byte_byte.l0 : Nat → List Int → List Int → Int → Int → Option (Bool)
 | 0, _, _, _, _ => none
 | k + 1, x0, x1, x12, x13 => if x13 < x12 then (if 0 ≤ x13 then (if x13 < (x0.length : Int) then (if x13 < (x1.length : Int) then (if (rd x0 x13) = (rd x1 x13) then (slices_Equal_byte_byte.l0 k x0 x1 x12 (wrap64 (x13 + 1))) else (some false)) else (none)) else (none)) else (none)) else (some true)
def slices_Equal_byte_byte.f (k : Nat) (l0 : List Int) (l1 : List Int) : Option (Bool) := if (l0.length : Int) = (l1.length : Int) then (slices_Equal_byte_byte.l0 k l0 l1 (l0.length : Int) 0) else (some false)
theorem slices_Equal_byte_byte.calls (k : Nat) (A0 : Option Addr) (c0 : Nat) (l0 : List Int) (A1 : Option Addr) (c1 : Nat) (l1 : List Int) (r : Bool) (w : World) (hr0 : Kd.C (Kd.int .u8) w A0 l0.length l0) (hc0 : l0.length ≤ c0) (hr1 : Kd.C (Kd.int .u8) w A1 l1.length l1) (hc1 : l1.length ≤ c1) (h : slices_Equal_byte_byte.f k l0 l1 = some r) :
 Calls Tryz.prog 26 #[.slice A0 l0.length c0, .slice A1 l1.length c1] w fun e w' => e = .returned (.bool r) ∧ Drawn0 w w' := by
 have HR0 := am_ hr0
 have HC0 := am_ hc0
 clear hr0 hc0
 have HR1 := am_ hr1
 have HC1 := am_ hc1
 clear hr1 hc1
 have H : (if (l0.length : Int) = (l1.length : Int) then (slices_Equal_byte_byte.l0 k l0 l1 (l0.length : Int) 0) else (some false)) = some r := h
 clear h
 by_cases c3 : (l0.length : Int) = (l1.length : Int)
 · rw [if_pos c3] at H
   have c3b0 : ((l0.length : Int) == (l1.length : Int)) = true := beq_iff_eq.mpr c3
   have c3b1 : ((l0.length : Int) != (l1.length : Int)) = false := bne_eq_false_iff_eq.mpr c3
   have c3b2 : (l0.length == l1.length) = true := by first | simpa using c3 | (simp at c3 ⊢; omega)
   clear c3
   have H' := am_ H
   clear H
   go_enter Tryz.func26, Tryz.ntmps26
   go_wp2
   repeat (go_quiet (fail); try go_wp2)
   go_loopg [13] k (fun kq v13 w' => ∃ (x13_1 : Int), v13 = .int .i64 x13_1 ∧ Aside0 (slices_Equal_byte_byte.l0 kq l0 l1 (l0.length : Int) x13_1 = some r) ∧ Aside0 (kq ≤ k) ∧ Drawn0 w w')
   case atStart => exact ⟨(0), (by first | rfl | (simp; done) | (simp [*]; done)), H', ⟨Nat.le_refl _⟩, by repeat (first | exact Drawn0.refl _ | apply Drawn0.step)⟩
   case round =>
    clear H'
    try clear c1
    try clear c2
    try clear p2
    try clear c3
    try clear c3b0
    try clear c3b1
    try clear c3b2
    obtain ⟨x13_1, rfl, HA, HK1, ⟨m1, rfl⟩⟩ := hrel
    cases gk with
    | zero => exact absurd HA.out (by simp [slices_Equal_byte_byte.l0])
    | succ k1 =>
     have H := HA.out
     clear HA
     simp only [slices_Equal_byte_byte.l0] at H
     by_cases c4 : x13_1 < (l0.length : Int)
     · rw [if_pos c4] at H
       have c4b0 : decide (x13_1 < (l0.length : Int)) = true := decide_eq_true c4
       clear c4
       by_cases c5 : 0 ≤ x13_1
       · rw [if_pos c5] at H
         have c5b0 : decide (0 ≤ x13_1) = true := decide_eq_true c5
         clear c5
         by_cases c6 : x13_1 < (l0.length : Int)
         · rw [if_pos c6] at H
           have c6b0 : decide (x13_1 < (l0.length : Int)) = true := decide_eq_true c6
           clear c6
           by_cases c7 : x13_1 < (l1.length : Int)
           · rw [if_pos c7] at H
             have c7b0 : decide (x13_1 < (l1.length : Int)) = true := decide_eq_true c7
             clear c7
             by_cases c8 : (rd l0 x13_1) = (rd l1 x13_1)
             · rw [if_pos c8] at H
               have c8b0 : ((rd l0 x13_1) == (rd l1 x13_1)) = true := beq_iff_eq.mpr c8
               have c8b1 : ((rd l0 x13_1) != (rd l1 x13_1)) = false := bne_eq_false_iff_eq.mpr c8
               clear c8
               have H' := am_ H
               clear H
               have p575 : 0 ≤ (x13_1 : Int) := of_decide_eq_true (by first | (with_reducible assumption) | assumption)
               have q575 : x13_1 < (l0.length : Int) := of_decide_eq_true (by first | (with_reducible assumption) | assumption)
               obtain ⟨ad575, e575, hx575_0⟩ := Kd.at_int HR0.out x13_1 p575 q575
               cases e575
               replace p575 := eq_true p575
               replace q575 := eq_true q575
               have p576 : 0 ≤ (x13_1 : Int) := of_decide_eq_true (by first | (with_reducible assumption) | assumption)
               have q576 : x13_1 < (l1.length : Int) := of_decide_eq_true (by first | (with_reducible assumption) | assumption)
               obtain ⟨ad576, e576, hx576_0⟩ := Kd.at_int HR1.out x13_1 p576 q576
               cases e576
               replace p576 := eq_true p576
               replace q576 := eq_true q576
               go_wp2
               repeat (go_quiet (fail); try go_wp2)
               go_roundg k1
               case measure => have := HK1.out; omega
               case rel => exact ⟨(wrap64 (x13_1 + 1)), (by first | rfl | (simp; done) | (simp [*]; done)), H', ⟨by have := HK1.out; omega⟩, by repeat (first | exact Drawn0.refl _ | apply Drawn0.step)⟩
             rw [if_neg c8] at H
             have c8b0 : ((rd l0 x13_1) == (rd l1 x13_1)) = false := beq_eq_false_iff_ne.mpr c8
             have c8b1 : ((rd l0 x13_1) != (rd l1 x13_1)) = true := bne_iff_ne.mpr c8
             obtain rfl := Option.some.inj H
             have p575 : 0 ≤ (x13_1 : Int) := of_decide_eq_true (by first | (with_reducible assumption) | assumption)
             have q575 : x13_1 < (l0.length : Int) := of_decide_eq_true (by first | (with_reducible assumption) | assumption)
             obtain ⟨ad575, e575, hx575_0⟩ := Kd.at_int HR0.out x13_1 p575 q575
             cases e575
             replace p575 := eq_true p575
             replace q575 := eq_true q575
             have p576 : 0 ≤ (x13_1 : Int) := of_decide_eq_true (by first | (with_reducible assumption) | assumption)
             have q576 : x13_1 < (l1.length : Int) := of_decide_eq_true (by first | (with_reducible assumption) | assumption)
             obtain ⟨ad576, e576, hx576_0⟩ := Kd.at_int HR1.out x13_1 p576 q576
             cases e576
             replace p576 := eq_true p576
             replace q576 := eq_true q576
             go_wp2
             repeat (go_quiet (fail); try go_wp2)
             go_ret
             exact ⟨by first | rfl | (simp; done) | (simp [*]; done), by repeat (first | exact Drawn0.refl _ | apply Drawn0.step)⟩
           rw [if_neg c7] at H
           exact absurd H (by simp)
         rw [if_neg c6] at H
         exact absurd H (by simp)
       rw [if_neg c5] at H
       exact absurd H (by simp)
     rw [if_neg c4] at H
     have c4b0 : decide (x13_1 < (l0.length : Int)) = false := decide_eq_false c4
     clear c4
     obtain rfl := Option.some.inj H
     go_wp2
     repeat (go_quiet (fail); try go_wp2)
     go_ret
     exact ⟨by first | rfl | (simp; done) | (simp [*]; done), by repeat (first | exact Drawn0.refl _ | apply Drawn0.step)⟩
 rw [if_neg c3] at H
 have c3b0 : ((l0.length : Int) == (l1.length : Int)) = false := beq_eq_false_iff_ne.mpr c3
 have c3b1 : ((l0.length : Int) != (l1.length : Int)) = true := bne_iff_ne.mpr c3
 have c3b2 : (l0.length == l1.length) = false := by first | simpa using c3 | (simp at c3 ⊢; omega)
 obtain rfl := Option.some.inj H
 go_enter Tryz.func26, Tryz.ntmps26
 go_wp2
 repeat (go_quiet (fail); try go_wp2)
 go_ret
 exact ⟨by first | rfl | (simp; done) | (simp [*]; done), by repeat (first | exact Drawn0.refl _ | apply Drawn0.step)⟩
end Go.Proofs.YtndbbgihpoiojaaGreatDoor.Q
namespace Go.Proofs.YtndbbgihpoiojaaGreatDoor.Q
open Go.RowKit Go.Proofs.YtndbbgihpoiojaaGreatDoorW.PrintWords Go.Proofs.YtndbbgihpoiojaaGreatDoorW.PrintLast
def nums8 (l : List UInt8) : List Int := l.map fun b => (b.toNat : Int)
theorem nums8_append (a b : List UInt8) : nums8 (a ++ b) = nums8 a ++ nums8 b := List.map_append
theorem nums8_length (a : List UInt8) : (nums8 a).length = a.length := List.length_map ..
theorem strOf_nums8 (l : List UInt8) : strOfNums (nums8 l) = ⟨l.toArray⟩ := by
 unfold strOfNums nums8
 rw [List.map_map]
 congr 2
 conv => rhs; rw [← List.map_id l]
 apply List.map_congr_left
 intro b _
 simp
theorem bt_nat (s : ByteArray) (i : Nat) (h : i < s.data.toList.length) : bt s (i : Int) = ((s.data.toList[i]).toNat : Int) := by
 have hs : i < s.size := by rw [← data_length]; exact h
 have := bt_at s (i : Int) (by simpa using hs)
 rw [← this]
 simp
 rfl
theorem bt_lit (l : List UInt8) (i : Nat) (h : i < l.length) : bt ⟨l.toArray⟩ (i : Int) = (l[i].toNat : Int) := bt_nat ⟨l.toArray⟩ i h
theorem w64 {x : Int} (h0 : -9223372036854775808 ≤ x) (h1 : x ≤ 9223372036854775807) : wrap64 x = x := by unfold wrap64; omega
theorem ba_ext {a b : ByteArray} (h : a.data.toList = b.data.toList) : a = b := by
 obtain ⟨⟨l⟩⟩ := a
 obtain ⟨⟨m⟩⟩ := b
 have h' : l = m := h
 subst h'
 rfl
theorem ba_eta (a : ByteArray) : (⟨a.data.toList.toArray⟩ : ByteArray) = a := ba_ext rfl
theorem toList_data (a : ByteArray) : a.toList = a.data.toList := sc.bytes_list a
theorem size_mk (l : List UInt8) : (⟨l.toArray⟩ : ByteArray).size = l.length := by simp [ByteArray.size]
theorem extract_data (s : ByteArray) (a b : Nat) : (s.extract a b).data.toList = (s.data.toList.drop a).take (b - a) := by
 simp [ByteArray.data_extract, List.take_drop]
end Go.Proofs.YtndbbgihpoiojaaGreatDoor.Q
namespace Go.Proofs.YtndbbgihpoiojaaGreatDoor.Q
open Go.RowKit Go.Proofs.YtndbbgihpoiojaaGreatDoorW.PrintWords Go.Proofs.YtndbbgihpoiojaaGreatDoorW.PrintLast Go.Proofs.YtndbbgihpoiojaaGreatDoorW.PrintMore
attribute [local go_sem] max2_int min2_int max_two min_two max_three min_three max_four min_four   -- for this text's walks alone
mutual
def script_unquote.j0 : Nat → ByteArray → Bool → Option (ByteArray × Bool)
 | 0, _, _ => none
 | k + 1, x0, x24 => if x24 = true then (some ((⟨#[]⟩ : ByteArray), false)) else (if 1 ≤ (wrap64 ((x0.size : Int) - 1)) then (if (wrap64 ((x0.size : Int) - 1)) ≤ (x0.size : Int) then (script_unquote.l0 k x0 (x0.extract 1 ((wrap64 ((x0.size : Int) - 1)) : Int).toNat) ([] : List Int) 0) else (none)) else (none))
def script_unquote.l0 : Nat → ByteArray → ByteArray → List Int → Int → Option (ByteArray × Bool)
 | 0, _, _, _, _ => none
 | k + 1, x0, x4, x5, x6 => if x6 < (x4.size : Int) then (if 0 ≤ x6 then (if (bt x4 x6) = 37 then (if (wrap64 (x6 + 2)) ≥ (x4.size : Int) then (some ((⟨#[]⟩ : ByteArray), false)) else (if 0 ≤ (wrap64 (x6 + 1)) then (if (wrap64 (x6 + 1)) < (x4.size : Int) then ((strings_IndexByte.f (⟨#[48, 49, 50, 51, 52, 53, 54, 55, 56, 57, 65, 66, 67, 68, 69, 70]⟩ : ByteArray) (bt x4 (wrap64 (x6 + 1)))).bind fun t622 => (if 0 ≤ (wrap64 (x6 + 2)) then (if (wrap64 (x6 + 2)) < (x4.size : Int) then ((strings_IndexByte.f (⟨#[48, 49, 50, 51, 52, 53, 54, 55, 56, 57, 65, 66, 67, 68, 69, 70]⟩ : ByteArray) (bt x4 (wrap64 (x6 + 2)))).bind fun t623 => (if t622 < 0 then (some ((⟨#[]⟩ : ByteArray), false)) else (if t623 < 0 then (some ((⟨#[]⟩ : ByteArray), false)) else (if x5.length < 140737488355328 then (script_unquote.l0 k x0 x4 (x5 ++ [(wrap64 ((wrap64 (16 * t622)) + t623)) % 256]) (wrap64 ((wrap64 (x6 + 2)) + 1))) else (none))))) else (none)) else (none))) else (none)) else (none))) else (if x5.length < 140737488355328 then (script_unquote.l0 k x0 x4 (x5 ++ [bt x4 x6]) (wrap64 (x6 + 1))) else (none))) else (none)) else ((script_Quote.f (strOfNums x5)).bind fun t618 => (some (strOfNums x5, (t618.toList == x0.toList))))
end
def script_unquote.f (k : Nat) (a0 : ByteArray) : Option (ByteArray × Bool) := if (a0.size : Int) < 2 then (script_unquote.j0 k a0 true) else (if 0 < (a0.size : Int) then (if (bt a0 0) = 34 then (if 0 ≤ (wrap64 ((a0.size : Int) - 1)) then (if (wrap64 ((a0.size : Int) - 1)) < (a0.size : Int) then (script_unquote.j0 k a0 ((bt a0 (wrap64 ((a0.size : Int) - 1))) != 34)) else (none)) else (none)) else (script_unquote.j0 k a0 true)) else (none))
def script_unquote.T12 : Bool × List (List Nat × List Nat) := (true, [([], []), ([], []), ([1], [1]), ([0, 2], [0, 2]), ([3], [3]), ([], []), ([], []), ([6], [6]), ([5, 7], [5, 7]), ([8, 4], [8]), ([4, 9, 0, 1, 2, 3, 4], [4]), ([9, 10, 0, 1, 2, 3, 4, 5, 6, 7, 8, 9, 10], [9])])
def script_unquote.B12 : List Nat := [0, 0, 2, 7, 15, 0, 0, 64, 224, 511, 1023, 2047]
theorem script_unquote.tab12 : rtab .any (opsOf Tryz.f115 12) = script_unquote.T12 := by kernel_rfl
theorem script_unquote.bits12 : waitsOk script_unquote.T12.2 script_unquote.B12 = true := by kernel_rfl
def script_unquote.T17 : Bool × List (List Nat × List Nat) := (true, [([], []), ([0], [0]), ([], []), ([2], [2]), ([3], [3]), ([], []), ([4, 5], [4, 5]), ([1, 4, 0, 1], [1]), ([6, 7, 0, 1, 2, 3, 4, 5, 6, 7], [6])])
def script_unquote.B17 : List Nat := [0, 1, 0, 4, 12, 0, 60, 31, 255]
theorem script_unquote.tab17 : rtab .any (opsOf Tryz.f115 17) = script_unquote.T17 := by kernel_rfl
theorem script_unquote.bits17 : waitsOk script_unquote.T17.2 script_unquote.B17 = true := by kernel_rfl
theorem script_unquote.calls (k : Nat) (a0 : ByteArray) (r1 : ByteArray) (r2 : Bool) (w : World) (hE : sc.Env w) (h : script_unquote.f k a0 = some (r1, r2)) :
 Calls Tryz.prog 115 #[.string a0] w fun e w' => e = .returned (.tuple #[.string r1, .bool r2]) ∧ Below w.heap.size w w' := by
 have HE := am_ hE
 clear hE
 have HB := am_ (Below.refl w.heap.size w)
 have H : (if (a0.size : Int) < 2 then (script_unquote.j0 k a0 true) else (if 0 < (a0.size : Int) then (if (bt a0 0) = 34 then (if 0 ≤ (wrap64 ((a0.size : Int) - 1)) then (if (wrap64 ((a0.size : Int) - 1)) < (a0.size : Int) then (script_unquote.j0 k a0 ((bt a0 (wrap64 ((a0.size : Int) - 1))) != 34)) else (none)) else (none)) else (script_unquote.j0 k a0 true)) else (none))) = some (r1, r2) := h
 clear h
 have HC2 := am_ H
 clear H
 go_enter Tryz.func115, Tryz.ntmps115
 go_upto_region 1 with (fail)
 go_cut [24] (fun v24 wc => ∃ (kq : Nat) (x24_1 : Bool), v24 = .bool x24_1 ∧ Aside0 (script_unquote.j0 kq a0 x24_1 = some (r1, r2)) ∧ Aside0 (kq ≤ k) ∧ Aside0 (Below w.heap.size w wc))
 case first =>
  have H := HC2.out
  clear HC2
  by_cases c3 : (a0.size : Int) < 2
  · rw [if_pos c3] at H
    have c3b0 : decide ((a0.size : Int) < 2) = true := decide_eq_true c3
    have c3b1 : decide (a0.size < 2) = true := decide_eq_true (by omega)
    clear c3
    (first | rw [c3b0] | rw [c3b1] | rw [c3b2] | (simp only [i64_w, i32_w]; rw [c3b0]) | (simp only [i64_w, i32_w]; rw [c3b1]) | skip)
    have H' := am_ H
    clear H
    go_wp2
    go_meet
    case rel => exact ⟨_, (true), (by first | rfl | (simp; done) | (simp [*]; done)), H', ⟨by first | omega | exact Nat.le_refl _⟩, ⟨by repeat (first | (with_reducible first | exact HB.out | apply b1_ | apply b2_ | apply b3_) | exact HB.out)⟩⟩
  rw [if_neg c3] at H
  have c3b0 : decide ((a0.size : Int) < 2) = false := decide_eq_false c3
  have c3b1 : decide (a0.size < 2) = false := decide_eq_false (by omega)
  clear c3
  (first | rw [c3b0] | rw [c3b1] | rw [c3b2] | (simp only [i64_w, i32_w]; rw [c3b0]) | (simp only [i64_w, i32_w]; rw [c3b1]) | skip)
  by_cases c4 : 0 < (a0.size : Int)
  · rw [if_pos c4] at H
    have c4b0 : decide (0 < (a0.size : Int)) = true := decide_eq_true c4
    have c4b1 : decide (0 < a0.size) = true := decide_eq_true (by omega)
    clear c4
    by_cases c6 : (bt a0 0) = 34
    · rw [if_pos c6] at H
      have c6b0 : ((bt a0 0) == 34) = true := beq_iff_eq.mpr c6
      have c6b1 : ((bt a0 0) != 34) = false := bne_eq_false_iff_eq.mpr c6
      clear c6
      obtain ⟨ji7, hji7⟩ : ∃ j_ : Int, (wrap64 ((a0.size : Int) - 1)) = j_ := ⟨_, rfl⟩
      replace H : (if 0 ≤ (ji7) then (if (ji7) < (a0.size : Int) then (script_unquote.j0 k a0 ((bt a0 (ji7)) != 34)) else (none)) else (none)) = some (r1, r2) := by first | (rw [hji7] at H; exact H) | (simp only [hji7] at H ⊢; exact H)
      have hji7w : (IntKind.i64.wrap ((a0.size : Int) - 1)) = ji7 := (i64_w _).trans hji7
      by_cases c8 : 0 ≤ (ji7)
      · rw [if_pos c8] at H
        have c8b0 : decide (0 ≤ (ji7)) = true := decide_eq_true c8
        clear c8
        by_cases c9 : (ji7) < (a0.size : Int)
        · rw [if_pos c9] at H
          have c9b0 : decide ((ji7) < (a0.size : Int)) = true := decide_eq_true c9
          clear c9
          have H' := am_ H
          clear H
          have p5 : 0 ≤ (0 : Int) := (by omega)
          have q5 : 0 < a0.size := (by have : (0 : Int) < (a0.size : Int) := of_decide_eq_true (by first | (with_reducible assumption) | assumption); omega)
          have hx5 : ∀ h : 0 < a0.size, ((a0[0]'h).toNat : Int) = bt a0 0 := bt_at a0 0
          clear p5
          have qi5 : (0 < (a0.size : Int)) = True := eq_true (of_decide_eq_true (by first | (with_reducible assumption) | assumption))
          replace q5 := eq_true q5
          have p10 : 0 ≤ ((ji7) : Int) := of_decide_eq_true (by first | (with_reducible assumption) | assumption)
          have q10 : (ji7) < (a0.size : Int) := of_decide_eq_true (by first | (with_reducible assumption) | assumption)
          have hx10 := bt_at a0 (ji7)
          replace p10 := eq_true p10
          replace q10 := eq_true q10
          go_wp2
          go_meet
          case rel => exact ⟨_, (((bt a0 (ji7)) != 34)), (by first | rfl | (simp; done) | (simp only [← hji7] <;> (first | rfl | simp)) | (simp [*]; done)), H', ⟨by first | omega | exact Nat.le_refl _⟩, ⟨by repeat (first | (with_reducible first | exact HB.out | apply b1_ | apply b2_ | apply b3_) | exact HB.out)⟩⟩
        rw [if_neg c9] at H
        exact absurd H (by simp)
      rw [if_neg c8] at H
      exact absurd H (by simp)
    rw [if_neg c6] at H
    have c6b0 : ((bt a0 0) == 34) = false := beq_eq_false_iff_ne.mpr c6
    have c6b1 : ((bt a0 0) != 34) = true := bne_iff_ne.mpr c6
    have H' := am_ H
    clear H
    have p5 : 0 ≤ (0 : Int) := (by omega)
    have q5 : 0 < a0.size := (by have : (0 : Int) < (a0.size : Int) := of_decide_eq_true (by first | (with_reducible assumption) | assumption); omega)
    have hx5 : ∀ h : 0 < a0.size, ((a0[0]'h).toNat : Int) = bt a0 0 := bt_at a0 0
    clear p5
    have qi5 : (0 < (a0.size : Int)) = True := eq_true (of_decide_eq_true (by first | (with_reducible assumption) | assumption))
    replace q5 := eq_true q5
    go_wp2
    go_meet
    case rel => exact ⟨_, (true), (by first | rfl | (simp; done) | (simp [*]; done)), H', ⟨by first | omega | exact Nat.le_refl _⟩, ⟨by repeat (first | (with_reducible first | exact HB.out | apply b1_ | apply b2_ | apply b3_) | exact HB.out)⟩⟩
  rw [if_neg c4] at H
  exact absurd H (by simp)
 case rest =>
  clear HC2
  try clear c1
  try clear p1
  try clear q1
  try clear hx1
  try clear p2
  try clear c3
  try clear c3b0
  try clear c3b1
  try clear c3b2
  try clear c4
  try clear c4b0
  try clear c4b1
  try clear p5
  try clear q5
  try clear hx5
  try clear qi5
  try clear c6
  try clear c6b0
  try clear c6b1
  try clear p6
  try clear c8
  try clear c8b0
  try clear c9
  try clear c9b0
  try clear p10
  try clear q10
  try clear hx10
  try clear p10
  try clear p5
  try clear q10
  try clear q5
  obtain ⟨kq, x24_1, rfl, HA, HJ1, HB⟩ := hcut
  cases kq with
  | zero => exact absurd HA.out (by simp [script_unquote.j0])
  | succ kj1 =>
   have H := HA.out
   clear HA
   simp only [script_unquote.j0] at H
   by_cases c11 : x24_1 = true
   · subst c11
     have H1 : (some ((⟨#[]⟩ : ByteArray), false)) = some (r1, r2) := by rw [if_pos rfl] at H; exact H
     clear H
     have H := H1
     clear H1
     simp only [Option.some.injEq, Prod.mk.injEq] at H
     obtain ⟨rfl, rfl⟩ := H
     go_wp2
     go_ret2
     exact ⟨by first | rfl | (simp [errW_none, errW_some] <;> rfl) | (simp [*, errW_none, errW_some] <;> rfl), by repeat (first | (with_reducible first | exact HB.out | apply b1_ | apply b2_ | apply b3_) | exact HB.out)⟩
   replace c11 := Bool.eq_false_iff.mpr c11
   subst c11
   have H1 : (if 1 ≤ (wrap64 ((a0.size : Int) - 1)) then (if (wrap64 ((a0.size : Int) - 1)) ≤ (a0.size : Int) then (script_unquote.l0 kj1 a0 (a0.extract 1 ((wrap64 ((a0.size : Int) - 1)) : Int).toNat) ([] : List Int) 0) else (none)) else (none)) = some (r1, r2) := by rw [if_neg (show ¬ (false = true) by decide)] at H; exact H
   clear H
   have H := H1
   clear H1
   by_cases c12 : 1 ≤ (wrap64 ((a0.size : Int) - 1))
   · rw [if_pos c12] at H
     have c12b0 := eq_true c12
     have c12b1 : decide (1 ≤ (wrap64 ((a0.size : Int) - 1))) = true := decide_eq_true c12
     clear c12
     by_cases c13 : (wrap64 ((a0.size : Int) - 1)) ≤ (a0.size : Int)
     · rw [if_pos c13] at H
       have c13b0 := eq_true c13
       have c13b1 : decide ((wrap64 ((a0.size : Int) - 1)) ≤ (a0.size : Int)) = true := decide_eq_true c13
       clear c13
       have H' := am_ H
       clear H
       go_wp2
       generalize a0.extract 1 ((wrap64 ((a0.size : Int) - 1)) : Int).toNat = y4 at *
       go_loopg [5, 6] kj1 (fun kq v5 v6 w' => ∃ (x5_2 : List Int) (x6_2 : Int), v6 = .int .i64 x6_2 ∧ Aside0 (script_unquote.l0 kq a0 y4 x5_2 x6_2 = some (r1, r2)) ∧ Aside0 (kq ≤ kj1) ∧ Aside0 (Kd.R (Kd.int .u8) 5 w' w.heap.size (fun _ => True) v5 x5_2) ∧ Aside0 (Below w.heap.size w w'))
       case atStart => exact ⟨(([] : List Int)), (0), (by first | rfl | (simp; done) | (simp [*]; done)), H', ⟨Nat.le_refl _⟩, ⟨by first | exact Kd.R_nil _ _ _ _ _ | exact Kd.N_nil _ _ _ _ _ | exact Kd.V_nil _ _ _ _ _ | exact Kd.Q_nil _ _ _ _ _ | exact Kd.S_nil _ _ _ _ _⟩, ⟨by repeat (first | (with_reducible first | exact HB.out | apply b1_ | apply b2_ | apply b3_) | exact HB.out)⟩⟩
       case round =>
        clear H'
        try clear c1
        try clear p1
        try clear q1
        try clear hx1
        try clear p2
        try clear c3
        try clear c3b0
        try clear c3b1
        try clear c3b2
        try clear c4
        try clear c4b0
        try clear c4b1
        try clear p5
        try clear q5
        try clear hx5
        try clear qi5
        try clear c6
        try clear c6b0
        try clear c6b1
        try clear p6
        try clear c8
        try clear c8b0
        try clear c9
        try clear c9b0
        try clear p10
        try clear q10
        try clear hx10
        try clear c11
        try clear c12
        try clear c12b0
        try clear c12b1
        try clear c13
        try clear c13b0
        try clear c13b1
        try clear p1
        try clear p10
        try clear p2
        try clear p5
        try clear p6
        try clear q1
        try clear q10
        try clear q5
        obtain ⟨x5_2, x6_2, rfl, HA, HK2, HO_5, HB⟩ := hrel
        cases gk with
        | zero => exact absurd HA.out (by simp [script_unquote.l0])
        | succ k2 =>
         have H := HA.out
         clear HA
         simp only [script_unquote.l0] at H
         by_cases c14 : x6_2 < (y4.size : Int)
         · rw [if_pos c14] at H
           have c14b0 : decide (x6_2 < (y4.size : Int)) = true := decide_eq_true c14
           clear c14
           by_cases c15 : 0 ≤ x6_2
           · rw [if_pos c15] at H
             have c15b0 : decide (0 ≤ x6_2) = true := decide_eq_true c15
             clear c15
             by_cases c17 : (bt y4 x6_2) = 37
             · rw [if_pos c17] at H
               have c17b0 : ((bt y4 x6_2) == 37) = true := beq_iff_eq.mpr c17
               have c17b1 : ((bt y4 x6_2) != 37) = false := bne_eq_false_iff_eq.mpr c17
               clear c17
               by_cases c18 : (wrap64 (x6_2 + 2)) ≥ (y4.size : Int)
               · rw [if_pos c18] at H
                 have c18b0 : decide ((y4.size : Int) ≤ (wrap64 (x6_2 + 2))) = true := decide_eq_true c18
                 clear c18
                 simp only [Option.some.injEq, Prod.mk.injEq] at H
                 obtain ⟨rfl, rfl⟩ := H
                 have p16 : 0 ≤ (x6_2 : Int) := of_decide_eq_true (by first | (with_reducible assumption) | assumption)
                 have q16 : x6_2 < (y4.size : Int) := of_decide_eq_true (by first | (with_reducible assumption) | assumption)
                 have hx16 := bt_at y4 x6_2
                 replace p16 := eq_true p16
                 replace q16 := eq_true q16
                 go_wp2
                 go_ret2
                 exact ⟨by first | rfl | (simp [errW_none, errW_some] <;> rfl) | (simp [*, errW_none, errW_some] <;> rfl), by repeat (first | (with_reducible first | exact HB.out | apply b1_ | apply b2_ | apply b3_) | exact HB.out)⟩
               rw [if_neg c18] at H
               have c18b0 : decide ((y4.size : Int) ≤ (wrap64 (x6_2 + 2))) = false := decide_eq_false c18
               clear c18
               obtain ⟨ji19, hji19⟩ : ∃ j_ : Int, (wrap64 (x6_2 + 1)) = j_ := ⟨_, rfl⟩
               replace H : (if 0 ≤ (ji19) then (if (ji19) < (y4.size : Int) then ((strings_IndexByte.f (⟨#[48, 49, 50, 51, 52, 53, 54, 55, 56, 57, 65, 66, 67, 68, 69, 70]⟩ : ByteArray) (bt y4 (ji19))).bind fun t622 => (if 0 ≤ (wrap64 (x6_2 + 2)) then (if (wrap64 (x6_2 + 2)) < (y4.size : Int) then ((strings_IndexByte.f (⟨#[48, 49, 50, 51, 52, 53, 54, 55, 56, 57, 65, 66, 67, 68, 69, 70]⟩ : ByteArray) (bt y4 (wrap64 (x6_2 + 2)))).bind fun t623 => (if t622 < 0 then (some ((⟨#[]⟩ : ByteArray), false)) else (if t623 < 0 then (some ((⟨#[]⟩ : ByteArray), false)) else (if x5_2.length < 140737488355328 then (script_unquote.l0 k2 a0 y4 (x5_2 ++ [(wrap64 ((wrap64 (16 * t622)) + t623)) % 256]) (wrap64 ((wrap64 (x6_2 + 2)) + 1))) else (none))))) else (none)) else (none))) else (none)) else (none)) = some (r1, r2) := by first | (rw [hji19] at H; exact H) | (simp only [hji19] at H ⊢; exact H)
               have hji19w : (IntKind.i64.wrap (x6_2 + 1)) = ji19 := (i64_w _).trans hji19
               by_cases c20 : 0 ≤ (ji19)
               · rw [if_pos c20] at H
                 have c20b0 : decide (0 ≤ (ji19)) = true := decide_eq_true c20
                 clear c20
                 by_cases c21 : (ji19) < (y4.size : Int)
                 · rw [if_pos c21] at H
                   have c21b0 : decide ((ji19) < (y4.size : Int)) = true := decide_eq_true c21
                   clear c21
                   replace H := Option.bind_eq_some_iff.mp H
                   obtain ⟨t622, A230, H⟩ := H
                   have A23 := am_ A230
                   clear A230
                   obtain ⟨ji24, hji24⟩ : ∃ j_ : Int, (wrap64 (x6_2 + 2)) = j_ := ⟨_, rfl⟩
                   replace H : (if 0 ≤ (ji24) then (if (ji24) < (y4.size : Int) then ((strings_IndexByte.f (⟨#[48, 49, 50, 51, 52, 53, 54, 55, 56, 57, 65, 66, 67, 68, 69, 70]⟩ : ByteArray) (bt y4 (ji24))).bind fun t623 => (if t622 < 0 then (some ((⟨#[]⟩ : ByteArray), false)) else (if t623 < 0 then (some ((⟨#[]⟩ : ByteArray), false)) else (if x5_2.length < 140737488355328 then (script_unquote.l0 k2 a0 y4 (x5_2 ++ [(wrap64 ((wrap64 (16 * t622)) + t623)) % 256]) (wrap64 ((ji24) + 1))) else (none))))) else (none)) else (none)) = some (r1, r2) := by first | (rw [hji24] at H; exact H) | (simp only [hji24] at H ⊢; exact H)
                   (try rw [hji24] at c18b0)
                   (try rw [hji24] at A23)
                   have hji24w : (IntKind.i64.wrap (x6_2 + 2)) = ji24 := (i64_w _).trans hji24
                   by_cases c25 : 0 ≤ (ji24)
                   · rw [if_pos c25] at H
                     have c25b0 : decide (0 ≤ (ji24)) = true := decide_eq_true c25
                     clear c25
                     by_cases c26 : (ji24) < (y4.size : Int)
                     · rw [if_pos c26] at H
                       have c26b0 : decide ((ji24) < (y4.size : Int)) = true := decide_eq_true c26
                       clear c26
                       replace H := Option.bind_eq_some_iff.mp H
                       obtain ⟨t623, A280, H⟩ := H
                       have A28 := am_ A280
                       clear A280
                       by_cases c29 : t622 < 0
                       · rw [if_pos c29] at H
                         have c29b0 : decide (t622 < 0) = true := decide_eq_true c29
                         clear c29
                         simp only [Option.some.injEq, Prod.mk.injEq] at H
                         obtain ⟨rfl, rfl⟩ := H
                         have p16 : 0 ≤ (x6_2 : Int) := of_decide_eq_true (by first | (with_reducible assumption) | assumption)
                         have q16 : x6_2 < (y4.size : Int) := of_decide_eq_true (by first | (with_reducible assumption) | assumption)
                         have hx16 := bt_at y4 x6_2
                         replace p16 := eq_true p16
                         replace q16 := eq_true q16
                         try go_wp2
                         replace HO_5 := am_ (r3_ HO_5.out)
                         replace HB := am_ (b3_ HB.out)
                         have p22 : 0 ≤ ((ji19) : Int) := of_decide_eq_true (by first | (with_reducible assumption) | assumption)
                         have q22 : (ji19) < (y4.size : Int) := of_decide_eq_true (by first | (with_reducible assumption) | assumption)
                         have hx22 := bt_at y4 (ji19)
                         replace p22 := eq_true p22
                         replace q22 := eq_true q22
                         have p27 : 0 ≤ ((ji24) : Int) := of_decide_eq_true (by first | (with_reducible assumption) | assumption)
                         have q27 : (ji24) < (y4.size : Int) := of_decide_eq_true (by first | (with_reducible assumption) | assumption)
                         have hx27 := bt_at y4 (ji24)
                         replace p27 := eq_true p27
                         replace q27 := eq_true q27
                         refine start_ (n := 12) (S := fun w' => True) (ds := []) #[false, false, false, false, false, false, false, false, false, false, false, false] (by kernel_rfl) rfl rfl trivial (fun hHeld => ?_); refine with_tabW script_unquote.tab12 script_unquote.bits12 (fun HT_ HW_ => ?_)
                         generalize wr.drew = w30 at HO_5 HB hHeld ⊢
                         refine pu_ 0 51 (bs_ 12 1) rfl rfl (any_of HT_.out (by kernel_rfl)) rfl (by intro w'; go_simp; with_reducible rfl) (by simp only [Act.put, aS, aZ, aC, i64_w, i32_w]; rfl) (fun _ _ _ h => h) ?_
                         refine pu_ 1 52 (bs_ 12 3) rfl rfl (any_of HT_.out (by kernel_rfl)) rfl (by intro w'; go_simp; with_reducible rfl) (by simp only [Act.put, aS, aZ, aC, i64_w, i32_w]; rfl) (fun _ _ _ h => h) ?_
                         refine pu_ 2 53 (bs_ 12 7) rfl rfl (any_of HT_.out (by kernel_rfl)) rfl (by intro w'; go_simp; with_reducible rfl) (by simp only [Act.put, aS, aZ, aC, i64_w, i32_w]; rfl) (fun _ _ _ h => h) ?_
                         refine pu_ 5 56 (bs_ 12 39) rfl rfl (any_of HT_.out (by kernel_rfl)) rfl (by intro w'; go_simp; with_reducible rfl) (by simp only [Act.put, aS, aZ, aC, i64_w, i32_w]; rfl) (fun _ _ _ h => h) ?_
                         refine pu_ 6 57 (bs_ 12 103) rfl rfl (any_of HT_.out (by kernel_rfl)) rfl (by intro w'; go_simp; with_reducible rfl) (by simp only [Act.put, aS, aZ, aC, i64_w, i32_w]; rfl) (fun _ _ _ h => h) ?_
                         refine pu_ 7 58 (bs_ 12 231) rfl rfl (any_of HT_.out (by kernel_rfl)) rfl (by intro w'; go_simp; with_reducible rfl) (by simp only [Act.put, aS, aZ, aC, i64_w, i32_w]; rfl) (fun _ _ _ h => h) ?_
                         refine take_ (i := 3) (N := some 54) (v := ?_) (a' := ?_) (bs_ 12 239) rfl rfl (take_ofW HT_.out HW_.out (by kernel_rfl)) (fun _ _ _ h => h) (Or.inl ⟨by rfl, ?_⟩) hHeld ?_ ?_
                         rotate_left
                         · intro w' _
                           go_simp
                           with_reducible rfl
                         rotate_left
                         · simp only [Act.put, aS, aZ, aC, i64_w, i32_w]
                           rfl
                         refine take_ (i := 8) (N := some 59) (v := ?_) (a' := ?_) (bs_ 12 495) rfl rfl (take_ofW HT_.out HW_.out (by kernel_rfl)) (fun _ _ _ h => h) (Or.inl ⟨by rfl, ?_⟩) hHeld ?_ ?_
                         rotate_left
                         · intro w' _
                           go_simp
                           with_reducible rfl
                         rotate_left
                         · simp only [Act.put, aS, aZ, aC, i64_w, i32_w]
                           rfl
                         refine one_ (i := 4) (N := some 55) (bs_ 12 511) rfl rfl (one_of HT_.out (by kernel_rfl)) (by decide) (fun K hK => ?_)
                         refine goes_ Tryz.func82 (by kernel_rfl) rfl #[.string (⟨#[48, 49, 50, 51, 52, 53, 54, 55, 56, 57, 65, 66, 67, 68, 69, 70]⟩ : ByteArray), .int .u8 (bt y4 (ji19))] (by rfl) rfl rfl (by (try simp only [aT, aK, aL]); first | done | (simp only [hji19]; rfl) | rfl | (simp only [List.length_drop, List.length_take]; rfl)) ?_
                         with_reducible refine (strings_IndexByte.calls (⟨#[48, 49, 50, 51, 52, 53, 54, 55, 56, 57, 65, 66, 67, 68, 69, 70]⟩ : ByteArray) (bt y4 (ji19)) t622 _ A23.out).mono ?_
                         rintro e w' ⟨rfl, ⟨nd, rfl⟩⟩
                         refine ⟨_, rfl, ?_⟩
                         refine hK.out _ _ trivial (fun hHeld => ?_)
                         clear hK K
                         refine no_ (by simp only [Act.put, aS, aZ, aC, i64_w, i32_w]; rfl) ?_
                         refine one_ (i := 9) (N := some 60) (bs_ 12 1023) rfl rfl (one_of HT_.out (by kernel_rfl)) (by decide) (fun K hK => ?_)
                         refine goes_ Tryz.func82 (by kernel_rfl) rfl #[.string (⟨#[48, 49, 50, 51, 52, 53, 54, 55, 56, 57, 65, 66, 67, 68, 69, 70]⟩ : ByteArray), .int .u8 (bt y4 (ji24))] (by rfl) rfl rfl (by (try simp only [aT, aK, aL]); first | done | (simp only [hji24]; rfl) | rfl | (simp only [List.length_drop, List.length_take]; rfl)) ?_
                         with_reducible refine (strings_IndexByte.calls (⟨#[48, 49, 50, 51, 52, 53, 54, 55, 56, 57, 65, 66, 67, 68, 69, 70]⟩ : ByteArray) (bt y4 (ji24)) t623 _ A28.out).mono ?_
                         rintro e w' ⟨rfl, ⟨nd, rfl⟩⟩
                         refine ⟨_, rfl, ?_⟩
                         refine hK.out _ _ trivial (fun hHeld => ?_)
                         clear hK K
                         refine no_ (by simp only [Act.put, aS, aZ, aC, i64_w, i32_w]; rfl) ?_
                         refine pu_ 10 7 (bs_ 12 2047) rfl rfl (any_of HT_.out (by kernel_rfl)) rfl (by intro w'; go_simp; with_reducible rfl) (by simp only [Act.put, aS, aZ, aC, i64_w, i32_w]; rfl) (fun _ _ _ h => h) ?_
                         refine pu_ 11 8 (bs_ 12 4095) rfl rfl (any_of HT_.out (by kernel_rfl)) rfl (by intro w'; go_simp; with_reducible rfl) (by simp only [Act.put, aS, aZ, aC, i64_w, i32_w]; rfl) (fun _ _ _ h => h) ?_
                         refine done_ (done_of HT_.out (by kernel_rfl)) ?_
                         try go_wp2
                         go_ret2
                         exact ⟨by first | rfl | (simp [errW_none, errW_some] <;> rfl) | (simp only [← hji19, ← hji24]; first | rfl | (simp [errW_none, errW_some] <;> rfl)) | (simp [*, errW_none, errW_some] <;> rfl), by repeat (first | (with_reducible first | exact HB.out | apply b1_ | apply b2_ | apply b3_) | exact HB.out)⟩
                       rw [if_neg c29] at H
                       have c29b0 : decide (t622 < 0) = false := decide_eq_false c29
                       clear c29
                       by_cases c31 : t623 < 0
                       · rw [if_pos c31] at H
                         have c31b0 : decide (t623 < 0) = true := decide_eq_true c31
                         clear c31
                         simp only [Option.some.injEq, Prod.mk.injEq] at H
                         obtain ⟨rfl, rfl⟩ := H
                         have p16 : 0 ≤ (x6_2 : Int) := of_decide_eq_true (by first | (with_reducible assumption) | assumption)
                         have q16 : x6_2 < (y4.size : Int) := of_decide_eq_true (by first | (with_reducible assumption) | assumption)
                         have hx16 := bt_at y4 x6_2
                         replace p16 := eq_true p16
                         replace q16 := eq_true q16
                         try go_wp2
                         replace HO_5 := am_ (r3_ HO_5.out)
                         replace HB := am_ (b3_ HB.out)
                         have p22 : 0 ≤ ((ji19) : Int) := of_decide_eq_true (by first | (with_reducible assumption) | assumption)
                         have q22 : (ji19) < (y4.size : Int) := of_decide_eq_true (by first | (with_reducible assumption) | assumption)
                         have hx22 := bt_at y4 (ji19)
                         replace p22 := eq_true p22
                         replace q22 := eq_true q22
                         have p27 : 0 ≤ ((ji24) : Int) := of_decide_eq_true (by first | (with_reducible assumption) | assumption)
                         have q27 : (ji24) < (y4.size : Int) := of_decide_eq_true (by first | (with_reducible assumption) | assumption)
                         have hx27 := bt_at y4 (ji24)
                         replace p27 := eq_true p27
                         replace q27 := eq_true q27
                         refine start_ (n := 12) (S := fun w' => True) (ds := []) #[false, false, false, false, false, false, false, false, false, false, false, false] (by kernel_rfl) rfl rfl trivial (fun hHeld => ?_); refine with_tabW script_unquote.tab12 script_unquote.bits12 (fun HT_ HW_ => ?_)
                         generalize wr.drew = w32 at HO_5 HB hHeld ⊢
                         refine pu_ 0 51 (bs_ 12 1) rfl rfl (any_of HT_.out (by kernel_rfl)) rfl (by intro w'; go_simp; with_reducible rfl) (by simp only [Act.put, aS, aZ, aC, i64_w, i32_w]; rfl) (fun _ _ _ h => h) ?_
                         refine pu_ 1 52 (bs_ 12 3) rfl rfl (any_of HT_.out (by kernel_rfl)) rfl (by intro w'; go_simp; with_reducible rfl) (by simp only [Act.put, aS, aZ, aC, i64_w, i32_w]; rfl) (fun _ _ _ h => h) ?_
                         refine pu_ 2 53 (bs_ 12 7) rfl rfl (any_of HT_.out (by kernel_rfl)) rfl (by intro w'; go_simp; with_reducible rfl) (by simp only [Act.put, aS, aZ, aC, i64_w, i32_w]; rfl) (fun _ _ _ h => h) ?_
                         refine pu_ 5 56 (bs_ 12 39) rfl rfl (any_of HT_.out (by kernel_rfl)) rfl (by intro w'; go_simp; with_reducible rfl) (by simp only [Act.put, aS, aZ, aC, i64_w, i32_w]; rfl) (fun _ _ _ h => h) ?_
                         refine pu_ 6 57 (bs_ 12 103) rfl rfl (any_of HT_.out (by kernel_rfl)) rfl (by intro w'; go_simp; with_reducible rfl) (by simp only [Act.put, aS, aZ, aC, i64_w, i32_w]; rfl) (fun _ _ _ h => h) ?_
                         refine pu_ 7 58 (bs_ 12 231) rfl rfl (any_of HT_.out (by kernel_rfl)) rfl (by intro w'; go_simp; with_reducible rfl) (by simp only [Act.put, aS, aZ, aC, i64_w, i32_w]; rfl) (fun _ _ _ h => h) ?_
                         refine take_ (i := 3) (N := some 54) (v := ?_) (a' := ?_) (bs_ 12 239) rfl rfl (take_ofW HT_.out HW_.out (by kernel_rfl)) (fun _ _ _ h => h) (Or.inl ⟨by rfl, ?_⟩) hHeld ?_ ?_
                         rotate_left
                         · intro w' _
                           go_simp
                           with_reducible rfl
                         rotate_left
                         · simp only [Act.put, aS, aZ, aC, i64_w, i32_w]
                           rfl
                         refine take_ (i := 8) (N := some 59) (v := ?_) (a' := ?_) (bs_ 12 495) rfl rfl (take_ofW HT_.out HW_.out (by kernel_rfl)) (fun _ _ _ h => h) (Or.inl ⟨by rfl, ?_⟩) hHeld ?_ ?_
                         rotate_left
                         · intro w' _
                           go_simp
                           with_reducible rfl
                         rotate_left
                         · simp only [Act.put, aS, aZ, aC, i64_w, i32_w]
                           rfl
                         refine one_ (i := 4) (N := some 55) (bs_ 12 511) rfl rfl (one_of HT_.out (by kernel_rfl)) (by decide) (fun K hK => ?_)
                         refine goes_ Tryz.func82 (by kernel_rfl) rfl #[.string (⟨#[48, 49, 50, 51, 52, 53, 54, 55, 56, 57, 65, 66, 67, 68, 69, 70]⟩ : ByteArray), .int .u8 (bt y4 (ji19))] (by rfl) rfl rfl (by (try simp only [aT, aK, aL]); first | done | (simp only [hji19]; rfl) | rfl | (simp only [List.length_drop, List.length_take]; rfl)) ?_
                         with_reducible refine (strings_IndexByte.calls (⟨#[48, 49, 50, 51, 52, 53, 54, 55, 56, 57, 65, 66, 67, 68, 69, 70]⟩ : ByteArray) (bt y4 (ji19)) t622 _ A23.out).mono ?_
                         rintro e w' ⟨rfl, ⟨nd, rfl⟩⟩
                         refine ⟨_, rfl, ?_⟩
                         refine hK.out _ _ trivial (fun hHeld => ?_)
                         clear hK K
                         refine no_ (by simp only [Act.put, aS, aZ, aC, i64_w, i32_w]; rfl) ?_
                         refine one_ (i := 9) (N := some 60) (bs_ 12 1023) rfl rfl (one_of HT_.out (by kernel_rfl)) (by decide) (fun K hK => ?_)
                         refine goes_ Tryz.func82 (by kernel_rfl) rfl #[.string (⟨#[48, 49, 50, 51, 52, 53, 54, 55, 56, 57, 65, 66, 67, 68, 69, 70]⟩ : ByteArray), .int .u8 (bt y4 (ji24))] (by rfl) rfl rfl (by (try simp only [aT, aK, aL]); first | done | (simp only [hji24]; rfl) | rfl | (simp only [List.length_drop, List.length_take]; rfl)) ?_
                         with_reducible refine (strings_IndexByte.calls (⟨#[48, 49, 50, 51, 52, 53, 54, 55, 56, 57, 65, 66, 67, 68, 69, 70]⟩ : ByteArray) (bt y4 (ji24)) t623 _ A28.out).mono ?_
                         rintro e w' ⟨rfl, ⟨nd, rfl⟩⟩
                         refine ⟨_, rfl, ?_⟩
                         refine hK.out _ _ trivial (fun hHeld => ?_)
                         clear hK K
                         refine no_ (by simp only [Act.put, aS, aZ, aC, i64_w, i32_w]; rfl) ?_
                         refine pu_ 10 7 (bs_ 12 2047) rfl rfl (any_of HT_.out (by kernel_rfl)) rfl (by intro w'; go_simp; with_reducible rfl) (by simp only [Act.put, aS, aZ, aC, i64_w, i32_w]; rfl) (fun _ _ _ h => h) ?_
                         refine pu_ 11 8 (bs_ 12 4095) rfl rfl (any_of HT_.out (by kernel_rfl)) rfl (by intro w'; go_simp; with_reducible rfl) (by simp only [Act.put, aS, aZ, aC, i64_w, i32_w]; rfl) (fun _ _ _ h => h) ?_
                         refine done_ (done_of HT_.out (by kernel_rfl)) ?_
                         try go_wp2
                         go_ret2
                         exact ⟨by first | rfl | (simp [errW_none, errW_some] <;> rfl) | (simp only [← hji19, ← hji24]; first | rfl | (simp [errW_none, errW_some] <;> rfl)) | (simp [*, errW_none, errW_some] <;> rfl), by repeat (first | (with_reducible first | exact HB.out | apply b1_ | apply b2_ | apply b3_) | exact HB.out)⟩
                       rw [if_neg c31] at H
                       have c31b0 : decide (t623 < 0) = false := decide_eq_false c31
                       clear c31
                       by_cases c33 : x5_2.length < 140737488355328
                       · rw [if_pos c33] at H
                         have LMc33 := am_ c33
                         clear c33
                         obtain ⟨y624, hy624⟩ : ∃ y_ : List Int, y_ = (x5_2 ++ [(wrap64 ((wrap64 (16 * t622)) + t623)) % 256]) := ⟨_, rfl⟩
                         replace H : (script_unquote.l0 k2 a0 y4 y624 (wrap64 ((ji24) + 1))) = some (r1, r2) := by first | (rw [hy624]; with_reducible exact H) | (have H2_ := (Option.bind_some _ _).symm.trans H; rw [hy624]; with_reducible exact H2_) | (have H2_ := (Option.bind_some _ _).symm.trans H; with_reducible exact H2_) | with_reducible exact H | (rw [hy624]; exact H) | exact H
                         have Ny624 := am_ hy624
                         clear hy624
                         have H' := am_ H
                         clear H
                         have p16 : 0 ≤ (x6_2 : Int) := of_decide_eq_true (by first | (with_reducible assumption) | assumption)
                         have q16 : x6_2 < (y4.size : Int) := of_decide_eq_true (by first | (with_reducible assumption) | assumption)
                         have hx16 := bt_at y4 x6_2
                         replace p16 := eq_true p16
                         replace q16 := eq_true q16
                         try go_wp2
                         replace HO_5 := am_ (r3_ HO_5.out)
                         replace HB := am_ (b3_ HB.out)
                         have p22 : 0 ≤ ((ji19) : Int) := of_decide_eq_true (by first | (with_reducible assumption) | assumption)
                         have q22 : (ji19) < (y4.size : Int) := of_decide_eq_true (by first | (with_reducible assumption) | assumption)
                         have hx22 := bt_at y4 (ji19)
                         replace p22 := eq_true p22
                         replace q22 := eq_true q22
                         have p27 : 0 ≤ ((ji24) : Int) := of_decide_eq_true (by first | (with_reducible assumption) | assumption)
                         have q27 : (ji24) < (y4.size : Int) := of_decide_eq_true (by first | (with_reducible assumption) | assumption)
                         have hx27 := bt_at y4 (ji24)
                         replace p27 := eq_true p27
                         replace q27 := eq_true q27
                         refine start_ (n := 12) (S := fun w' => True) (ds := []) #[false, false, false, false, false, false, false, false, false, false, false, false] (by kernel_rfl) rfl rfl trivial (fun hHeld => ?_); refine with_tabW script_unquote.tab12 script_unquote.bits12 (fun HT_ HW_ => ?_)
                         generalize wr.drew = w34 at HO_5 HB hHeld ⊢
                         refine pu_ 0 51 (bs_ 12 1) rfl rfl (any_of HT_.out (by kernel_rfl)) rfl (by intro w'; go_simp; with_reducible rfl) (by simp only [Act.put, aS, aZ, aC, i64_w, i32_w]; rfl) (fun _ _ _ h => h) ?_
                         refine pu_ 1 52 (bs_ 12 3) rfl rfl (any_of HT_.out (by kernel_rfl)) rfl (by intro w'; go_simp; with_reducible rfl) (by simp only [Act.put, aS, aZ, aC, i64_w, i32_w]; rfl) (fun _ _ _ h => h) ?_
                         refine pu_ 2 53 (bs_ 12 7) rfl rfl (any_of HT_.out (by kernel_rfl)) rfl (by intro w'; go_simp; with_reducible rfl) (by simp only [Act.put, aS, aZ, aC, i64_w, i32_w]; rfl) (fun _ _ _ h => h) ?_
                         refine pu_ 5 56 (bs_ 12 39) rfl rfl (any_of HT_.out (by kernel_rfl)) rfl (by intro w'; go_simp; with_reducible rfl) (by simp only [Act.put, aS, aZ, aC, i64_w, i32_w]; rfl) (fun _ _ _ h => h) ?_
                         refine pu_ 6 57 (bs_ 12 103) rfl rfl (any_of HT_.out (by kernel_rfl)) rfl (by intro w'; go_simp; with_reducible rfl) (by simp only [Act.put, aS, aZ, aC, i64_w, i32_w]; rfl) (fun _ _ _ h => h) ?_
                         refine pu_ 7 58 (bs_ 12 231) rfl rfl (any_of HT_.out (by kernel_rfl)) rfl (by intro w'; go_simp; with_reducible rfl) (by simp only [Act.put, aS, aZ, aC, i64_w, i32_w]; rfl) (fun _ _ _ h => h) ?_
                         refine take_ (i := 3) (N := some 54) (v := ?_) (a' := ?_) (bs_ 12 239) rfl rfl (take_ofW HT_.out HW_.out (by kernel_rfl)) (fun _ _ _ h => h) (Or.inl ⟨by rfl, ?_⟩) hHeld ?_ ?_
                         rotate_left
                         · intro w' _
                           go_simp
                           with_reducible rfl
                         rotate_left
                         · simp only [Act.put, aS, aZ, aC, i64_w, i32_w]
                           rfl
                         refine take_ (i := 8) (N := some 59) (v := ?_) (a' := ?_) (bs_ 12 495) rfl rfl (take_ofW HT_.out HW_.out (by kernel_rfl)) (fun _ _ _ h => h) (Or.inl ⟨by rfl, ?_⟩) hHeld ?_ ?_
                         rotate_left
                         · intro w' _
                           go_simp
                           with_reducible rfl
                         rotate_left
                         · simp only [Act.put, aS, aZ, aC, i64_w, i32_w]
                           rfl
                         refine one_ (i := 4) (N := some 55) (bs_ 12 511) rfl rfl (one_of HT_.out (by kernel_rfl)) (by decide) (fun K hK => ?_)
                         refine goes_ Tryz.func82 (by kernel_rfl) rfl #[.string (⟨#[48, 49, 50, 51, 52, 53, 54, 55, 56, 57, 65, 66, 67, 68, 69, 70]⟩ : ByteArray), .int .u8 (bt y4 (ji19))] (by rfl) rfl rfl (by (try simp only [aT, aK, aL]); first | done | (simp only [hji19]; rfl) | rfl | (simp only [List.length_drop, List.length_take]; rfl)) ?_
                         with_reducible refine (strings_IndexByte.calls (⟨#[48, 49, 50, 51, 52, 53, 54, 55, 56, 57, 65, 66, 67, 68, 69, 70]⟩ : ByteArray) (bt y4 (ji19)) t622 _ A23.out).mono ?_
                         rintro e w' ⟨rfl, ⟨nd, rfl⟩⟩
                         refine ⟨_, rfl, ?_⟩
                         refine hK.out _ _ trivial (fun hHeld => ?_)
                         clear hK K
                         refine no_ (by simp only [Act.put, aS, aZ, aC, i64_w, i32_w]; rfl) ?_
                         refine one_ (i := 9) (N := some 60) (bs_ 12 1023) rfl rfl (one_of HT_.out (by kernel_rfl)) (by decide) (fun K hK => ?_)
                         refine goes_ Tryz.func82 (by kernel_rfl) rfl #[.string (⟨#[48, 49, 50, 51, 52, 53, 54, 55, 56, 57, 65, 66, 67, 68, 69, 70]⟩ : ByteArray), .int .u8 (bt y4 (ji24))] (by rfl) rfl rfl (by (try simp only [aT, aK, aL]); first | done | (simp only [hji24]; rfl) | rfl | (simp only [List.length_drop, List.length_take]; rfl)) ?_
                         with_reducible refine (strings_IndexByte.calls (⟨#[48, 49, 50, 51, 52, 53, 54, 55, 56, 57, 65, 66, 67, 68, 69, 70]⟩ : ByteArray) (bt y4 (ji24)) t623 _ A28.out).mono ?_
                         rintro e w' ⟨rfl, ⟨nd, rfl⟩⟩
                         refine ⟨_, rfl, ?_⟩
                         refine hK.out _ _ trivial (fun hHeld => ?_)
                         clear hK K
                         refine no_ (by simp only [Act.put, aS, aZ, aC, i64_w, i32_w]; rfl) ?_
                         refine pu_ 10 7 (bs_ 12 2047) rfl rfl (any_of HT_.out (by kernel_rfl)) rfl (by intro w'; go_simp; with_reducible rfl) (by simp only [Act.put, aS, aZ, aC, i64_w, i32_w]; rfl) (fun _ _ _ h => h) ?_
                         refine pu_ 11 8 (bs_ 12 4095) rfl rfl (any_of HT_.out (by kernel_rfl)) rfl (by intro w'; go_simp; with_reducible rfl) (by simp only [Act.put, aS, aZ, aC, i64_w, i32_w]; rfl) (fun _ _ _ h => h) ?_
                         refine done_ (done_of HT_.out (by kernel_rfl)) ?_
                         try go_wp2_with (first | ((with_reducible refine gate_builtin (b := .append) (xs := #[.tmp 67, .tmp 73]) rfl ?_); (try (refine gate_guard (by rfl) ?_; dsimp only)); at_builtin; refine Kd.R_append (Kd.int .u8) (w0 := w) w.heap.size rfl (.tmp 67) (.tmp 73) 38 5 (.int .u8 0) 1 rfl Tryz.underlying38 info5 rfl (by decide) (by omega) u5 x5_2 ((wrap64 ((wrap64 (16 * t622)) + t623)) % 256) [.int .u8 ((wrap64 ((wrap64 (16 * t622)) + t623)) % 256)] (fun _ => True) (fun _ => False) rfl rfl ?aP (fun _ hk => hk.elim) ?aF ?aO ?aB ?aS ?aL ?_; (case aP => exact rfl); (case aB => exact (by repeat (first | (with_reducible first | exact HB.out | apply b1_ | apply b2_ | apply b3_) | exact HB.out))); (case aF => exact (fun _ _ => trivial)); (case aO => exact (by (with_reducible repeat (first | apply r1_ | apply r2_ | apply r3_)); exact HO_5.out)); (case aS => exact (below_size (by repeat (first | (with_reducible first | exact HB.out | apply b1_ | apply b2_ | apply b3_) | exact HB.out)))); (case aL => have := LMc33.out; omega); intro v625 w35 ho hb hg hat; rw [← Ny624.out] at ho; replace HB := am_ (hb); have HO626 := am_ (ho); clear HO_5; clear ho hb hg hat))
                         go_roundg k2
                         case measure => have := HJ1.out; have := HK2.out; omega
                         case rel => exact ⟨(y624), (wrap64 ((ji24) + 1)), (by first | rfl | (simp; done) | (simp only [← hji24] <;> (first | rfl | simp)) | (simp [*]; done)), H', ⟨by have := HJ1.out; have := HK2.out; omega⟩, ⟨by (with_reducible repeat (first | apply r1_ | apply r2_ | apply r3_)); exact HO626.out⟩, ⟨by repeat (first | (with_reducible first | exact HB.out | apply b1_ | apply b2_ | apply b3_) | exact HB.out)⟩⟩
                       rw [if_neg c33] at H
                       exact absurd H (by simp)
                     rw [if_neg c26] at H
                     exact absurd H (by simp)
                   rw [if_neg c25] at H
                   exact absurd H (by simp)
                 rw [if_neg c21] at H
                 exact absurd H (by simp)
               rw [if_neg c20] at H
               exact absurd H (by simp)
             rw [if_neg c17] at H
             have c17b0 : ((bt y4 x6_2) == 37) = false := beq_eq_false_iff_ne.mpr c17
             have c17b1 : ((bt y4 x6_2) != 37) = true := bne_iff_ne.mpr c17
             by_cases c37 : x5_2.length < 140737488355328
             · rw [if_pos c37] at H
               have LMc37 := am_ c37
               clear c37
               obtain ⟨y619, hy619⟩ : ∃ y_ : List Int, y_ = (x5_2 ++ [bt y4 x6_2]) := ⟨_, rfl⟩
               replace H : (script_unquote.l0 k2 a0 y4 y619 (wrap64 (x6_2 + 1))) = some (r1, r2) := by first | (rw [hy619]; with_reducible exact H) | (have H2_ := (Option.bind_some _ _).symm.trans H; rw [hy619]; with_reducible exact H2_) | (have H2_ := (Option.bind_some _ _).symm.trans H; with_reducible exact H2_) | with_reducible exact H | (rw [hy619]; exact H) | exact H
               have Ny619 := am_ hy619
               clear hy619
               have H' := am_ H
               clear H
               have p16 : 0 ≤ (x6_2 : Int) := of_decide_eq_true (by first | (with_reducible assumption) | assumption)
               have q16 : x6_2 < (y4.size : Int) := of_decide_eq_true (by first | (with_reducible assumption) | assumption)
               have hx16 := bt_at y4 x6_2
               replace p16 := eq_true p16
               replace q16 := eq_true q16
               have p36 : 0 ≤ (x6_2 : Int) := of_decide_eq_true (by first | (with_reducible assumption) | assumption)
               have q36 : x6_2 < (y4.size : Int) := of_decide_eq_true (by first | (with_reducible assumption) | assumption)
               have hx36 := bt_at y4 x6_2
               replace p36 := eq_true p36
               replace q36 := eq_true q36
               go_wp2_with (first | ((with_reducible refine gate_builtin (b := .append) (xs := #[.tmp 40, .tmp 44]) rfl ?_); (try (refine gate_guard (by rfl) ?_; dsimp only)); at_builtin; refine Kd.R_append (Kd.int .u8) (w0 := w) w.heap.size rfl (.tmp 40) (.tmp 44) 38 5 (.int .u8 0) 1 rfl Tryz.underlying38 info5 rfl (by decide) (by omega) u5 x5_2 (bt y4 x6_2) [.int .u8 (bt y4 x6_2)] (fun _ => True) (fun _ => False) rfl rfl ?aP (fun _ hk => hk.elim) ?aF ?aO ?aB ?aS ?aL ?_; (case aP => exact rfl); (case aB => exact (by repeat (first | (with_reducible first | exact HB.out | apply b1_ | apply b2_ | apply b3_) | exact HB.out))); (case aF => exact (fun _ _ => trivial)); (case aO => exact (by (with_reducible repeat (first | apply r1_ | apply r2_ | apply r3_)); exact HO_5.out)); (case aS => exact (below_size (by repeat (first | (with_reducible first | exact HB.out | apply b1_ | apply b2_ | apply b3_) | exact HB.out)))); (case aL => have := LMc37.out; omega); intro v620 w38 ho hb hg hat; rw [← Ny619.out] at ho; replace HB := am_ (hb); have HO621 := am_ (ho); clear HO_5; clear ho hb hg hat))
               go_roundg k2
               case measure => have := HJ1.out; have := HK2.out; omega
               case rel => exact ⟨(y619), (wrap64 (x6_2 + 1)), (by first | rfl | (simp; done) | (simp [*]; done)), H', ⟨by have := HJ1.out; have := HK2.out; omega⟩, ⟨by (with_reducible repeat (first | apply r1_ | apply r2_ | apply r3_)); exact HO621.out⟩, ⟨by repeat (first | (with_reducible first | exact HB.out | apply b1_ | apply b2_ | apply b3_) | exact HB.out)⟩⟩
             rw [if_neg c37] at H
             exact absurd H (by simp)
           rw [if_neg c15] at H
           exact absurd H (by simp)
         rw [if_neg c14] at H
         have c14b0 : decide (x6_2 < (y4.size : Int)) = false := decide_eq_false c14
         clear c14
         replace H := Option.bind_eq_some_iff.mp H
         obtain ⟨t618, A390, H⟩ := H
         have A39 := am_ A390
         clear A390
         simp only [Option.some.injEq, Prod.mk.injEq] at H
         obtain ⟨rfl, rfl⟩ := H
         try go_wp2
         replace HO_5 := am_ (r3_ HO_5.out)
         replace HB := am_ (b3_ HB.out)
         refine start_ (n := 9) (S := fun w' => (convert 38 9 u5).run Tryz.prog w' = .ok (.string (strOfNums x5_2)) w' ∧ (convert 38 9 u5).run Tryz.prog w' = .ok (.string (strOfNums x5_2)) w') (ds := []) #[false, false, false, false, false, false, false, false, false] (by kernel_rfl) rfl rfl ⟨own_string (P := Tryz.prog) Tryz.underlying38 Tryz.underlying5 Tryz.underlying9 (Kd.own_of_R HO_5.out), own_string (P := Tryz.prog) Tryz.underlying38 Tryz.underlying5 Tryz.underlying9 (Kd.own_of_R HO_5.out)⟩ (fun hHeld => ?_); refine with_tabW script_unquote.tab17 script_unquote.bits17 (fun HT_ HW_ => ?_)
         generalize wr.drew = w40 at HO_5 HB hHeld ⊢
         refine pu_ 0 77 (bs_ 9 1) rfl rfl (any_of HT_.out (by kernel_rfl)) rfl (by intro w'; go_simp; with_reducible rfl) (by simp only [Act.put, aS, aZ, aC, i64_w, i32_w]; rfl) (fun _ _ _ h => h) ?_
         refine pu_ 2 79 (bs_ 9 5) rfl rfl (any_of HT_.out (by kernel_rfl)) rfl (by intro w'; go_simp; with_reducible rfl) (by simp only [Act.put, aS, aZ, aC, i64_w, i32_w]; rfl) (fun _ _ _ h => h) ?_
         refine pu_ 5 82 (bs_ 9 37) rfl rfl (any_of HT_.out (by kernel_rfl)) rfl (by intro w'; go_simp; with_reducible rfl) (by simp only [Act.put, aS, aZ, aC, i64_w, i32_w]; rfl) (fun _ _ _ h => h) ?_
         refine ta_ 1 78 (bs_ 9 39) rfl rfl (take_ofW HT_.out HW_.out (by kernel_rfl)) rfl (by rintro w' ⟨s0, s1⟩; go_simp; with_reducible rfl) hHeld (by simp only [Act.put, aS, aZ, aC, i64_w, i32_w]; rfl) (fun _ _ _ h => h) ?_
         refine ta_ 3 80 (bs_ 9 47) rfl rfl (take_ofW HT_.out HW_.out (by kernel_rfl)) rfl (by rintro w' ⟨s0, s1⟩; go_simp; with_reducible rfl) hHeld (by simp only [Act.put, aS, aZ, aC, i64_w, i32_w]; rfl) (fun _ _ _ h => h) ?_
         refine one_ (i := 4) (N := some 81) (bs_ 9 63) rfl rfl (one_of HT_.out (by kernel_rfl)) (by decide) (fun K hK => ?_)
         refine goes_ Tryz.func20 (by kernel_rfl) rfl #[.string (strOfNums x5_2)] (by rfl) rfl rfl (by (try simp only [aT, aK, aL]); first | done | rfl | (simp only [List.length_drop, List.length_take]; rfl)) ?_
         with_reducible refine (script_Quote.calls (strOfNums x5_2) t618 _ ?side1 A39.out).mono ?_
         (case side1 => exact sc.Env.below HE.out (by repeat (first | (with_reducible first | exact HB.out | apply b1_ | apply b2_ | apply b3_) | exact HB.out)))
         rintro e w41 ⟨rfl, hb⟩
         refine ⟨_, rfl, ?_⟩
         replace HO_5 := am_ (Kd.R_below (by (with_reducible repeat (first | apply r1_ | apply r2_ | apply r3_)); exact HO_5.out) hb)
         replace HB := am_ (below_step (by repeat (first | (with_reducible first | exact HB.out | apply b1_ | apply b2_ | apply b3_) | exact HB.out)) hb)
         (try clear hb)
         (try clear hk)
         refine hK.out _ _ ⟨own_string (P := Tryz.prog) Tryz.underlying38 Tryz.underlying5 Tryz.underlying9 (Kd.own_of_R HO_5.out), own_string (P := Tryz.prog) Tryz.underlying38 Tryz.underlying5 Tryz.underlying9 (Kd.own_of_R HO_5.out)⟩ (fun hHeld => ?_)
         clear hK K
         refine no_ (by simp only [Act.put, aS, aZ, aC, i64_w, i32_w]; rfl) ?_
         refine pu_ 6 83 (bs_ 9 127) rfl rfl (any_of HT_.out (by kernel_rfl)) rfl (by intro w'; go_simp; with_reducible rfl) (by simp only [Act.put, aS, aZ, aC, i64_w, i32_w]; rfl) (fun _ _ _ h => h) ?_
         refine pu_ 7 2 (bs_ 9 255) rfl rfl (any_of HT_.out (by kernel_rfl)) rfl (by intro w'; go_simp; with_reducible rfl) (by simp only [Act.put, aS, aZ, aC, i64_w, i32_w]; rfl) (fun _ _ _ h => h) ?_
         refine pu_ 8 3 (bs_ 9 511) rfl rfl (any_of HT_.out (by kernel_rfl)) rfl (by intro w'; go_simp; with_reducible rfl) (by simp only [Act.put, aS, aZ, aC, i64_w, i32_w]; rfl) (fun _ _ _ h => h) ?_
         refine done_ (done_of HT_.out (by kernel_rfl)) ?_
         try go_wp2
         go_ret2
         exact ⟨by first | rfl | (simp [errW_none, errW_some] <;> rfl) | (simp [*, errW_none, errW_some] <;> rfl), by repeat (first | (with_reducible first | exact HB.out | apply b1_ | apply b2_ | apply b3_) | exact HB.out)⟩
     rw [if_neg c13] at H
     exact absurd H (by simp)
   rw [if_neg c12] at H
   exact absurd H (by simp)
end Go.Proofs.YtndbbgihpoiojaaGreatDoor.Q
namespace Go.Proofs.YtndbbgihpoiojaaGreatDoor.sc
open Go.RowKit Go.Proofs.YtndbbgihpoiojaaGreatDoor.wld
def hexV (c : UInt8) : Option Nat := if 48 ≤ c.toNat ∧ c.toNat ≤ 57 then some (c.toNat - 48) else if 65 ≤ c.toNat ∧ c.toNat ≤ 70 then some (c.toNat - 55) else none
def unqL : List UInt8 → Option (List UInt8)
 | [] => some []
 | c :: r => if c ≠ 37 then (unqL r).map (c :: ·) else match r with
  | a :: b :: r' => match hexV a, hexV b with
   | some x, some y => (unqL r').map (UInt8.ofNat (16 * x + y) :: ·)
   | _, _ => none
  | _ => none
def unquoteL (w : List UInt8) : Option (List UInt8) :=
 if 2 ≤ w.length ∧ w.head? = some 34 ∧ w.getLast? = some 34 then match unqL ((w.drop 1).take (w.length - 2)) with
  | some b => if quoteL b = w then some b else none
  | none => none
 else none
theorem hexV_index (c : UInt8) : Lib.indexByte [48, 49, 50, 51, 52, 53, 54, 55, 56, 57, 65, 66, 67, 68, 69, 70] c = match hexV c with
 | some k => (k : Int)
 | none => -1 := by
 have : ∀ n : Fin 256, Lib.indexByte [48, 49, 50, 51, 52, 53, 54, 55, 56, 57, 65, 66, 67, 68, 69, 70] (UInt8.ofNat n.val) = match hexV (UInt8.ofNat n.val) with
  | some k => (k : Int)
  | none => -1 := by decide +kernel
 have h := this ⟨c.toNat, UInt8.toNat_lt c⟩
 simpa using h
theorem hexV_lt {c : UInt8} {k : Nat} (h : hexV c = some k) : k < 16 := by
 unfold hexV at h
 split at h
 · have := Option.some.inj h; omega
 split at h
 · have := Option.some.inj h; omega
 cases h
theorem unqL_plain {c : UInt8} (r : List UInt8) (h : c ≠ 37) : unqL (c :: r) = (unqL r).map (c :: ·) := by
 rw [unqL.eq_def]; simp [h]
theorem unqL_short (r : List UInt8) (h : r.length < 2) : unqL (37 :: r) = none := by
 rw [unqL.eq_def]
 cases r with
 | nil => simp
 | cons a r =>
  cases r with
  | nil => simp
  | cons b r => simp at h; omega
theorem unqL_pct (a b : UInt8) (r : List UInt8) : unqL (37 :: a :: b :: r) = match hexV a, hexV b with
 | some x, some y => (unqL r).map (UInt8.ofNat (16 * x + y) :: ·)
 | _, _ => none := by
 rw [unqL.eq_def]; simp
theorem unqL_len : ∀ (n : Nat) (l b : List UInt8), l.length ≤ n → unqL l = some b → b.length ≤ l.length := by
 intro n
 induction n with
 | zero =>
  intro l b hl h
  cases l with
  | nil => rw [unqL.eq_def] at h; cases h; exact Nat.le_refl _
  | cons c r => simp at hl
 | succ n ih =>
  intro l b hl h
  cases l with
  | nil => rw [unqL.eq_def] at h; cases h; exact Nat.le_refl _
  | cons c r =>
   by_cases hc : c = 37
   · subst hc
     rcases r with _ | ⟨x, _ | ⟨y, r⟩⟩
     · rw [unqL_short _ (by simp)] at h; cases h
     · rw [unqL_short _ (by simp)] at h; cases h
     rw [unqL_pct] at h
     cases hx : hexV x with
     | none => rw [hx] at h; cases h
     | some u => cases hy : hexV y with
      | none => rw [hx, hy] at h; cases h
      | some v =>
       rw [hx, hy] at h
       simp only [Option.map_eq_some_iff] at h
       obtain ⟨b', h1, rfl⟩ := h
       have := ih r b' (by simp at hl; omega) h1
       simp; omega
   rw [unqL_plain r hc] at h
   simp only [Option.map_eq_some_iff] at h
   obtain ⟨b', h1, rfl⟩ := h
   have := ih r b' (by simp at hl; omega) h1
   simp; omega
end Go.Proofs.YtndbbgihpoiojaaGreatDoor.sc
namespace Go.Proofs.YtndbbgihpoiojaaGreatDoor.Q
open Go.RowKit Go.Proofs.YtndbbgihpoiojaaGreatDoorW.PrintWords Go.Proofs.YtndbbgihpoiojaaGreatDoorW.PrintLast
open sc (hexV unqL unquoteL quoteL)
theorem hexIdx (c : UInt8) : strings_IndexByte.f (⟨#[48, 49, 50, 51, 52, 53, 54, 55, 56, 57, 65, 66, 67, 68, 69, 70]⟩ : ByteArray) (c.toNat : Int) = some (match hexV c with
 | some k => (k : Int)
 | none => -1) := by
 unfold strings_IndexByte.f
 rw [← sc.hexV_index]
 simp
def unqEnd (x0 : ByteArray) (acc : List UInt8) : Option (List UInt8) → Option (ByteArray × Bool)
 | some r => some (⟨(acc ++ r).toArray⟩, quoteL (acc ++ r) == x0.data.toList)
 | none => some (⟨#[]⟩, false)
theorem unqEnd_map (x0 : ByteArray) (acc : List UInt8) (c : UInt8) (o : Option (List UInt8)) : unqEnd x0 acc (o.map (c :: ·)) = unqEnd x0 (acc ++ [c]) o := by
 cases o <;> simp [unqEnd]
theorem unquote_l0 (x0 : ByteArray) (L : List UInt8) (hL : L.length ≤ 70000) : ∀ (d i : Nat) (acc : List UInt8) (k : Nat), i + d = L.length → acc.length ≤ i → d < k →
 script_unquote.l0 k x0 ⟨L.toArray⟩ (nums8 acc) (i : Int) = unqEnd x0 acc (unqL (L.drop i)) := by
 intro d
 induction d using Nat.strongRecOn with
 | _ d ih =>
  intro i acc k hi ha hk
  obtain ⟨k, rfl⟩ : ∃ m, k = m + 1 := ⟨k - 1, by omega⟩
  simp only [script_unquote.l0, size_mk]
  by_cases hlt : i < L.length
  · rw [if_pos (by omega), if_pos (by omega), bt_lit L i hlt, List.drop_eq_getElem_cons hlt]
    by_cases h37 : L[i] = 37
    · rw [if_pos (by rw [h37]; rfl), h37, w64 (by omega) (by omega), w64 (by omega) (by omega)]
      by_cases h2 : i + 2 < L.length
      · rw [if_neg (by omega), if_pos (by omega), if_pos (by omega), show ((i : Int) + 1) = ((i + 1 : Nat) : Int) by omega, show ((i : Int) + 2) = ((i + 2 : Nat) : Int) by omega, bt_lit L (i + 1) (by omega), bt_lit L (i + 2) h2, hexIdx, hexIdx]
        simp only [Option.bind_some]
        rw [if_pos (by omega), if_pos (by omega), List.drop_eq_getElem_cons (by omega : i + 1 < L.length), List.drop_eq_getElem_cons h2, sc.unqL_pct]
        cases hx : hexV L[i + 1] with
        | none => simp [unqEnd]
        | some x =>
         simp only
         rw [if_neg (by omega)]
         cases hy : hexV L[i + 2] with
         | none => simp [unqEnd]
         | some y =>
          have h1 := sc.hexV_lt hx
          have h2 := sc.hexV_lt hy
          simp only
          rw [if_neg (by omega), if_pos (by rw [nums8_length]; omega), w64 (x := 16 * (x : Int)) (by omega) (by omega), w64 (x := 16 * (x : Int) + (y : Int)) (by omega) (by omega), w64 (by omega) (by omega), unqEnd_map]
          have e1 : nums8 acc ++ [(16 * (x : Int) + (y : Int)) % 256] = nums8 (acc ++ [UInt8.ofNat (16 * x + y)]) := by
           rw [nums8_append]
           simp [nums8]
          rw [e1, show ((i + 2 : Nat) : Int) + 1 = ((i + 3 : Nat) : Int) by omega]
          exact ih (d - 3) (by omega) (i + 3) _ k (by omega) (by simp; omega) (by omega)
      rw [if_pos (by omega), sc.unqL_short _ (by rw [List.length_drop]; omega)]
      rfl
    have hne : ¬ ((L[i].toNat : Int) = 37) := by
     intro e
     apply h37
     apply UInt8.toNat_inj.mp
     have : L[i].toNat = 37 := by omega
     rw [this]
     rfl
    rw [if_neg hne, if_pos (by rw [nums8_length]; omega), sc.unqL_plain _ h37, unqEnd_map, w64 (by omega) (by omega), show ((i : Int) + 1) = ((i + 1 : Nat) : Int) by omega]
    rw [show nums8 acc ++ [(L[i].toNat : Int)] = nums8 (acc ++ [L[i]]) by rw [nums8_append]; rfl]
    exact ih (d - 1) (by omega) (i + 1) _ k (by omega) (by simp; omega) (by omega)
  have hd : L.drop i = [] := List.drop_of_length_le (by omega)
  rw [if_neg (by omega), hd]
  unfold script_Quote.f
  rw [strOf_nums8, size_mk, if_pos (by omega)]
  simp only [Option.bind_some, toList_data, unqEnd, unqL, List.append_nil]
theorem unquote_spec (s : ByteArray) (hs : s.size ≤ 65536) : ∃ k t, script_unquote.f k s = some (t, (unquoteL s.data.toList).isSome) ∧ (∀ u, unquoteL s.data.toList = some u → t = ⟨u.toArray⟩) ∧ t.size ≤ s.size := by
 have hl := data_length s
 refine ⟨s.size + 2, ?_⟩
 unfold script_unquote.f
 by_cases h2 : s.size < 2
 · rw [if_pos (by omega)]
   have : unquoteL s.data.toList = none := by
    unfold sc.unquoteL
    rw [if_neg (by omega)]
   rw [this]
   exact ⟨_, by simp only [script_unquote.j0]; rfl, (fun u hu => by cases hu), Nat.zero_le _⟩
 rw [if_neg (by omega), if_pos (by omega)]
 have e0 := bt_nat s 0 (by omega)
 have e1 := bt_nat s (s.size - 1) (by omega)
 rw [show ((0 : Nat) : Int) = 0 from rfl] at e0
 rw [e0]
 have hh : s.data.toList.head? = some (s.data.toList[0]'(by omega)) := by
  rw [List.head?_eq_getElem?, List.getElem?_eq_getElem]
 have hg : s.data.toList.getLast? = some (s.data.toList[s.size - 1]'(by omega)) := by
  rw [List.getLast?_eq_getElem?, List.getElem?_eq_getElem (by omega)]
  simp only [hl]
 by_cases ha : s.data.toList[0]'(by omega) = 34
 · rw [if_pos (by rw [ha]; rfl), w64 (by omega) (by omega), if_pos (by omega), if_pos (by omega), show (s.size : Int) - 1 = ((s.size - 1 : Nat) : Int) by omega, e1]
   by_cases hz : s.data.toList[s.size - 1]'(by omega) = 34
   · have hb : (((s.data.toList[s.size - 1]'(by omega)).toNat : Int) != 34) = false := by rw [hz]; rfl
     rw [hb]
     simp only [script_unquote.j0]
     rw [if_neg (by decide), w64 (by omega) (by omega), if_pos (by omega), if_pos (by omega), show (s.size : Int) - 1 = ((s.size - 1 : Nat) : Int) by omega]
     have e2 : s.extract 1 (((s.size - 1 : Nat) : Int)).toNat = ⟨((s.data.toList.drop 1).take (s.data.toList.length - 2)).toArray⟩ := by
      apply ba_ext
      rw [extract_data]
      simp only [Int.toNat_natCast]
      rw [hl, show s.size - 1 - 1 = s.size - 2 by omega]
     have hq : unquoteL s.data.toList = match unqL ((s.data.toList.drop 1).take (s.data.toList.length - 2)) with
      | some b => if quoteL b = s.data.toList then some b else none
      | none => none := by
      unfold sc.unquoteL
      rw [if_pos ⟨by omega, by rw [hh, ha], by rw [hg, hz]⟩]
     rw [hq, e2]
     generalize hL : (s.data.toList.drop 1).take (s.data.toList.length - 2) = L
     have hLl : L.length ≤ s.size := by rw [← hL, List.length_take, List.length_drop]; omega
     have := unquote_l0 s L (by omega) L.length 0 [] (s.size + 1) (by omega) (by simp) (by omega)
     rw [show nums8 [] = ([] : List Int) from rfl, show ((0 : Nat) : Int) = 0 from rfl] at this
     rw [this]
     simp only [List.drop_zero]
     cases hqL : unqL L with
     | none => exact ⟨_, rfl, (fun u hu => by cases hu), Nat.zero_le _⟩
     | some b =>
      simp only [unqEnd, List.nil_append]
      have hsz : (⟨b.toArray⟩ : ByteArray).size ≤ s.size := by have := sc.unqL_len _ L b (Nat.le_refl _) hqL; show b.toArray.size ≤ _; simp; omega
      by_cases e : quoteL b = s.data.toList
      · exact ⟨⟨b.toArray⟩, by simp [e], (fun u hu => by rw [if_pos e] at hu; rw [Option.some.inj hu]), hsz⟩
      exact ⟨⟨b.toArray⟩, by simp [e], (fun u hu => by rw [if_neg e] at hu; cases hu), hsz⟩
   have hne : ¬ (((s.data.toList[s.size - 1]'(by omega)).toNat : Int) = 34) := by
    intro e
    apply hz
    apply UInt8.toNat_inj.mp
    have : (s.data.toList[s.size - 1]'(by omega)).toNat = 34 := by omega
    rw [this]; rfl
   have hb : (((s.data.toList[s.size - 1]'(by omega)).toNat : Int) != 34) = true := by simpa using hne
   rw [hb]
   have : unquoteL s.data.toList = none := by
    unfold sc.unquoteL
    rw [if_neg (by rintro ⟨_, _, h⟩; rw [hg] at h; exact hz (Option.some.inj h))]
   rw [this]
   exact ⟨_, by simp only [script_unquote.j0]; rfl, (fun u hu => by cases hu), Nat.zero_le _⟩
 have hne : ¬ (((s.data.toList[0]'(by omega)).toNat : Int) = 34) := by
  intro e
  apply ha
  apply UInt8.toNat_inj.mp
  have : (s.data.toList[0]'(by omega)).toNat = 34 := by omega
  rw [this]; rfl
 rw [if_neg hne]
 have : unquoteL s.data.toList = none := by
  unfold sc.unquoteL
  rw [if_neg (by rintro ⟨_, h, _⟩; rw [hh] at h; exact ha (Option.some.inj h))]
 rw [this]
 exact ⟨_, by simp only [script_unquote.j0]; rfl, (fun u hu => by cases hu), Nat.zero_le _⟩
end Go.Proofs.YtndbbgihpoiojaaGreatDoor.Q
namespace Go.Proofs.YtndbbgihpoiojaaGreatDoor.Q
open Go.RowKit Go.Proofs.YtndbbgihpoiojaaGreatDoorW.PrintWords Go.Proofs.YtndbbgihpoiojaaGreatDoorW.PrintLast Go.Proofs.YtndbbgihpoiojaaGreatDoorW.PrintMore
attribute [local go_sem] max2_int min2_int max_two min_two max_three min_three max_four min_four   -- for this text's walks alone
attribute [local go_sem high] eqA37
def script_fate.f (a0 : ByteArray) : Option (Int × Int × Int × Bool) := (strings_Split.f a0 (⟨#[44]⟩ : ByteArray)).bind fun t628 => (if (t628.length : Int) = 3 then (if 0 < (t628.length : Int) then ((script_whole.f (rdOf ByteArray.empty t628 0)).bind fun bt632 => (if 1 < (t628.length : Int) then ((script_whole.f (rdOf ByteArray.empty t628 1)).bind fun bt635 => (if 2 < (t628.length : Int) then ((script_whole.f (rdOf ByteArray.empty t628 2)).bind fun bt638 => (if bt632.2 = true then (if bt635.2 = true then (if bt638.2 = true then (if bt638.1 ≥ 0 then (some (bt632.1, bt635.1, (bt638.1) % 256, decide (bt638.1 ≤ 255))) else (some (bt632.1, bt635.1, (bt638.1) % 256, false))) else (some (bt632.1, bt635.1, (bt638.1) % 256, false))) else (some (bt632.1, bt635.1, (bt638.1) % 256, false))) else (some (bt632.1, bt635.1, (bt638.1) % 256, false)))) else (none))) else (none))) else (none)) else (some (0, 0, 0, false)))
theorem script_fate.calls (a0 : ByteArray) (r1 : Int) (r2 : Int) (r3 : Int) (r4 : Bool) (w : World) (hE : sc.Env w) (h : script_fate.f a0 = some (r1, r2, r3, r4)) :
 Calls Tryz.prog 124 #[.string a0] w fun e w' => e = .returned (.tuple #[.agg #[.int .i64 r1, .int .i64 r2, .int .u8 r3], .bool r4]) ∧ Below w.heap.size w w' := by
 have hu66 := Tryz.underlying66
 have HE := am_ hE
 clear hE
 have HB := am_ (Below.refl w.heap.size w)
 have H : ((strings_Split.f a0 (⟨#[44]⟩ : ByteArray)).bind fun t628 => (if (t628.length : Int) = 3 then (if 0 < (t628.length : Int) then ((script_whole.f (rdOf ByteArray.empty t628 0)).bind fun bt632 => (if 1 < (t628.length : Int) then ((script_whole.f (rdOf ByteArray.empty t628 1)).bind fun bt635 => (if 2 < (t628.length : Int) then ((script_whole.f (rdOf ByteArray.empty t628 2)).bind fun bt638 => (if bt632.2 = true then (if bt635.2 = true then (if bt638.2 = true then (if bt638.1 ≥ 0 then (some (bt632.1, bt635.1, (bt638.1) % 256, decide (bt638.1 ≤ 255))) else (some (bt632.1, bt635.1, (bt638.1) % 256, false))) else (some (bt632.1, bt635.1, (bt638.1) % 256, false))) else (some (bt632.1, bt635.1, (bt638.1) % 256, false))) else (some (bt632.1, bt635.1, (bt638.1) % 256, false)))) else (none))) else (none))) else (none)) else (some (0, 0, 0, false)))) = some (r1, r2, r3, r4) := h
 clear h
 replace H := Option.bind_eq_some_iff.mp H
 obtain ⟨t628, A20, H⟩ := H
 have A2 := am_ A20
 clear A20
 by_cases c3 : (t628.length : Int) = 3
 · rw [if_pos c3] at H
   have c3b0 : ((t628.length : Int) == 3) = true := beq_iff_eq.mpr c3
   have c3b1 : ((t628.length : Int) != 3) = false := bne_eq_false_iff_eq.mpr c3
   clear c3
   by_cases c4 : 0 < (t628.length : Int)
   · rw [if_pos c4] at H
     have c4b0 : decide (0 < (t628.length : Int)) = true := decide_eq_true c4
     have c4b1 : decide (0 < t628.length) = true := decide_eq_true (by omega)
     clear c4
     replace H := Option.bind_eq_some_iff.mp H
     obtain ⟨⟨t632, t633⟩, A50, H⟩ := H
     replace H : (if 1 < (t628.length : Int) then ((script_whole.f (rdOf ByteArray.empty t628 1)).bind fun bt635 => (if 2 < (t628.length : Int) then ((script_whole.f (rdOf ByteArray.empty t628 2)).bind fun bt638 => (if t633 = true then (if bt635.2 = true then (if bt638.2 = true then (if bt638.1 ≥ 0 then (some (t632, bt635.1, (bt638.1) % 256, decide (bt638.1 ≤ 255))) else (some (t632, bt635.1, (bt638.1) % 256, false))) else (some (t632, bt635.1, (bt638.1) % 256, false))) else (some (t632, bt635.1, (bt638.1) % 256, false))) else (some (t632, bt635.1, (bt638.1) % 256, false)))) else (none))) else (none)) = some (r1, r2, r3, r4) := H
     have A5 := am_ A50
     clear A50
     by_cases c6 : 1 < (t628.length : Int)
     · rw [if_pos c6] at H
       have c6b0 : decide (1 < (t628.length : Int)) = true := decide_eq_true c6
       have c6b1 : decide (1 < t628.length) = true := decide_eq_true (by omega)
       clear c6
       replace H := Option.bind_eq_some_iff.mp H
       obtain ⟨⟨t635, t636⟩, A70, H⟩ := H
       replace H : (if 2 < (t628.length : Int) then ((script_whole.f (rdOf ByteArray.empty t628 2)).bind fun bt638 => (if t633 = true then (if t636 = true then (if bt638.2 = true then (if bt638.1 ≥ 0 then (some (t632, t635, (bt638.1) % 256, decide (bt638.1 ≤ 255))) else (some (t632, t635, (bt638.1) % 256, false))) else (some (t632, t635, (bt638.1) % 256, false))) else (some (t632, t635, (bt638.1) % 256, false))) else (some (t632, t635, (bt638.1) % 256, false)))) else (none)) = some (r1, r2, r3, r4) := H
       have A7 := am_ A70
       clear A70
       by_cases c8 : 2 < (t628.length : Int)
       · rw [if_pos c8] at H
         have c8b0 : decide (2 < (t628.length : Int)) = true := decide_eq_true c8
         have c8b1 : decide (2 < t628.length) = true := decide_eq_true (by omega)
         clear c8
         replace H := Option.bind_eq_some_iff.mp H
         obtain ⟨⟨t638, t639⟩, A90, H⟩ := H
         replace H : (if t633 = true then (if t636 = true then (if t639 = true then (if t638 ≥ 0 then (some (t632, t635, (t638) % 256, decide (t638 ≤ 255))) else (some (t632, t635, (t638) % 256, false))) else (some (t632, t635, (t638) % 256, false))) else (some (t632, t635, (t638) % 256, false))) else (some (t632, t635, (t638) % 256, false))) = some (r1, r2, r3, r4) := H
         have A9 := am_ A90
         clear A90
         by_cases c10 : t633 = true
         subst c10
         have H1 : (if t636 = true then (if t639 = true then (if t638 ≥ 0 then (some (t632, t635, (t638) % 256, decide (t638 ≤ 255))) else (some (t632, t635, (t638) % 256, false))) else (some (t632, t635, (t638) % 256, false))) else (some (t632, t635, (t638) % 256, false))) = some (r1, r2, r3, r4) := by rw [if_pos rfl] at H; exact H
         clear H
         have H := H1
         clear H1
         by_cases c11 : t636 = true
         subst c11
         have H1 : (if t639 = true then (if t638 ≥ 0 then (some (t632, t635, (t638) % 256, decide (t638 ≤ 255))) else (some (t632, t635, (t638) % 256, false))) else (some (t632, t635, (t638) % 256, false))) = some (r1, r2, r3, r4) := by rw [if_pos rfl] at H; exact H
         clear H
         have H := H1
         clear H1
         by_cases c12 : t639 = true
         subst c12
         have H1 : (if t638 ≥ 0 then (some (t632, t635, (t638) % 256, decide (t638 ≤ 255))) else (some (t632, t635, (t638) % 256, false))) = some (r1, r2, r3, r4) := by rw [if_pos rfl] at H; exact H
         clear H
         have H := H1
         clear H1
         by_cases c13 : t638 ≥ 0
         rw [if_pos c13] at H
         have c13b0 : decide (0 ≤ t638) = true := decide_eq_true c13
         clear c13
         rotate_left
         rw [if_neg c13] at H
         have c13b0 : decide (0 ≤ t638) = false := decide_eq_false c13
         clear c13
         rotate_left
         replace c12 := Bool.eq_false_iff.mpr c12
         subst c12
         have H1 : (some (t632, t635, (t638) % 256, false)) = some (r1, r2, r3, r4) := by rw [if_neg (show ¬ (false = true) by decide)] at H; exact H
         clear H
         have H := H1
         clear H1
         rotate_left
         replace c11 := Bool.eq_false_iff.mpr c11
         subst c11
         have H1 : (some (t632, t635, (t638) % 256, false)) = some (r1, r2, r3, r4) := by rw [if_neg (show ¬ (false = true) by decide)] at H; exact H
         clear H
         have H := H1
         clear H1
         rotate_left
         replace c10 := Bool.eq_false_iff.mpr c10
         subst c10
         have H1 : (some (t632, t635, (t638) % 256, false)) = some (r1, r2, r3, r4) := by rw [if_neg (show ¬ (false = true) by decide)] at H; exact H
         clear H
         have H := H1
         clear H1
         rotate_left
         all_goals
          simp only [Option.some.injEq, Prod.mk.injEq] at H
          obtain ⟨rfl, rfl, rfl, rfl⟩ := H
          go_enter Tryz.func124, Tryz.ntmps124
          try go_wp2_with (first | ((with_reducible refine gate_dst (N := 2) rfl ?_); refine box_event ?hg (N := 2) ?hd (cs := #[.int .i64 0, .int .i64 0, .int .u8 0]) (t := 66) ?hr ?_; (case hd => rfl); (case hg => rfl); (case hr => first | (go_simp; done) | (go_simp; rfl)); intro gb627 hg w14 hbox hb; have BK627 := am_ (hbox); have GW627 := am_ ((by rw [hg]; exact (below_size (by repeat (first | (with_reducible first | exact HB.out | apply b1_ | apply b2_ | apply b3_) | exact HB.out))) : w.heap.size ≤ gb627)); have GE627 := am_ ((by rw [hg]; exact (below_size (by repeat (first | (with_reducible first | exact HB.out | apply b1_ | apply b2_ | apply b3_) | exact HB.out))) : w.heap.size ≤ gb627)); replace HB := am_ (below_step (by repeat (first | (with_reducible first | exact HB.out | apply b1_ | apply b2_ | apply b3_) | exact HB.out)) hb); clear hb hbox hg) | ((with_reducible refine gate_callee (f := 135) rfl ?_); refine goesL_ (some 12) rfl rfl Tryz.func135 (by kernel_rfl) rfl #[.string a0, .string (⟨#[44]⟩ : ByteArray)] rfl (by (try simp only [aT, aK, aL]); first | done | rfl | (simp only [List.length_drop, List.length_take]; rfl)) ?_; (with_reducible refine (strings_Split.calls a0 (⟨#[44]⟩ : ByteArray) t628 _ ?side1 A2.out).mono ?_); (case side1 => exact sc.Env.below HE.out (by repeat (first | (with_reducible first | exact HB.out | apply b1_ | apply b2_ | apply b3_ | refine b4_ ?_ GE627.out) | exact HB.out))); rintro e w15 ⟨v629, rfl, ho0, hb⟩; refine ⟨_, rfl, ?_⟩; have HO630 := am_ (Kd.R_lower ho0 (below_size (by repeat (first | (with_reducible first | exact HB.out | apply b1_ | apply b2_ | apply b3_ | refine b4_ ?_ GE627.out) | exact HB.out)))); replace BK627 := am_ (blk_below (by (with_reducible repeat (first | refine d1_ ?_ _ | refine d2_ ?_ | refine d3_ ?_ _)); exact BK627.out) hb); replace HB := am_ (below_step (by repeat (first | (with_reducible first | exact HB.out | apply b1_ | apply b2_ | apply b3_ | refine b4_ ?_ GE627.out) | exact HB.out)) hb); (try clear hb); (try clear ho0); obtain ⟨Ao16, co16, eo16⟩ := Kd.R_slice HO630.out; subst eo16; have p631 : 0 ≤ (0 : Int) := (by omega); have q631 : 0 < (t628.length : Int) := of_decide_eq_true (by first | (with_reducible assumption) | assumption); obtain ⟨ad631, e631, hx631_0⟩ := Kd.at_string (Kd.R_reads' HO630.out).2.2 0 p631 q631; cases e631; have qi631 : (0 < t628.length) = True := eq_true (by omega); (try rw [show ((0 : Int)).toNat = 0 from rfl] at hx631_0); (try rw [Addr.add_zero'] at hx631_0); replace p631 := eq_true p631; replace q631 := eq_true q631) | ((with_reducible refine gate_callee (f := 111) rfl ?_); refine goesL_ (some 21) rfl rfl Tryz.func111 (by kernel_rfl) rfl #[.string (rdOf ByteArray.empty t628 0)] rfl (by (try simp only [aT, aK, aL]); first | done | rfl | (simp only [List.length_drop, List.length_take]; rfl)) ?_; (with_reducible refine (script_whole.calls (rdOf ByteArray.empty t628 0) t632 _ _ ?side1 A5.out).mono ?_); (case side1 => exact sc.Env.below HE.out (by repeat (first | (with_reducible first | exact HB.out | apply b1_ | apply b2_ | apply b3_ | refine b4_ ?_ GE627.out) | exact HB.out))); rintro e w17 ⟨rfl, hb⟩; refine ⟨_, rfl, ?_⟩; replace HO630 := am_ (Kd.R_below (by (with_reducible repeat (first | apply r1_ | apply r2_ | apply r3_)); exact HO630.out) hb); replace BK627 := am_ (blk_below (by (with_reducible repeat (first | refine d1_ ?_ _ | refine d2_ ?_ | refine d3_ ?_ _)); exact BK627.out) hb); replace HB := am_ (below_step (by repeat (first | (with_reducible first | exact HB.out | apply b1_ | apply b2_ | apply b3_ | refine b4_ ?_ GE627.out) | exact HB.out)) hb); (try clear hb); have p634 : 0 ≤ (1 : Int) := (by omega); have q634 : 1 < (t628.length : Int) := of_decide_eq_true (by first | (with_reducible assumption) | assumption); obtain ⟨ad634, e634, hx634_0⟩ := Kd.at_string (Kd.R_reads' HO630.out).2.2 1 p634 q634; obtain rfl : ad631 = ad634 := (by injection e634); (try simp only [show (1 : Int).toNat = 1 from rfl, Nat.reduceMul, Nat.reduceEqDiff, Go.Addr.add, ↓reduceIte] at hx634_0); have qi634 : (1 < t628.length) = True := eq_true (by omega); (try rw [show ((1 : Int)).toNat = 1 from rfl] at hx634_0); replace p634 := eq_true p634; replace q634 := eq_true q634) | ((with_reducible refine gate_callee (f := 111) rfl ?_); refine goesL_ (some 28) rfl rfl Tryz.func111 (by kernel_rfl) rfl #[.string (rdOf ByteArray.empty t628 1)] rfl (by (try simp only [aT, aK, aL]); first | done | rfl | (simp only [List.length_drop, List.length_take]; rfl)) ?_; (with_reducible refine (script_whole.calls (rdOf ByteArray.empty t628 1) t635 _ _ ?side1 A7.out).mono ?_); (case side1 => exact sc.Env.below HE.out (by repeat (first | (with_reducible first | exact HB.out | apply b1_ | apply b2_ | apply b3_ | refine b4_ ?_ GE627.out) | exact HB.out))); rintro e w18 ⟨rfl, hb⟩; refine ⟨_, rfl, ?_⟩; replace HO630 := am_ (Kd.R_below (by (with_reducible repeat (first | apply r1_ | apply r2_ | apply r3_)); exact HO630.out) hb); replace BK627 := am_ (blk_below (by (with_reducible repeat (first | refine d1_ ?_ _ | refine d2_ ?_ | refine d3_ ?_ _)); exact BK627.out) hb); replace HB := am_ (below_step (by repeat (first | (with_reducible first | exact HB.out | apply b1_ | apply b2_ | apply b3_ | refine b4_ ?_ GE627.out) | exact HB.out)) hb); (try clear hb); have p637 : 0 ≤ (2 : Int) := (by omega); have q637 : 2 < (t628.length : Int) := of_decide_eq_true (by first | (with_reducible assumption) | assumption); obtain ⟨ad637, e637, hx637_0⟩ := Kd.at_string (Kd.R_reads' HO630.out).2.2 2 p637 q637; obtain rfl : ad631 = ad637 := (by injection e637); (try simp only [show (2 : Int).toNat = 2 from rfl, Nat.reduceMul, Nat.reduceEqDiff, Go.Addr.add, ↓reduceIte] at hx637_0); have qi637 : (2 < t628.length) = True := eq_true (by omega); (try rw [show ((2 : Int)).toNat = 2 from rfl] at hx637_0); replace p637 := eq_true p637; replace q637 := eq_true q637) | ((with_reducible refine gate_callee (f := 111) rfl ?_); refine goesL_ (some 35) rfl rfl Tryz.func111 (by kernel_rfl) rfl #[.string (rdOf ByteArray.empty t628 2)] rfl (by (try simp only [aT, aK, aL]); first | done | rfl | (simp only [List.length_drop, List.length_take]; rfl)) ?_; (with_reducible refine (script_whole.calls (rdOf ByteArray.empty t628 2) t638 _ _ ?side1 A9.out).mono ?_); (case side1 => exact sc.Env.below HE.out (by repeat (first | (with_reducible first | exact HB.out | apply b1_ | apply b2_ | apply b3_ | refine b4_ ?_ GE627.out) | exact HB.out))); rintro e w19 ⟨rfl, hb⟩; refine ⟨_, rfl, ?_⟩; replace HO630 := am_ (Kd.R_below (by (with_reducible repeat (first | apply r1_ | apply r2_ | apply r3_)); exact HO630.out) hb); replace BK627 := am_ (blk_below (by (with_reducible repeat (first | refine d1_ ?_ _ | refine d2_ ?_ | refine d3_ ?_ _)); exact BK627.out) hb); replace HB := am_ (below_step (by repeat (first | (with_reducible first | exact HB.out | apply b1_ | apply b2_ | apply b3_ | refine b4_ ?_ GE627.out) | exact HB.out)) hb); (try clear hb); have hcz20_0 : w19.cell? ⟨gb627, 0, none⟩ = some (.int .i64 0) := (blk_cell BK627.out 0).trans rfl; have hcz20_1 : w19.cell? ⟨gb627, 1, none⟩ = some (.int .i64 0) := (blk_cell BK627.out 1).trans rfl; have hcz20_2 : w19.cell? ⟨gb627, 2, none⟩ = some (.int .u8 0) := (blk_cell BK627.out 2).trans rfl; have hfz20_0 := blk_frozen BK627.out 0; have hfz20_1 := blk_frozen BK627.out 1; have hfz20_2 := blk_frozen BK627.out 2))
          refine bodyPost_ret (results_ct rfl _ _ gb627 66 #[.int .i64 t632, .int .i64 t635, .int .u8 ((t638) % 256)] (0, 0) _ rfl (by (with_reducible repeat (first | refine d1_ ?_ _ | refine d2_ ?_ | refine d3_ ?_ _)); refine blk_put (cs := #[.int .i64 t632, .int .i64 t635, .int .u8 0]) ?_ 2 _ rfl; (with_reducible repeat (first | refine d1_ ?_ _ | refine d2_ ?_ | refine d3_ ?_ _)); refine blk_put (cs := #[.int .i64 t632, .int .i64 0, .int .u8 0]) ?_ 1 _ rfl; (with_reducible repeat (first | refine d1_ ?_ _ | refine d2_ ?_ | refine d3_ ?_ _)); refine blk_put (cs := #[.int .i64 0, .int .i64 0, .int .u8 0]) ?_ 0 _ rfl; (with_reducible repeat (first | refine d1_ ?_ _ | refine d2_ ?_ | refine d3_ ?_ _)); exact BK627.out) Tryz.underlying66 rfl (by kernel_rfl)) rfl ?_
          exact ⟨by first | rfl | (simp [errW_none, errW_some] <;> rfl) | (simp [*, errW_none, errW_some] <;> rfl), by repeat (first | (with_reducible first | exact HB.out | apply b1_ | apply b2_ | apply b3_ | refine b4_ ?_ GE627.out) | exact HB.out)⟩
       rw [if_neg c8] at H
       exact absurd H (by simp)
     rw [if_neg c6] at H
     exact absurd H (by simp)
   rw [if_neg c4] at H
   exact absurd H (by simp)
 rw [if_neg c3] at H
 have c3b0 : ((t628.length : Int) == 3) = false := beq_eq_false_iff_ne.mpr c3
 have c3b1 : ((t628.length : Int) != 3) = true := bne_iff_ne.mpr c3
 simp only [Option.some.injEq, Prod.mk.injEq] at H
 obtain ⟨rfl, rfl, rfl, rfl⟩ := H
 go_enter Tryz.func124, Tryz.ntmps124
 try go_wp2_with (first | ((with_reducible refine gate_dst (N := 2) rfl ?_); refine box_event ?hg (N := 2) ?hd (cs := #[.int .i64 0, .int .i64 0, .int .u8 0]) (t := 66) ?hr ?_; (case hd => rfl); (case hg => rfl); (case hr => first | (go_simp; done) | (go_simp; rfl)); intro gb627 hg w49 hbox hb; have BK627 := am_ (hbox); have GW627 := am_ ((by rw [hg]; exact (below_size (by repeat (first | (with_reducible first | exact HB.out | apply b1_ | apply b2_ | apply b3_) | exact HB.out))) : w.heap.size ≤ gb627)); have GE627 := am_ ((by rw [hg]; exact (below_size (by repeat (first | (with_reducible first | exact HB.out | apply b1_ | apply b2_ | apply b3_) | exact HB.out))) : w.heap.size ≤ gb627)); replace HB := am_ (below_step (by repeat (first | (with_reducible first | exact HB.out | apply b1_ | apply b2_ | apply b3_) | exact HB.out)) hb); clear hb hbox hg) | ((with_reducible refine gate_callee (f := 135) rfl ?_); refine goesL_ (some 12) rfl rfl Tryz.func135 (by kernel_rfl) rfl #[.string a0, .string (⟨#[44]⟩ : ByteArray)] rfl (by (try simp only [aT, aK, aL]); first | done | rfl | (simp only [List.length_drop, List.length_take]; rfl)) ?_; (with_reducible refine (strings_Split.calls a0 (⟨#[44]⟩ : ByteArray) t628 _ ?side1 A2.out).mono ?_); (case side1 => exact sc.Env.below HE.out (by repeat (first | (with_reducible first | exact HB.out | apply b1_ | apply b2_ | apply b3_ | refine b4_ ?_ GE627.out) | exact HB.out))); rintro e w50 ⟨v629, rfl, ho0, hb⟩; refine ⟨_, rfl, ?_⟩; have HO630 := am_ (Kd.R_lower ho0 (below_size (by repeat (first | (with_reducible first | exact HB.out | apply b1_ | apply b2_ | apply b3_ | refine b4_ ?_ GE627.out) | exact HB.out)))); replace BK627 := am_ (blk_below (by (with_reducible repeat (first | refine d1_ ?_ _ | refine d2_ ?_ | refine d3_ ?_ _)); exact BK627.out) hb); replace HB := am_ (below_step (by repeat (first | (with_reducible first | exact HB.out | apply b1_ | apply b2_ | apply b3_ | refine b4_ ?_ GE627.out) | exact HB.out)) hb); (try clear hb); (try clear ho0); obtain ⟨Ao51, co51, eo51⟩ := Kd.R_slice HO630.out; subst eo51; have hcz52_0 : w50.cell? ⟨gb627, 0, none⟩ = some (.int .i64 0) := (blk_cell BK627.out 0).trans rfl; have hcz52_1 : w50.cell? ⟨gb627, 1, none⟩ = some (.int .i64 0) := (blk_cell BK627.out 1).trans rfl; have hcz52_2 : w50.cell? ⟨gb627, 2, none⟩ = some (.int .u8 0) := (blk_cell BK627.out 2).trans rfl; have hfz52_0 := blk_frozen BK627.out 0; have hfz52_1 := blk_frozen BK627.out 1; have hfz52_2 := blk_frozen BK627.out 2))
 refine bodyPost_ret (results_ct rfl _ _ gb627 66 #[.int .i64 0, .int .i64 0, .int .u8 0] (0, 0) _ rfl (by (with_reducible repeat (first | refine d1_ ?_ _ | refine d2_ ?_ | refine d3_ ?_ _)); refine blk_put (cs := #[.int .i64 0, .int .i64 0, .int .u8 0]) ?_ 2 _ rfl; (with_reducible repeat (first | refine d1_ ?_ _ | refine d2_ ?_ | refine d3_ ?_ _)); refine blk_put (cs := #[.int .i64 0, .int .i64 0, .int .u8 0]) ?_ 1 _ rfl; (with_reducible repeat (first | refine d1_ ?_ _ | refine d2_ ?_ | refine d3_ ?_ _)); refine blk_put (cs := #[.int .i64 0, .int .i64 0, .int .u8 0]) ?_ 0 _ rfl; (with_reducible repeat (first | refine d1_ ?_ _ | refine d2_ ?_ | refine d3_ ?_ _)); exact BK627.out) Tryz.underlying66 rfl (by kernel_rfl)) rfl ?_
 exact ⟨by first | rfl | (simp [errW_none, errW_some] <;> rfl) | (simp [*, errW_none, errW_some] <;> rfl), by repeat (first | (with_reducible first | exact HB.out | apply b1_ | apply b2_ | apply b3_ | refine b4_ ?_ GE627.out) | exact HB.out)⟩
def script_alike.f (a0_0 : Int) (a0_1 : Int) (a0_2 : Int) (a0_3 : Int) (a0_4 : ByteArray) (a0_5 : ByteArray) (l0_6 : List Int) (a0_7 : Int) (a1_0 : Int) (a1_1 : Int) (a1_2 : Int) (a1_3 : Int) (a1_4 : ByteArray) (a1_5 : ByteArray) (l1_6 : List Int) (a1_7 : Int) : Option (Bool) := if a0_0 = a1_0 then (if (a0_1 == a1_1 && (a0_2 == a1_2)) = true then (if a0_3 = a1_3 then (if a0_4.toList = a1_4.toList then (if a0_5.toList = a1_5.toList then (if a0_7 = a1_7 then (some ((l0_6.length : Int) == (l1_6.length : Int))) else (some false)) else (some false)) else (some false)) else (some false)) else (some false)) else (some false)
theorem script_alike.calls (a0_0 : Int) (a0_1 : Int) (a0_2 : Int) (a0_3 : Int) (a0_4 : ByteArray) (a0_5 : ByteArray) (A0_6 : Option Addr) (c0_6 : Nat) (l0_6 : List Int) (a0_7 : Int) (a1_0 : Int) (a1_1 : Int) (a1_2 : Int) (a1_3 : Int) (a1_4 : ByteArray) (a1_5 : ByteArray) (A1_6 : Option Addr) (c1_6 : Nat) (l1_6 : List Int) (a1_7 : Int) (r : Bool) (w : World) (hr0_6 : Kd.C (Kd.int .u8) w A0_6 l0_6.length l0_6) (hc0_6 : l0_6.length ≤ c0_6) (hr1_6 : Kd.C (Kd.int .u8) w A1_6 l1_6.length l1_6) (hc1_6 : l1_6.length ≤ c1_6) (h : script_alike.f a0_0 a0_1 a0_2 a0_3 a0_4 a0_5 l0_6 a0_7 a1_0 a1_1 a1_2 a1_3 a1_4 a1_5 l1_6 a1_7 = some r) :
 Calls Tryz.prog 57 #[.agg #[.int .i64 a0_0, .int .i64 a0_1, .int .i64 a0_2, .int .i64 a0_3, .string a0_4, .string a0_5, .slice A0_6 l0_6.length c0_6, .int .i64 a0_7], .agg #[.int .i64 a1_0, .int .i64 a1_1, .int .i64 a1_2, .int .i64 a1_3, .string a1_4, .string a1_5, .slice A1_6 l1_6.length c1_6, .int .i64 a1_7]] w fun e w' => e = .returned (.bool r) ∧ Below w.heap.size w w' := by
 have hu49 := Tryz.underlying49
 have hu37 := Tryz.underlying37
 have HR0_6 := am_ hr0_6
 have HC0_6 := am_ hc0_6
 clear hr0_6 hc0_6
 have HR1_6 := am_ hr1_6
 have HC1_6 := am_ hc1_6
 clear hr1_6 hc1_6
 have HB := am_ (Below.refl w.heap.size w)
 have H : (if a0_0 = a1_0 then (if (a0_1 == a1_1 && (a0_2 == a1_2)) = true then (if a0_3 = a1_3 then (if a0_4.toList = a1_4.toList then (if a0_5.toList = a1_5.toList then (if a0_7 = a1_7 then (some ((l0_6.length : Int) == (l1_6.length : Int))) else (some false)) else (some false)) else (some false)) else (some false)) else (some false)) else (some false)) = some r := h
 clear h
 by_cases c3 : a0_0 = a1_0
 rw [if_pos c3] at H
 have c3b0 : (a0_0 == a1_0) = true := beq_iff_eq.mpr c3
 have c3b1 : (a0_0 != a1_0) = false := bne_eq_false_iff_eq.mpr c3
 clear c3
 by_cases c4 : (a0_1 == a1_1 && (a0_2 == a1_2)) = true
 rw [if_pos c4] at H
 have c4b0 : (a0_1 == a1_1 && (a0_2 == a1_2)) = true := c4
 (try (have c4b1 : decide (a0_1 = a1_1 && (a0_2 == a1_2)) = true := by simpa using c4))
 (try (have c4b2 : (a0_1 == a1_1 && (a0_2 == a1_2)) = true := by simpa using c4))
 clear c4
 by_cases c5 : a0_3 = a1_3
 rw [if_pos c5] at H
 have c5b0 : (a0_3 == a1_3) = true := beq_iff_eq.mpr c5
 have c5b1 : (a0_3 != a1_3) = false := bne_eq_false_iff_eq.mpr c5
 clear c5
 by_cases c6 : a0_4.toList = a1_4.toList
 rw [if_pos c6] at H
 have c6b0 : (a0_4.toList == a1_4.toList) = true := beq_iff_eq.mpr c6
 have c6b1 : (a0_4.toList != a1_4.toList) = false := bne_eq_false_iff_eq.mpr c6
 clear c6
 by_cases c7 : a0_5.toList = a1_5.toList
 rw [if_pos c7] at H
 have c7b0 : (a0_5.toList == a1_5.toList) = true := beq_iff_eq.mpr c7
 have c7b1 : (a0_5.toList != a1_5.toList) = false := bne_eq_false_iff_eq.mpr c7
 clear c7
 by_cases c8 : a0_7 = a1_7
 rw [if_pos c8] at H
 have c8b0 : (a0_7 == a1_7) = true := beq_iff_eq.mpr c8
 have c8b1 : (a0_7 != a1_7) = false := bne_eq_false_iff_eq.mpr c8
 clear c8
 rotate_left
 rw [if_neg c8] at H
 have c8b0 : (a0_7 == a1_7) = false := beq_eq_false_iff_ne.mpr c8
 have c8b1 : (a0_7 != a1_7) = true := bne_iff_ne.mpr c8
 rotate_left
 rw [if_neg c7] at H
 have c7b0 : (a0_5.toList == a1_5.toList) = false := beq_eq_false_iff_ne.mpr c7
 have c7b1 : (a0_5.toList != a1_5.toList) = true := bne_iff_ne.mpr c7
 rotate_left
 rw [if_neg c6] at H
 have c6b0 : (a0_4.toList == a1_4.toList) = false := beq_eq_false_iff_ne.mpr c6
 have c6b1 : (a0_4.toList != a1_4.toList) = true := bne_iff_ne.mpr c6
 rotate_left
 rw [if_neg c5] at H
 have c5b0 : (a0_3 == a1_3) = false := beq_eq_false_iff_ne.mpr c5
 have c5b1 : (a0_3 != a1_3) = true := bne_iff_ne.mpr c5
 rotate_left
 rw [if_neg c4] at H
 have c4b0 : (a0_1 == a1_1 && (a0_2 == a1_2)) = false := by simpa using c4
 (try (have c4b1 : decide (a0_1 = a1_1 && (a0_2 == a1_2)) = false := by simpa using c4))
 (try (have c4b2 : (a0_1 == a1_1 && (a0_2 == a1_2)) = false := by simpa using c4))
 (try (have c4b3 : ¬ (a0_1 = a1_1 && (a0_2 == a1_2)) := by simpa using c4))
 clear c4
 rotate_left
 rw [if_neg c3] at H
 have c3b0 : (a0_0 == a1_0) = false := beq_eq_false_iff_ne.mpr c3
 have c3b1 : (a0_0 != a1_0) = true := bne_iff_ne.mpr c3
 rotate_left
 all_goals
  obtain rfl := Option.some.inj H
  go_enter Tryz.func57, Tryz.ntmps57
  try go_wp2_with (first | ((with_reducible refine gate_dst (N := 2) rfl ?_); (try (refine gate_guard (by rfl) ?_; dsimp only)); refine box_event ?hg (N := 2) ?hd (cs := #[.int .i64 a0_0, .int .i64 a0_1, .int .i64 a0_2, .int .i64 a0_3, .string a0_4, .string a0_5, .slice A0_6 l0_6.length c0_6, .int .i64 a0_7]) (t := 49) ?hr ?_; (case hd => rfl); (case hg => rfl); (case hr => first | (go_simp; done) | (go_simp; rfl)); intro gb643 hg w14 hbox hb; have BK643 := am_ (hbox); have GW643 := am_ ((by rw [hg]; exact (below_size (by repeat (first | (with_reducible first | exact HB.out | apply b1_ | apply b2_ | apply b3_) | exact HB.out))) : w.heap.size ≤ gb643)); have GE643 := am_ ((by rw [hg]; exact (below_size (by repeat (first | (with_reducible first | exact HB.out | apply b1_ | apply b2_ | apply b3_) | exact HB.out))) : w.heap.size ≤ gb643)); replace HB := am_ (below_step (by repeat (first | (with_reducible first | exact HB.out | apply b1_ | apply b2_ | apply b3_) | exact HB.out)) hb); clear hb hbox hg) | ((with_reducible refine gate_dst (N := 3) rfl ?_); (try (refine gate_guard (by rfl) ?_; dsimp only)); refine box_event ?hg (N := 3) ?hd (cs := #[.int .i64 a1_0, .int .i64 a1_1, .int .i64 a1_2, .int .i64 a1_3, .string a1_4, .string a1_5, .slice A1_6 l1_6.length c1_6, .int .i64 a1_7]) (t := 49) ?hr ?_; (case hd => rfl); (case hg => rfl); (case hr => first | (go_simp; done) | (go_simp; rfl)); intro gb644 hg w15 hbox hb; have BK644 := am_ (hbox); have GW644 := am_ ((by rw [hg]; exact (below_size (by repeat (first | (with_reducible first | exact HB.out | apply b1_ | apply b2_ | apply b3_ | refine b4_ ?_ GE643.out) | exact HB.out))) : w.heap.size ≤ gb644)); have GE644 := am_ ((by rw [hg]; exact (below_size (by repeat (first | (with_reducible first | exact HB.out | apply b1_ | apply b2_ | apply b3_ | refine b4_ ?_ GE643.out) | exact HB.out))) : w.heap.size ≤ gb644)); replace HB := am_ (below_step (by repeat (first | (with_reducible first | exact HB.out | apply b1_ | apply b2_ | apply b3_ | refine b4_ ?_ GE643.out) | exact HB.out)) hb); have NB643_644 := am_ ((by rw [hg]; exact Nat.ne_of_lt (blk_lt (by (with_reducible repeat (first | refine d1_ ?_ _ | refine d2_ ?_ | refine d3_ ?_ _)); exact BK643.out)) : gb643 ≠ gb644)); have NB644_643 := am_ ((by rw [hg]; exact Nat.ne_of_gt (blk_lt (by (with_reducible repeat (first | refine d1_ ?_ _ | refine d2_ ?_ | refine d3_ ?_ _)); exact BK643.out)) : gb644 ≠ gb643)); replace BK643 := am_ (blk_below (by (with_reducible repeat (first | refine d1_ ?_ _ | refine d2_ ?_ | refine d3_ ?_ _)); exact BK643.out) hb); clear hb hbox hg; have hnb16 := NB643_644.out; have hnc16 := NB644_643.out; have hcz17_0 : w15.cell? ⟨gb643, 0, none⟩ = some (.int .i64 a0_0) := (blk_cell BK643.out 0).trans rfl; have hcz17_1 : w15.cell? ⟨gb643, 1, none⟩ = some (.int .i64 a0_1) := (blk_cell BK643.out 1).trans rfl; have hcz17_2 : w15.cell? ⟨gb643, 2, none⟩ = some (.int .i64 a0_2) := (blk_cell BK643.out 2).trans rfl; have hcz17_3 : w15.cell? ⟨gb643, 3, none⟩ = some (.int .i64 a0_3) := (blk_cell BK643.out 3).trans rfl; have hcz17_4 : w15.cell? ⟨gb643, 4, none⟩ = some (.string a0_4) := (blk_cell BK643.out 4).trans rfl; have hcz17_5 : w15.cell? ⟨gb643, 5, none⟩ = some (.string a0_5) := (blk_cell BK643.out 5).trans rfl; have hcz17_6 : w15.cell? ⟨gb643, 6, none⟩ = some (.slice A0_6 l0_6.length c0_6) := (blk_cell BK643.out 6).trans rfl; have hcz17_7 : w15.cell? ⟨gb643, 7, none⟩ = some (.int .i64 a0_7) := (blk_cell BK643.out 7).trans rfl; have hfz17_0 := blk_frozen BK643.out 0; have hfz17_1 := blk_frozen BK643.out 1; have hfz17_2 := blk_frozen BK643.out 2; have hfz17_3 := blk_frozen BK643.out 3; have hfz17_4 := blk_frozen BK643.out 4; have hfz17_5 := blk_frozen BK643.out 5; have hfz17_6 := blk_frozen BK643.out 6; have hfz17_7 := blk_frozen BK643.out 7; have hcz18_0 : w15.cell? ⟨gb644, 0, none⟩ = some (.int .i64 a1_0) := (blk_cell BK644.out 0).trans rfl; have hcz18_1 : w15.cell? ⟨gb644, 1, none⟩ = some (.int .i64 a1_1) := (blk_cell BK644.out 1).trans rfl; have hcz18_2 : w15.cell? ⟨gb644, 2, none⟩ = some (.int .i64 a1_2) := (blk_cell BK644.out 2).trans rfl; have hcz18_3 : w15.cell? ⟨gb644, 3, none⟩ = some (.int .i64 a1_3) := (blk_cell BK644.out 3).trans rfl; have hcz18_4 : w15.cell? ⟨gb644, 4, none⟩ = some (.string a1_4) := (blk_cell BK644.out 4).trans rfl; have hcz18_5 : w15.cell? ⟨gb644, 5, none⟩ = some (.string a1_5) := (blk_cell BK644.out 5).trans rfl; have hcz18_6 : w15.cell? ⟨gb644, 6, none⟩ = some (.slice A1_6 l1_6.length c1_6) := (blk_cell BK644.out 6).trans rfl; have hcz18_7 : w15.cell? ⟨gb644, 7, none⟩ = some (.int .i64 a1_7) := (blk_cell BK644.out 7).trans rfl; have hfz18_0 := blk_frozen BK644.out 0; have hfz18_1 := blk_frozen BK644.out 1; have hfz18_2 := blk_frozen BK644.out 2; have hfz18_3 := blk_frozen BK644.out 3; have hfz18_4 := blk_frozen BK644.out 4; have hfz18_5 := blk_frozen BK644.out 5; have hfz18_6 := blk_frozen BK644.out 6; have hfz18_7 := blk_frozen BK644.out 7))
  go_ret
  exact ⟨by first | rfl | (simp [errW_none, errW_some] <;> rfl) | (simp [*, errW_none, errW_some] <;> rfl), by repeat (first | (with_reducible first | exact HB.out | apply b1_ | apply b2_ | apply b3_ | refine b4_ ?_ GE643.out | refine b4_ ?_ GE644.out) | exact HB.out)⟩
end Go.Proofs.YtndbbgihpoiojaaGreatDoor.Q
namespace Go.Proofs.YtndbbgihpoiojaaGreatDoor.Q
open Go.RowKit Go.Proofs.YtndbbgihpoiojaaGreatDoorW.PrintWords Go.Proofs.YtndbbgihpoiojaaGreatDoorW.PrintLast
def script_reader_next.f (s0 : List ByteArray) (s1 : Bool) : Option (ByteArray × List ByteArray × Bool) := match s0 with
 | [] => some (⟨#[]⟩, [], true)
 | x :: l => some (x, l, s1)
theorem script_reader_next.calls (g : Nat) (s0 : List ByteArray) (s1 : Bool) (r1 : ByteArray) (r2 : List ByteArray) (r3 : Bool) (w0 w : World) (hI : IsS134 w0 w g s0 s1) (hB : Below w0.heap.size w0 w) (h : script_reader_next.f s0 s1 = some (r1, r2, r3)) :
 Calls Tryz.prog 109 #[.pointer (some ⟨g, 0, none⟩)] w fun e w' => e = .returned (.string r1) ∧ IsS134 w0 w' g r2 r3 ∧ Below w0.heap.size w0 w' ∧ KeepBut w w' g none := by
 obtain ⟨A0, c0, hb, hg, hc, hr⟩ := hI
 have h0 : w.cell? ⟨g, 0, none⟩ = some (.slice A0 s0.length c0) := (blk_cell hb 0).trans rfl
 have h1 : w.cell? ⟨g, 1, none⟩ = some (.bool s1) := (blk_cell hb 1).trans rfl
 have f0 := blk_frozen hb 0
 have f1 := blk_frozen hb 1
 cases s0 with
 | nil =>
  unfold script_reader_next.f at h
  have h' := Option.some.inj h
  injection h' with e1 h'
  injection h' with e2 e3
  subst e1 e2 e3
  have HBL := am_ hb
  have HB := am_ hB
  have HG := am_ hg
  have HR := am_ hr
  have HC := am_ hc
  clear hb hB hg hr hc h
  go_enter Tryz.func109, Tryz.ntmps109
  go_wp2
  go_ret
  exact ⟨rfl, ⟨A0, c0, by simpa using blk_set HBL.out 1 (.bool true), HG.out, HC.out, HR.out⟩, b4_ HB.out HG.out, (KeepBut.refl w g none).set_ 1 _⟩
 | cons x l =>
  unfold script_reader_next.f at h
  have h' := Option.some.inj h
  injection h' with e1 h'
  injection h' with e2 e3
  subst e1 e2 e3
  obtain ⟨ad, hA, hx⟩ := Kd.at_string hr 0 (by omega) (by simp)
  subst hA
  have hs := spot_of hx
  obtain ⟨bk, o, sp⟩ := ad
  rw [show ((0 : Int).toNat) = 0 from rfl, show ((⟨bk, o, sp⟩ : Addr).add 0) = ⟨bk, o, sp⟩ by unfold Addr.add; simp] at hx hs
  have hs' : sp = none := hs
  subst hs'
  have hx' : w.cell? ⟨bk, o, none⟩ = some (.string x) := (hB.cell (World.block_lt_of_cell? w0 _ hx)).trans hx
  have hd := Kd.C_drop (m := 1) (c := c0) hr (by simp) hc
  have HBL := am_ hb
  have HB := am_ hB
  have HG := am_ hg
  have HD := am_ hd
  clear hb hB hg hr h hx hd
  generalize hL : (x :: l).length = L at *
  have hLl : L = l.length + 1 := by simp at hL; omega
  have hL1 : (1 : Int) ≤ (L : Int) := by omega
  have hLc : L ≤ c0 := hc
  have HLL := am_ hLl
  clear hL hLl hc
  go_enter Tryz.func109, Tryz.ntmps109
  go_wp2
  · have hcc : c0 = 1 := by assumption
    go_ret
    have e1 : L - 1 = l.length := by have := HLL.out; omega
    rw [e1]
    refine ⟨rfl, ⟨_, 0, by simpa using blk_set HBL.out 0 (.slice (some ⟨bk, o, none⟩) l.length 0), HG.out, by have := HLL.out; omega, ?_⟩, b4_ HB.out HG.out, (KeepBut.refl w g none).set_ 0 _⟩
    have := HD.out
    rw [if_pos hcc] at this
    exact this
  have hcc : ¬ c0 = 1 := by assumption
  go_ret
  have e1 : L - 1 = l.length := by have := HLL.out; omega
  rw [e1]
  refine ⟨rfl, ⟨_, c0 - 1, by simpa using blk_set HBL.out 0 (.slice (some ⟨bk, o + 1, none⟩) l.length (c0 - 1)), HG.out, by have := HLL.out; omega, ?_⟩, b4_ HB.out HG.out, (KeepBut.refl w g none).set_ 0 _⟩
  have := HD.out
  rw [if_neg hcc] at this
  exact this
end Go.Proofs.YtndbbgihpoiojaaGreatDoor.Q
