/- Script: texts merged, part 2: cut to what the claim uses. -/
import Derived.Test.YtndbbgihpoiojaaGreatDoorScriptTells1
set_option linter.unusedVariables false
set_option linter.unusedSimpArgs false
set_option maxRecDepth 100000
set_option maxHeartbeats 8000000
namespace Go.Proofs.YtndbbgihpoiojaaGreatDoor.Q
open Go.RowKit Go.Proofs.YtndbbgihpoiojaaGreatDoorW.PrintWords Go.Proofs.YtndbbgihpoiojaaGreatDoorW.PrintLast Go.Proofs.YtndbbgihpoiojaaGreatDoorW.PrintMore
attribute [local go_sem] max2_int min2_int max_two min_two max_three min_three max_four min_four   -- for this text's walks alone
attribute [local go_sem high] eqA37
mutual
def script_Tell.j0 : Nat → List ByteArray → Int → Int → Int → Int → Int → Bool → List Int → List (S62) → Bool → Int → Option (ByteArray)
 | 0, _, _, _, _, _, _, _, _, _, _, _ => none
 | k + 1, x3, x145000, x145001, x145002, x145003, x145004, x145005, x145006, x145007, x145008, x145009 => if x145005 = true then (if x3.length < 8796093022208 then (script_Tell.j1 k (x3 ++ [(⟨#[102, 111, 117, 110, 100]⟩ : ByteArray)]) x145000 x145001 x145002 x145003 x145004 x145005 x145006 x145007 x145008 x145009) else (none)) else (script_Tell.j1 k x3 x145000 x145001 x145002 x145003 x145004 x145005 x145006 x145007 x145008 x145009)
def script_Tell.j1 : Nat → List ByteArray → Int → Int → Int → Int → Int → Bool → List Int → List (S62) → Bool → Int → Option (ByteArray)
 | 0, _, _, _, _, _, _, _, _, _, _, _ => none
 | k + 1, x3, x145000, x145001, x145002, x145003, x145004, x145005, x145006, x145007, x145008, x145009 => if (x145006.length : Int) > 0 then ((script_Quote.f (strOfNums x145006)).bind fun t162 => ((some (([(⟨#[118, 97, 108, 117, 101]⟩ : ByteArray), t162] : List ByteArray) : List ByteArray)).bind fun y163 => (if x3.length + y163.length < 8796093022208 then (script_Tell.j2 k (x3 ++ y163) x145000 x145001 x145002 x145003 x145004 x145005 x145006 x145007 x145008 x145009) else (none)))) else (script_Tell.j2 k x3 x145000 x145001 x145002 x145003 x145004 x145005 x145006 x145007 x145008 x145009)
def script_Tell.j2 : Nat → List ByteArray → Int → Int → Int → Int → Int → Bool → List Int → List (S62) → Bool → Int → Option (ByteArray)
 | 0, _, _, _, _, _, _, _, _, _, _, _ => none
 | k + 1, x3, x145000, x145001, x145002, x145003, x145004, x145005, x145006, x145007, x145008, x145009 => if (x145007.length : Int) > 0 then ((script_number.f (x145007.length : Int)).bind fun t169 => ((some (([(⟨#[112, 97, 105, 114, 115]⟩ : ByteArray), t169] : List ByteArray) : List ByteArray)).bind fun y170 => (if x3.length + y170.length < 8796093022208 then (script_Tell.j3 k (x3 ++ y170) x145000 x145001 x145002 x145003 x145004 x145005 x145006 x145007 x145008 x145009) else (none)))) else (script_Tell.j3 k x3 x145000 x145001 x145002 x145003 x145004 x145005 x145006 x145007 x145008 x145009)
def script_Tell.j3 : Nat → List ByteArray → Int → Int → Int → Int → Int → Bool → List Int → List (S62) → Bool → Int → Option (ByteArray)
 | 0, _, _, _, _, _, _, _, _, _, _, _ => none
 | k + 1, x3, x145000, x145001, x145002, x145003, x145004, x145005, x145006, x145007, x145008, x145009 => script_Tell.l0 k x3 x145007 (x145007.length : Int) 0 x145000 x145001 x145002 x145003 x145004 x145005 x145006 x145007 x145008 x145009
def script_Tell.l0 : Nat → List ByteArray → List (S62) → Int → Int → Int → Int → Int → Int → Int → Bool → List Int → List (S62) → Bool → Int → Option (ByteArray)
 | 0, _, _, _, _, _, _, _, _, _, _, _, _, _, _ => none
 | k + 1, x3, x59, x60, x61, x145000, x145001, x145002, x145003, x145004, x145005, x145006, x145007, x145008, x145009 => if x61 < x60 then (if 0 ≤ x61 then (if x61 < (x59.length : Int) then ((script_Quote.f ((rd_T62 x59 x61).f0)).bind fun t178 => ((script_Quote.f (strOfNums ((rd_T62 x59 x61).f1))).bind fun t179 => ((some (([t178, t179] : List ByteArray) : List ByteArray)).bind fun y180 => (if x3.length + y180.length < 8796093022208 then (script_Tell.l0 k (x3 ++ y180) x59 x60 (wrap64 (x61 + 1)) x145000 x145001 x145002 x145003 x145004 x145005 x145006 x145007 x145008 x145009) else (none))))) else (none)) else (none)) else (if x145008 = true then (if x3.length < 8796093022208 then (script_Tell.j5 k (x3 ++ [(⟨#[109, 111, 114, 101]⟩ : ByteArray)]) x145000 x145001 x145002 x145003 x145004 x145005 x145006 x145007 x145008 x145009) else (none)) else (script_Tell.j5 k x3 x145000 x145001 x145002 x145003 x145004 x145005 x145006 x145007 x145008 x145009))
def script_Tell.j5 : Nat → List ByteArray → Int → Int → Int → Int → Int → Bool → List Int → List (S62) → Bool → Int → Option (ByteArray)
 | 0, _, _, _, _, _, _, _, _, _, _, _ => none
 | k + 1, x3, x145000, x145001, x145002, x145003, x145004, x145005, x145006, x145007, x145008, x145009 => if x145009 = 0 then ((strings_Join.f x3 (⟨#[32]⟩ : ByteArray)).bind fun t189 => (some t189)) else ((script_number.f x145009).bind fun t190 => ((some (([(⟨#[115, 116, 97, 109, 112]⟩ : ByteArray), t190] : List ByteArray) : List ByteArray)).bind fun y191 => (if x3.length + y191.length < 8796093022208 then ((strings_Join.f (x3 ++ y191) (⟨#[32]⟩ : ByteArray)).bind fun t197 => (some t197)) else (none))))
end
def script_Tell.f (k : Nat) (a0_0 : Int) (a0_1 : Int) (a0_2 : Int) (a0_3 : Int) (a0_4 : Int) (a0_5 : Bool) (l0_6 : List Int) (l0_7 : List (S62)) (a0_8 : Bool) (a0_9 : Int) : Option (ByteArray) := (script_number.f a0_0).bind fun t145 => ((script_number.f a0_1).bind fun t146 => ((script_number.f a0_2).bind fun t147 => ((some (([(⟨#[115, 108, 111, 116]⟩ : ByteArray), t145, (⟨#[115, 101, 115, 115, 105, 111, 110]⟩ : ByteArray), t146, (⟨#[99, 111, 100, 101]⟩ : ByteArray), t147] : List ByteArray) : List ByteArray)).bind fun y148 => (if (!(a0_3 == 0) || (!(a0_4 == 0))) = true then ((script_number.f a0_3).bind fun t151 => ((script_number.f a0_4).bind fun t152 => ((some (([(⟨#[116, 120, 110]⟩ : ByteArray), t151, t152] : List ByteArray) : List ByteArray)).bind fun y153 => (if y148.length + y153.length < 8796093022208 then (script_Tell.j0 k (y148 ++ y153) a0_0 a0_1 a0_2 a0_3 a0_4 a0_5 l0_6 l0_7 a0_8 a0_9) else (none))))) else (script_Tell.j0 k y148 a0_0 a0_1 a0_2 a0_3 a0_4 a0_5 l0_6 l0_7 a0_8 a0_9)))))
def script_Tell.T1 : Bool × List (List Nat × List Nat) := (true, [([], []), ([0], [0]), ([1], [1]), ([], []), ([3], [3]), ([4, 2], [4]), ([], []), ([6], [6]), ([7, 5], [7]), ([2, 5, 8], [2, 5, 8]), ([9, 8, 0, 1, 2, 3, 4, 5, 6, 7, 8, 9], [9])])
def script_Tell.B1 : List Nat := [0, 1, 3, 0, 8, 31, 0, 64, 255, 511, 1023]
theorem script_Tell.tab1 : rtab .any (opsOf Tryz.f18 1) = script_Tell.T1 := by kernel_rfl
theorem script_Tell.bits1 : waitsOk script_Tell.T1.2 script_Tell.B1 = true := by kernel_rfl
def script_Tell.T3 : Bool × List (List Nat × List Nat) := (true, [([], []), ([], []), ([1], [1]), ([2], [2]), ([3], [3]), ([], []), ([5], [5]), ([6], [6]), ([7, 4], [7]), ([4, 8], [4, 8]), ([0, 9, 8], [0, 9]), ([10, 10, 0, 1, 2, 3, 4, 5, 6, 7, 8, 9, 10], [0, 10])])
def script_Tell.B3 : List Nat := [0, 0, 2, 6, 14, 0, 32, 96, 254, 510, 1023, 2047]
theorem script_Tell.tab3 : rtab .any (opsOf Tryz.f18 3) = script_Tell.T3 := by kernel_rfl
theorem script_Tell.bits3 : waitsOk script_Tell.T3.2 script_Tell.B3 = true := by kernel_rfl
def script_Tell.T13 : Bool × List (List Nat × List Nat) := (true, [([], []), ([], []), ([1], [1]), ([2], [2]), ([], []), ([4], [4]), ([5], [5]), ([6, 3], [6]), ([3, 7], [3, 7]), ([0, 8, 7], [0, 8]), ([9, 9, 0, 1, 2, 3, 4, 5, 6, 7, 8, 9], [0, 9])])
def script_Tell.B13 : List Nat := [0, 0, 2, 6, 0, 16, 48, 126, 254, 511, 1023]
theorem script_Tell.tab13 : rtab .any (opsOf Tryz.f18 13) = script_Tell.T13 := by kernel_rfl
theorem script_Tell.bits13 : waitsOk script_Tell.T13.2 script_Tell.B13 = true := by kernel_rfl
theorem script_Tell.c144 {w : World} {g : Nat} {a0_0 : Int} {a0_1 : Int} {a0_2 : Int} {a0_3 : Int} {a0_4 : Int} {a0_5 : Bool} {A0_6 : Option Addr} {c0_6 : Nat} {l0_6 : List Int} {A0_7 : Option Addr} {c0_7 : Nat} {l0_7 : List (S62)} {a0_8 : Bool} {a0_9 : Int} (h : w.heap[g]? = some (.cells #[.int .i64 a0_0, .int .i64 a0_1, .int .i64 a0_2, .int .i64 a0_3, .int .i64 a0_4, .bool a0_5, .slice A0_6 l0_6.length c0_6, .slice A0_7 l0_7.length c0_7, .bool a0_8, .int .i64 a0_9] 41 (0, 0))) : (w.cell? ⟨g, 0, none⟩ = some (.int .i64 a0_0) ∧ w.cell? ⟨g, 1, none⟩ = some (.int .i64 a0_1) ∧ w.cell? ⟨g, 2, none⟩ = some (.int .i64 a0_2) ∧ w.cell? ⟨g, 3, none⟩ = some (.int .i64 a0_3) ∧ w.cell? ⟨g, 4, none⟩ = some (.int .i64 a0_4) ∧ w.cell? ⟨g, 5, none⟩ = some (.bool a0_5) ∧ w.cell? ⟨g, 6, none⟩ = some (.slice A0_6 l0_6.length c0_6) ∧ w.cell? ⟨g, 7, none⟩ = some (.slice A0_7 l0_7.length c0_7) ∧ w.cell? ⟨g, 8, none⟩ = some (.bool a0_8) ∧ w.cell? ⟨g, 9, none⟩ = some (.int .i64 a0_9)) ∧ w.frozen? ⟨g, 0, none⟩ = false ∧ w.frozen? ⟨g, 1, none⟩ = false ∧ w.frozen? ⟨g, 2, none⟩ = false ∧ w.frozen? ⟨g, 3, none⟩ = false ∧ w.frozen? ⟨g, 4, none⟩ = false ∧ w.frozen? ⟨g, 5, none⟩ = false ∧ w.frozen? ⟨g, 6, none⟩ = false ∧ w.frozen? ⟨g, 7, none⟩ = false ∧ w.frozen? ⟨g, 8, none⟩ = false ∧ w.frozen? ⟨g, 9, none⟩ = false := ⟨(c10_ h), blk_frozen h 0, blk_frozen h 1, blk_frozen h 2, blk_frozen h 3, blk_frozen h 4, blk_frozen h 5, blk_frozen h 6, blk_frozen h 7, blk_frozen h 8, blk_frozen h 9⟩
theorem script_Tell.calls (k : Nat) (a0_0 : Int) (a0_1 : Int) (a0_2 : Int) (a0_3 : Int) (a0_4 : Int) (a0_5 : Bool) (A0_6 : Option Addr) (c0_6 : Nat) (l0_6 : List Int) (A0_7 : Option Addr) (c0_7 : Nat) (l0_7 : List (S62)) (a0_8 : Bool) (a0_9 : Int) (r : ByteArray) (w : World) (hr0_6 : Kd.C (Kd.int .u8) w A0_6 l0_6.length l0_6) (hc0_6 : l0_6.length ≤ c0_6) (hr0_7 : Kd.C k62 w A0_7 l0_7.length l0_7) (hc0_7 : l0_7.length ≤ c0_7) (hE : sc.Env w) (h : script_Tell.f k a0_0 a0_1 a0_2 a0_3 a0_4 a0_5 l0_6 l0_7 a0_8 a0_9 = some r) :
 Calls Tryz.prog 18 #[.agg #[.int .i64 a0_0, .int .i64 a0_1, .int .i64 a0_2, .int .i64 a0_3, .int .i64 a0_4, .bool a0_5, .slice A0_6 l0_6.length c0_6, .slice A0_7 l0_7.length c0_7, .bool a0_8, .int .i64 a0_9]] w fun e w' => e = .returned (.string r) ∧ Below w.heap.size w w' := by
 have hu41 := Tryz.underlying41
 have hu37 := Tryz.underlying37
 have hu62 := Tryz.underlying62
 have HR0_6 := am_ hr0_6
 have HC0_6 := am_ hc0_6
 clear hr0_6 hc0_6
 have HR0_7 := am_ hr0_7
 have HC0_7 := am_ hc0_7
 clear hr0_7 hc0_7
 have HE := am_ hE
 clear hE
 have HB := am_ (Below.refl w.heap.size w)
 have H : ((script_number.f a0_0).bind fun t145 => ((script_number.f a0_1).bind fun t146 => ((script_number.f a0_2).bind fun t147 => ((some (([(⟨#[115, 108, 111, 116]⟩ : ByteArray), t145, (⟨#[115, 101, 115, 115, 105, 111, 110]⟩ : ByteArray), t146, (⟨#[99, 111, 100, 101]⟩ : ByteArray), t147] : List ByteArray) : List ByteArray)).bind fun y148 => (if (!(a0_3 == 0) || (!(a0_4 == 0))) = true then ((script_number.f a0_3).bind fun t151 => ((script_number.f a0_4).bind fun t152 => ((some (([(⟨#[116, 120, 110]⟩ : ByteArray), t151, t152] : List ByteArray) : List ByteArray)).bind fun y153 => (if y148.length + y153.length < 8796093022208 then (script_Tell.j0 k (y148 ++ y153) a0_0 a0_1 a0_2 a0_3 a0_4 a0_5 l0_6 l0_7 a0_8 a0_9) else (none))))) else (script_Tell.j0 k y148 a0_0 a0_1 a0_2 a0_3 a0_4 a0_5 l0_6 l0_7 a0_8 a0_9)))))) = some r := h
 clear h
 replace H := Option.bind_eq_some_iff.mp H
 obtain ⟨t145, A20, H⟩ := H
 have A2 := am_ A20
 clear A20
 replace H := Option.bind_eq_some_iff.mp H
 obtain ⟨t146, A30, H⟩ := H
 have A3 := am_ A30
 clear A30
 replace H := Option.bind_eq_some_iff.mp H
 obtain ⟨t147, A40, H⟩ := H
 have A4 := am_ A40
 clear A40
 obtain ⟨y148, hy148⟩ : ∃ y_ : List ByteArray, y_ = (([(⟨#[115, 108, 111, 116]⟩ : ByteArray), t145, (⟨#[115, 101, 115, 115, 105, 111, 110]⟩ : ByteArray), t146, (⟨#[99, 111, 100, 101]⟩ : ByteArray), t147] : List ByteArray)) := ⟨_, rfl⟩
 replace H : (if (!(a0_3 == 0) || (!(a0_4 == 0))) = true then ((script_number.f a0_3).bind fun t151 => ((script_number.f a0_4).bind fun t152 => ((some (([(⟨#[116, 120, 110]⟩ : ByteArray), t151, t152] : List ByteArray) : List ByteArray)).bind fun y153 => (if y148.length + y153.length < 8796093022208 then (script_Tell.j0 k (y148 ++ y153) a0_0 a0_1 a0_2 a0_3 a0_4 a0_5 l0_6 l0_7 a0_8 a0_9) else (none))))) else (script_Tell.j0 k y148 a0_0 a0_1 a0_2 a0_3 a0_4 a0_5 l0_6 l0_7 a0_8 a0_9)) = some r := by first | (rw [hy148]; with_reducible exact H) | (have H2_ := (Option.bind_some _ _).symm.trans H; rw [hy148]; with_reducible exact H2_) | (have H2_ := (Option.bind_some _ _).symm.trans H; with_reducible exact H2_) | with_reducible exact H | (rw [hy148]; exact H) | exact H
 have Ny148 := am_ hy148
 clear hy148
 have HC5 := am_ H
 clear H
 go_enter Tryz.func18, Tryz.ntmps18
 try go_wp2_with (first | ((with_reducible refine gate_dst (N := 1) rfl ?_); refine box_event ?hg (N := 1) ?hd (cs := #[.int .i64 a0_0, .int .i64 a0_1, .int .i64 a0_2, .int .i64 a0_3, .int .i64 a0_4, .bool a0_5, .slice A0_6 l0_6.length c0_6, .slice A0_7 l0_7.length c0_7, .bool a0_8, .int .i64 a0_9]) (t := 41) ?hr ?_; (case hd => rfl); (case hg => rfl); (case hr => first | (go_simp; done) | (go_simp; rfl)); intro gb144 hg w6 hbox hb; have BK144 := am_ (hbox); have GW144 := am_ ((by rw [hg]; exact (below_size (by repeat (first | (with_reducible first | exact HB.out | apply b1_ | apply b2_ | apply b3_) | exact HB.out))) : w.heap.size ≤ gb144)); have GE144 := am_ ((by rw [hg]; exact (below_size (by repeat (first | (with_reducible first | exact HB.out | apply b1_ | apply b2_ | apply b3_) | exact HB.out))) : w.heap.size ≤ gb144)); replace HB := am_ (below_step (by repeat (first | (with_reducible first | exact HB.out | apply b1_ | apply b2_ | apply b3_) | exact HB.out)) hb); clear hb hbox hg))
 replace BK144 := am_ (d2_ BK144.out)
 replace HB := am_ (b3_ HB.out)
 refine start_ (n := 11) (S := fun w' => w'.cell? ⟨gb144, 0, none⟩ = some (.int .i64 a0_0) ∧ w'.cell? ⟨gb144, 1, none⟩ = some (.int .i64 a0_1) ∧ w'.cell? ⟨gb144, 2, none⟩ = some (.int .i64 a0_2) ∧ w'.cell? ⟨gb144, 3, none⟩ = some (.int .i64 a0_3) ∧ w'.cell? ⟨gb144, 4, none⟩ = some (.int .i64 a0_4) ∧ w'.cell? ⟨gb144, 5, none⟩ = some (.bool a0_5) ∧ w'.cell? ⟨gb144, 6, none⟩ = some (.slice A0_6 l0_6.length c0_6) ∧ w'.cell? ⟨gb144, 7, none⟩ = some (.slice A0_7 l0_7.length c0_7) ∧ w'.cell? ⟨gb144, 8, none⟩ = some (.bool a0_8) ∧ w'.cell? ⟨gb144, 9, none⟩ = some (.int .i64 a0_9)) (ds := []) #[false, false, false, false, false, false, false, false, false, false, false] (by kernel_rfl) rfl rfl (script_Tell.c144 BK144.out).1 (fun hHeld => ?_); refine with_tabW script_Tell.tab1 script_Tell.bits1 (fun HT_ HW_ => ?_)
 generalize w6.drew = w7 at BK144 HB hHeld ⊢
 refine pu_ 0 6 (bs_ 11 1) rfl rfl (any_of HT_.out (by kernel_rfl)) rfl (by intro w'; go_simp; with_reducible rfl) (by simp only [Act.put, aS, aZ, aC, i64_w, i32_w]; rfl) (fun _ _ _ h => h) ?_
 refine pu_ 3 9 (bs_ 11 9) rfl rfl (any_of HT_.out (by kernel_rfl)) rfl (by intro w'; go_simp; with_reducible rfl) (by simp only [Act.put, aS, aZ, aC, i64_w, i32_w]; rfl) (fun _ _ _ h => h) ?_
 refine pu_ 6 12 (bs_ 11 73) rfl rfl (any_of HT_.out (by kernel_rfl)) rfl (by intro w'; go_simp; with_reducible rfl) (by simp only [Act.put, aS, aZ, aC, i64_w, i32_w]; rfl) (fun _ _ _ h => h) ?_
 refine ta_ 1 7 (bs_ 11 75) rfl rfl (take_ofW HT_.out HW_.out (by kernel_rfl)) rfl (by rintro w' ⟨s0, s1, s2, s3, s4, s5, s6, s7, s8, s9⟩; go_simp; with_reducible rfl) hHeld (by simp only [Act.put, aS, aZ, aC, i64_w, i32_w]; rfl) (fun _ _ _ h => h) ?_
 refine ta_ 4 10 (bs_ 11 91) rfl rfl (take_ofW HT_.out HW_.out (by kernel_rfl)) rfl (by rintro w' ⟨s0, s1, s2, s3, s4, s5, s6, s7, s8, s9⟩; go_simp; with_reducible rfl) hHeld (by simp only [Act.put, aS, aZ, aC, i64_w, i32_w]; rfl) (fun _ _ _ h => h) ?_
 refine ta_ 7 13 (bs_ 11 219) rfl rfl (take_ofW HT_.out HW_.out (by kernel_rfl)) rfl (by rintro w' ⟨s0, s1, s2, s3, s4, s5, s6, s7, s8, s9⟩; go_simp; with_reducible rfl) hHeld (by simp only [Act.put, aS, aZ, aC, i64_w, i32_w]; rfl) (fun _ _ _ h => h) ?_
 refine one_ (i := 2) (N := some 8) (bs_ 11 223) rfl rfl (one_of HT_.out (by kernel_rfl)) (by decide) (fun K hK => ?_)
 refine goes_ Tryz.func33 (by kernel_rfl) rfl #[.int .i64 a0_0] (by rfl) rfl rfl (by (try simp only [aT, aK, aL]); first | done | rfl | (simp only [List.length_drop, List.length_take]; rfl)) ?_
 with_reducible refine (script_number.calls a0_0 t145 _ ?side1 A2.out).mono ?_
 (case side1 => exact sc.Env.below HE.out (by repeat (first | (with_reducible first | exact HB.out | apply b1_ | apply b2_ | apply b3_ | refine b4_ ?_ GE144.out) | exact HB.out)))
 rintro e w8 ⟨rfl, hb⟩
 refine ⟨_, rfl, ?_⟩
 replace BK144 := am_ (blk_below (by (with_reducible repeat (first | refine d1_ ?_ _ | refine d2_ ?_ | refine d3_ ?_ _)); exact BK144.out) hb)
 replace HB := am_ (below_step (by repeat (first | (with_reducible first | exact HB.out | apply b1_ | apply b2_ | apply b3_ | refine b4_ ?_ GE144.out) | exact HB.out)) hb)
 (try clear hb)
 (try clear hk)
 refine hK.out _ _ (script_Tell.c144 BK144.out).1 (fun hHeld => ?_)
 clear hK K
 refine no_ (by simp only [Act.put, aS, aZ, aC, i64_w, i32_w]; rfl) ?_
 refine one_ (i := 5) (N := some 11) (bs_ 11 255) rfl rfl (one_of HT_.out (by kernel_rfl)) (by decide) (fun K hK => ?_)
 refine goes_ Tryz.func33 (by kernel_rfl) rfl #[.int .i64 a0_1] (by rfl) rfl rfl (by (try simp only [aT, aK, aL]); first | done | rfl | (simp only [List.length_drop, List.length_take]; rfl)) ?_
 with_reducible refine (script_number.calls a0_1 t146 _ ?side1 A3.out).mono ?_
 (case side1 => exact sc.Env.below HE.out (by repeat (first | (with_reducible first | exact HB.out | apply b1_ | apply b2_ | apply b3_ | refine b4_ ?_ GE144.out) | exact HB.out)))
 rintro e w9 ⟨rfl, hb⟩
 refine ⟨_, rfl, ?_⟩
 replace BK144 := am_ (blk_below (by (with_reducible repeat (first | refine d1_ ?_ _ | refine d2_ ?_ | refine d3_ ?_ _)); exact BK144.out) hb)
 replace HB := am_ (below_step (by repeat (first | (with_reducible first | exact HB.out | apply b1_ | apply b2_ | apply b3_ | refine b4_ ?_ GE144.out) | exact HB.out)) hb)
 (try clear hb)
 (try clear hk)
 refine hK.out _ _ (script_Tell.c144 BK144.out).1 (fun hHeld => ?_)
 clear hK K
 refine no_ (by simp only [Act.put, aS, aZ, aC, i64_w, i32_w]; rfl) ?_
 refine one_ (i := 8) (N := some 14) (bs_ 11 511) rfl rfl (one_of HT_.out (by kernel_rfl)) (by decide) (fun K hK => ?_)
 refine goes_ Tryz.func33 (by kernel_rfl) rfl #[.int .i64 a0_2] (by rfl) rfl rfl (by (try simp only [aT, aK, aL]); first | done | rfl | (simp only [List.length_drop, List.length_take]; rfl)) ?_
 with_reducible refine (script_number.calls a0_2 t147 _ ?side1 A4.out).mono ?_
 (case side1 => exact sc.Env.below HE.out (by repeat (first | (with_reducible first | exact HB.out | apply b1_ | apply b2_ | apply b3_ | refine b4_ ?_ GE144.out) | exact HB.out)))
 rintro e w10 ⟨rfl, hb⟩
 refine ⟨_, rfl, ?_⟩
 replace BK144 := am_ (blk_below (by (with_reducible repeat (first | refine d1_ ?_ _ | refine d2_ ?_ | refine d3_ ?_ _)); exact BK144.out) hb)
 replace HB := am_ (below_step (by repeat (first | (with_reducible first | exact HB.out | apply b1_ | apply b2_ | apply b3_ | refine b4_ ?_ GE144.out) | exact HB.out)) hb)
 (try clear hb)
 (try clear hk)
 refine hK.out _ _ (script_Tell.c144 BK144.out).1 (fun hHeld => ?_)
 clear hK K
 refine no_ (by simp only [Act.put, aS, aZ, aC, i64_w, i32_w]; rfl) ?_
 refine one_ (i := 9) (N := some 15) (bs_ 11 1023) rfl rfl (one_of HT_.out (by kernel_rfl)) (by decide) (fun K hK => ?_)
 refine Kd.R_lit_step Kd.string _ 9 ?hg (N := 15) ?hd (xs := ([(⟨#[115, 108, 111, 116]⟩ : ByteArray), t145, (⟨#[115, 101, 115, 115, 105, 111, 110]⟩ : ByteArray), t146, (⟨#[99, 111, 100, 101]⟩ : ByteArray), t147] : List ByteArray)) (inner := [.string (⟨#[115, 108, 111, 116]⟩ : ByteArray), .string t145, .string (⟨#[115, 101, 115, 115, 105, 111, 110]⟩ : ByteArray), .string t146, .string (⟨#[99, 111, 100, 101]⟩ : ByteArray), .string t147]) (ok := fun _ => True) (okp := fun _ => True) ?hr ?hp (fun _ hk => hk) trivial (Below.refl _ _) (Nat.le_refl _) (by simp) ?_; (case hd => rfl); (case hg => rfl); (case hr => first | (go_simp; done) | (go_simp; rfl)); (case hp => exact (Reps.one (show Kd.M Kd.string _ _ _ (⟨#[115, 108, 111, 116]⟩ : ByteArray) [.string (⟨#[115, 108, 111, 116]⟩ : ByteArray)] from rfl) (Reps.one (show Kd.M Kd.string _ _ _ t145 [.string t145] from rfl) (Reps.one (show Kd.M Kd.string _ _ _ (⟨#[115, 101, 115, 115, 105, 111, 110]⟩ : ByteArray) [.string (⟨#[115, 101, 115, 115, 105, 111, 110]⟩ : ByteArray)] from rfl) (Reps.one (show Kd.M Kd.string _ _ _ t146 [.string t146] from rfl) (Reps.one (show Kd.M Kd.string _ _ _ (⟨#[99, 111, 100, 101]⟩ : ByteArray) [.string (⟨#[99, 111, 100, 101]⟩ : ByteArray)] from rfl) (Reps.one (show Kd.M Kd.string _ _ _ t147 [.string t147] from rfl) (Reps.none _ _))))))))
 intro v149 w11 ho12 hb hg_ hnew_
 clear hg_ hnew_
 (first | rw [← Ny148.out] at ho12 | (simp only [Int.reduceToNat] at ho12; rw [← Ny148.out] at ho12))
 have HO150 := am_ (Kd.R_lower ho12 (below_size (by repeat (first | (with_reducible first | exact HB.out | apply b1_ | apply b2_ | apply b3_ | refine b4_ ?_ GE144.out) | exact HB.out))))
 replace BK144 := am_ (blk_below (by (with_reducible repeat (first | refine d1_ ?_ _ | refine d2_ ?_ | refine d3_ ?_ _)); exact BK144.out) hb)
 replace HB := am_ (below_step (by repeat (first | (with_reducible first | exact HB.out | apply b1_ | apply b2_ | apply b3_ | refine b4_ ?_ GE144.out) | exact HB.out)) hb)
 clear hb ho12
 refine hK.out _ _ (script_Tell.c144 BK144.out).1 (fun hHeld => ?_)
 clear hK K
 refine no_ (by simp only [Act.put, aS, aZ, aC, i64_w, i32_w]; rfl) ?_
 refine pu_ 10 3 (bs_ 11 2047) rfl rfl (any_of HT_.out (by kernel_rfl)) rfl (by intro w'; go_simp; with_reducible rfl) (by simp only [Act.put, aS, aZ, aC, i64_w, i32_w]; rfl) (fun _ _ _ h => h) ?_
 refine done_ (done_of HT_.out (by kernel_rfl)) ?_
 obtain ⟨⟨hcz13_0, hcz13_1, hcz13_2, hcz13_3, hcz13_4, hcz13_5, hcz13_6, hcz13_7, hcz13_8, hcz13_9⟩, hfz13_0, hfz13_1, hfz13_2, hfz13_3, hfz13_4, hfz13_5, hfz13_6, hfz13_7, hfz13_8, hfz13_9⟩ := script_Tell.c144 BK144.out
 go_upto_if 19 with (fail)
 go_cut [3] (fun v3 wc => ∃ (kq : Nat) (x3_4 : List ByteArray), Aside0 (script_Tell.j0 kq x3_4 a0_0 a0_1 a0_2 a0_3 a0_4 a0_5 l0_6 l0_7 a0_8 a0_9 = some r) ∧ Aside0 (kq ≤ k) ∧ Aside0 (Kd.R Kd.string 9 wc w.heap.size (fun _ => True) v3 x3_4) ∧ Aside0 (wc.heap[gb144]? = some (.cells #[.int .i64 a0_0, .int .i64 a0_1, .int .i64 a0_2, .int .i64 a0_3, .int .i64 a0_4, .bool a0_5, (.slice A0_6 l0_6.length c0_6), (.slice A0_7 l0_7.length c0_7), .bool a0_8, .int .i64 a0_9] 41 (0, 0))) ∧ Aside0 (Below w.heap.size w wc))
 case first =>
  have H := HC5.out
  clear HC5
  by_cases c14 : (!(a0_3 == 0) || (!(a0_4 == 0))) = true
  · rw [if_pos c14] at H
    have c14b0 : (!(a0_3 == 0) || (!(a0_4 == 0))) = true := c14
    clear c14
    (first | rw [c14b0] | rw [c14b1] | rw [c14b2] | (simp only [i64_w, i32_w]; rw [c14b0]) | (simp only [i64_w, i32_w]; rw [c14b1]) | skip)
    replace H := Option.bind_eq_some_iff.mp H
    obtain ⟨t151, A150, H⟩ := H
    have A15 := am_ A150
    clear A150
    replace H := Option.bind_eq_some_iff.mp H
    obtain ⟨t152, A160, H⟩ := H
    have A16 := am_ A160
    clear A160
    obtain ⟨y153, hy153⟩ : ∃ y_ : List ByteArray, y_ = (([(⟨#[116, 120, 110]⟩ : ByteArray), t151, t152] : List ByteArray)) := ⟨_, rfl⟩
    replace H : (if y148.length + y153.length < 8796093022208 then (script_Tell.j0 k (y148 ++ y153) a0_0 a0_1 a0_2 a0_3 a0_4 a0_5 l0_6 l0_7 a0_8 a0_9) else (none)) = some r := by first | (rw [hy153]; with_reducible exact H) | (have H2_ := (Option.bind_some _ _).symm.trans H; rw [hy153]; with_reducible exact H2_) | (have H2_ := (Option.bind_some _ _).symm.trans H; with_reducible exact H2_) | with_reducible exact H | (rw [hy153]; exact H) | exact H
    have Ny153 := am_ hy153
    clear hy153
    by_cases c17 : y148.length + y153.length < 8796093022208
    · rw [if_pos c17] at H
      have LMc17 := am_ c17
      clear c17
      obtain ⟨y156, hy156⟩ : ∃ y_ : List ByteArray, y_ = (y148 ++ y153) := ⟨_, rfl⟩
      replace H : (script_Tell.j0 k y156 a0_0 a0_1 a0_2 a0_3 a0_4 a0_5 l0_6 l0_7 a0_8 a0_9) = some r := by first | (rw [hy156]; with_reducible exact H) | (have H2_ := (Option.bind_some _ _).symm.trans H; rw [hy156]; with_reducible exact H2_) | (have H2_ := (Option.bind_some _ _).symm.trans H; with_reducible exact H2_) | with_reducible exact H | (rw [hy156]; exact H) | exact H
      have Ny156 := am_ hy156
      clear hy156
      have H' := am_ H
      clear H
      try go_wp2
      replace HO150 := am_ (r3_ HO150.out)
      replace BK144 := am_ (d2_ BK144.out)
      replace HB := am_ (b3_ HB.out)
      refine start_ (n := 12) (S := fun w' => w'.cell? ⟨gb144, 0, none⟩ = some (.int .i64 a0_0) ∧ w'.cell? ⟨gb144, 1, none⟩ = some (.int .i64 a0_1) ∧ w'.cell? ⟨gb144, 2, none⟩ = some (.int .i64 a0_2) ∧ w'.cell? ⟨gb144, 3, none⟩ = some (.int .i64 a0_3) ∧ w'.cell? ⟨gb144, 4, none⟩ = some (.int .i64 a0_4) ∧ w'.cell? ⟨gb144, 5, none⟩ = some (.bool a0_5) ∧ w'.cell? ⟨gb144, 6, none⟩ = some (.slice A0_6 l0_6.length c0_6) ∧ w'.cell? ⟨gb144, 7, none⟩ = some (.slice A0_7 l0_7.length c0_7) ∧ w'.cell? ⟨gb144, 8, none⟩ = some (.bool a0_8) ∧ w'.cell? ⟨gb144, 9, none⟩ = some (.int .i64 a0_9)) (ds := []) #[false, false, false, false, false, false, false, false, false, false, false, false] (by kernel_rfl) rfl rfl (script_Tell.c144 BK144.out).1 (fun hHeld => ?_); refine with_tabW script_Tell.tab3 script_Tell.bits3 (fun HT_ HW_ => ?_)
      generalize w11.drew = w18 at HO150 BK144 HB hHeld ⊢
      refine pu_ 0 20 (bs_ 12 1) rfl rfl (any_of HT_.out (by kernel_rfl)) rfl (by intro w'; go_simp; with_reducible rfl) (by simp only [Act.put, aS, aZ, aC, i64_w, i32_w]; rfl) (fun _ _ _ h => h) ?_
      refine pu_ 1 21 (bs_ 12 3) rfl rfl (any_of HT_.out (by kernel_rfl)) rfl (by intro w'; go_simp; with_reducible rfl) (by simp only [Act.put, aS, aZ, aC, i64_w, i32_w]; rfl) (fun _ _ _ h => h) ?_
      refine pu_ 2 22 (bs_ 12 7) rfl rfl (any_of HT_.out (by kernel_rfl)) rfl (by intro w'; go_simp; with_reducible rfl) (by simp only [Act.put, aS, aZ, aC, i64_w, i32_w]; rfl) (fun _ _ _ h => h) ?_
      refine pu_ 5 25 (bs_ 12 39) rfl rfl (any_of HT_.out (by kernel_rfl)) rfl (by intro w'; go_simp; with_reducible rfl) (by simp only [Act.put, aS, aZ, aC, i64_w, i32_w]; rfl) (fun _ _ _ h => h) ?_
      refine pu_ 6 26 (bs_ 12 103) rfl rfl (any_of HT_.out (by kernel_rfl)) rfl (by intro w'; go_simp; with_reducible rfl) (by simp only [Act.put, aS, aZ, aC, i64_w, i32_w]; rfl) (fun _ _ _ h => h) ?_
      refine ta_ 3 23 (bs_ 12 111) rfl rfl (take_ofW HT_.out HW_.out (by kernel_rfl)) rfl (by rintro w' ⟨s0, s1, s2, s3, s4, s5, s6, s7, s8, s9⟩; go_simp; with_reducible rfl) hHeld (by simp only [Act.put, aS, aZ, aC, i64_w, i32_w]; rfl) (fun _ _ _ h => h) ?_
      refine ta_ 7 27 (bs_ 12 239) rfl rfl (take_ofW HT_.out HW_.out (by kernel_rfl)) rfl (by rintro w' ⟨s0, s1, s2, s3, s4, s5, s6, s7, s8, s9⟩; go_simp; with_reducible rfl) hHeld (by simp only [Act.put, aS, aZ, aC, i64_w, i32_w]; rfl) (fun _ _ _ h => h) ?_
      refine one_ (i := 4) (N := some 24) (bs_ 12 255) rfl rfl (one_of HT_.out (by kernel_rfl)) (by decide) (fun K hK => ?_)
      refine goes_ Tryz.func33 (by kernel_rfl) rfl #[.int .i64 a0_3] (by rfl) rfl rfl (by (try simp only [aT, aK, aL]); first | done | rfl | (simp only [List.length_drop, List.length_take]; rfl)) ?_
      with_reducible refine (script_number.calls a0_3 t151 _ ?side1 A15.out).mono ?_
      (case side1 => exact sc.Env.below HE.out (by repeat (first | (with_reducible first | exact HB.out | apply b1_ | apply b2_ | apply b3_ | refine b4_ ?_ GE144.out) | exact HB.out)))
      rintro e w19 ⟨rfl, hb⟩
      refine ⟨_, rfl, ?_⟩
      replace HO150 := am_ (Kd.R_below (by (with_reducible repeat (first | apply r1_ | apply r2_ | apply r3_)); exact HO150.out) hb)
      replace BK144 := am_ (blk_below (by (with_reducible repeat (first | refine d1_ ?_ _ | refine d2_ ?_ | refine d3_ ?_ _)); exact BK144.out) hb)
      replace HB := am_ (below_step (by repeat (first | (with_reducible first | exact HB.out | apply b1_ | apply b2_ | apply b3_ | refine b4_ ?_ GE144.out) | exact HB.out)) hb)
      (try clear hb)
      (try clear hk)
      refine hK.out _ _ (script_Tell.c144 BK144.out).1 (fun hHeld => ?_)
      clear hK K
      refine no_ (by simp only [Act.put, aS, aZ, aC, i64_w, i32_w]; rfl) ?_
      refine one_ (i := 8) (N := some 28) (bs_ 12 511) rfl rfl (one_of HT_.out (by kernel_rfl)) (by decide) (fun K hK => ?_)
      refine goes_ Tryz.func33 (by kernel_rfl) rfl #[.int .i64 a0_4] (by rfl) rfl rfl (by (try simp only [aT, aK, aL]); first | done | rfl | (simp only [List.length_drop, List.length_take]; rfl)) ?_
      with_reducible refine (script_number.calls a0_4 t152 _ ?side1 A16.out).mono ?_
      (case side1 => exact sc.Env.below HE.out (by repeat (first | (with_reducible first | exact HB.out | apply b1_ | apply b2_ | apply b3_ | refine b4_ ?_ GE144.out) | exact HB.out)))
      rintro e w20 ⟨rfl, hb⟩
      refine ⟨_, rfl, ?_⟩
      replace HO150 := am_ (Kd.R_below (by (with_reducible repeat (first | apply r1_ | apply r2_ | apply r3_)); exact HO150.out) hb)
      replace BK144 := am_ (blk_below (by (with_reducible repeat (first | refine d1_ ?_ _ | refine d2_ ?_ | refine d3_ ?_ _)); exact BK144.out) hb)
      replace HB := am_ (below_step (by repeat (first | (with_reducible first | exact HB.out | apply b1_ | apply b2_ | apply b3_ | refine b4_ ?_ GE144.out) | exact HB.out)) hb)
      (try clear hb)
      (try clear hk)
      refine hK.out _ _ (script_Tell.c144 BK144.out).1 (fun hHeld => ?_)
      clear hK K
      refine no_ (by simp only [Act.put, aS, aZ, aC, i64_w, i32_w]; rfl) ?_
      refine one_ (i := 9) (N := some 29) (bs_ 12 1023) rfl rfl (one_of HT_.out (by kernel_rfl)) (by decide) (fun K hK => ?_)
      refine Kd.R_lit_step Kd.string _ 9 ?hg (N := 29) ?hd (xs := ([(⟨#[116, 120, 110]⟩ : ByteArray), t151, t152] : List ByteArray)) (inner := [.string (⟨#[116, 120, 110]⟩ : ByteArray), .string t151, .string t152]) (ok := fun _ => True) (okp := fun _ => True) ?hr ?hp (fun _ hk => hk) trivial (Below.refl _ _) (Nat.le_refl _) (by simp) ?_; (case hd => rfl); (case hg => rfl); (case hr => first | (go_simp; done) | (go_simp; rfl)); (case hp => exact (Reps.one (show Kd.M Kd.string _ _ _ (⟨#[116, 120, 110]⟩ : ByteArray) [.string (⟨#[116, 120, 110]⟩ : ByteArray)] from rfl) (Reps.one (show Kd.M Kd.string _ _ _ t151 [.string t151] from rfl) (Reps.one (show Kd.M Kd.string _ _ _ t152 [.string t152] from rfl) (Reps.none _ _)))))
      intro v154 w21 ho22 hb hg_ hnew_
      clear hg_ hnew_
      (first | rw [← Ny153.out] at ho22 | (simp only [Int.reduceToNat] at ho22; rw [← Ny153.out] at ho22))
      have HO155 := am_ (Kd.R_lower (Kd.R_new' ho22 (Kd.R_lt (by (with_reducible repeat (first | apply r1_ | apply r2_ | apply r3_)); exact HO150.out))) (below_size (by repeat (first | (with_reducible first | exact HB.out | apply b1_ | apply b2_ | apply b3_ | refine b4_ ?_ GE144.out) | exact HB.out))))
      replace HO150 := am_ (Kd.R_elder' (by (with_reducible repeat (first | apply r1_ | apply r2_ | apply r3_)); exact HO150.out) (Kd.R_base ho22) hb)
      replace BK144 := am_ (blk_below (by (with_reducible repeat (first | refine d1_ ?_ _ | refine d2_ ?_ | refine d3_ ?_ _)); exact BK144.out) hb)
      replace HB := am_ (below_step (by repeat (first | (with_reducible first | exact HB.out | apply b1_ | apply b2_ | apply b3_ | refine b4_ ?_ GE144.out) | exact HB.out)) hb)
      clear hb ho22
      obtain ⟨Ao24, co24, eo24⟩ := Kd.R_slice HO155.out
      (first | subst eo24 | (injection eo24 with f1_ f2_ f3_; have f4_ := f1_.symm; have f5_ := f3_.symm; clear f1_ f2_ f3_; subst f4_; subst f5_))
      refine hK.out _ _ (script_Tell.c144 BK144.out).1 (fun hHeld => ?_)
      clear hK K
      refine no_ (by simp only [Act.put, aS, aZ, aC, i64_w, i32_w]; rfl) ?_
      refine one_ (i := 10) (N := some 30) (bs_ 12 2047) rfl rfl (one_of HT_.out (by kernel_rfl)) (by decide) (fun K hK => ?_)
      refine Kd.R_append_rows_step Kd.string (w0 := w) w.heap.size (by rfl) (.tmp 20) (.tmp 29) 71 9 (.string ⟨#[]⟩) 16 rfl Tryz.underlying71 info9 rfl (by decide) (by omega) v149 y148 y153 _ _ _ (fun k_ => some k_ ≠ (.slice Ao24 y153.length co24 : Value).ownBlock) (fun _ => False) rfl rfl ?aO ?aR (fun _ _ h => h) (fun _ h => h.elim) ?aF ?aB ?aS ?aL ?_
      (case aR => repeat (first | exact (Kd.R_reads' HO155.out).2.2 | (with_reducible refine Kd.C_alloc ?_ _) | (with_reducible refine Kd.C_drewN ?_ _) | (with_reducible refine Kd.C_drew ?_)))
      (case aB => exact (by repeat (first | (with_reducible first | exact HB.out | apply b1_ | apply b2_ | apply b3_ | refine b4_ ?_ GE144.out) | exact HB.out)))
      (case aF => exact (fun k_ hk => Kd.fresh' (Kd.R_lt (by (with_reducible repeat (first | apply r1_ | apply r2_ | apply r3_)); exact HO155.out)) k_ hk))
      (case aO => exact (by (with_reducible repeat (first | apply r1_ | apply r2_ | apply r3_)); exact Kd.R_mono HO150.out (fun _ hk => hk.2)))
      (case aS => exact (below_size (by repeat (first | (with_reducible first | exact HB.out | apply b1_ | apply b2_ | apply b3_ | refine b4_ ?_ GE144.out) | exact HB.out))))
      (case aL => have := LMc17.out; omega)
      intro v157 w23 ho hb hg hat
      rw [← Ny156.out] at ho
      replace BK144 := am_ (blk_grown (g := gb144) (o := .cells #[.int .i64 a0_0, .int .i64 a0_1, .int .i64 a0_2, .int .i64 a0_3, .int .i64 a0_4, .bool a0_5, .slice A0_6 l0_6.length c0_6, .slice A0_7 l0_7.length c0_7, .bool a0_8, .int .i64 a0_9] 41 (0, 0)) (by (with_reducible repeat (first | refine d1_ ?_ _ | refine d2_ ?_ | refine d3_ ?_ _)); exact BK144.out) hg (Kd.R_ne HO150.out BK144.out (by decide)))
      replace HO155 := am_ (Kd.R_after (ok := (fun _ => True)) (by (with_reducible repeat (first | apply r1_ | apply r2_ | apply r3_)); exact HO155.out) hg hat)
      replace HB := am_ (hb)
      have HO158 := am_ (ho)
      clear HO150
      clear ho hb hg hat
      refine hK.out _ _ (script_Tell.c144 BK144.out).1 (fun hHeld => ?_)
      clear hK K
      refine no_ (by simp only [Act.put, aS, aZ, aC, i64_w, i32_w]; rfl) ?_
      refine pu_ 11 3 (bs_ 12 4095) rfl rfl (any_of HT_.out (by kernel_rfl)) rfl (by intro w'; go_simp; with_reducible rfl) (by simp only [Act.put, aS, aZ, aC, i64_w, i32_w]; rfl) (fun _ _ _ h => h) ?_
      refine done_ (done_of HT_.out (by kernel_rfl)) ?_
      try go_wp2
      go_meet
      case rel => exact ⟨_, (y156), H', ⟨by first | omega | exact Nat.le_refl _⟩, ⟨by (with_reducible repeat (first | apply r1_ | apply r2_ | apply r3_)); exact Kd.R_mono HO158.out (fun _ hk => trivial)⟩, ⟨by (with_reducible repeat (first | refine d1_ ?_ _ | refine d2_ ?_ | refine d3_ ?_ _)); exact BK144.out⟩, ⟨by repeat (first | (with_reducible first | exact HB.out | apply b1_ | apply b2_ | apply b3_ | refine b4_ ?_ GE144.out) | exact HB.out)⟩⟩
    rw [if_neg c17] at H
    exact absurd H (by simp)
  rw [if_neg c14] at H
  have c14b0 : (!(a0_3 == 0) || (!(a0_4 == 0))) = false := by simpa using c14
  clear c14
  (first | rw [c14b0] | rw [c14b1] | rw [c14b2] | (simp only [i64_w, i32_w]; rw [c14b0]) | (simp only [i64_w, i32_w]; rw [c14b1]) | skip)
  have H' := am_ H
  clear H
  go_wp2
  go_meet
  case rel => exact ⟨_, (y148), H', ⟨by first | omega | exact Nat.le_refl _⟩, ⟨by (with_reducible repeat (first | apply r1_ | apply r2_ | apply r3_)); exact HO150.out⟩, ⟨by (with_reducible repeat (first | refine d1_ ?_ _ | refine d2_ ?_ | refine d3_ ?_ _)); exact BK144.out⟩, ⟨by repeat (first | (with_reducible first | exact HB.out | apply b1_ | apply b2_ | apply b3_ | refine b4_ ?_ GE144.out) | exact HB.out)⟩⟩
 case rest =>
  clear HC5
  try clear c1
  try clear p2
  try clear c3
  try clear c14
  try clear c14b0
  try clear c14b1
  try clear c14b2
  try clear c17
  try clear c18
  try clear hcz13_0 hcz13_1 hcz13_2 hcz13_3 hcz13_4 hcz13_5 hcz13_6 hcz13_7 hcz13_8 hcz13_9 hfz13_0 hfz13_1 hfz13_2 hfz13_3 hfz13_4 hfz13_5 hfz13_6 hfz13_7 hfz13_8 hfz13_9
  obtain ⟨kq, x3_4, HA, HJ4, HO_3, BK144, HB⟩ := hcut
  cases kq with
  | zero => exact absurd HA.out (by simp [script_Tell.j0])
  | succ kj4 =>
   have H := HA.out
   clear HA
   simp only [script_Tell.j0] at H
   have HC25 := am_ H
   clear H
   obtain ⟨⟨hcz26_0, hcz26_1, hcz26_2, hcz26_3, hcz26_4, hcz26_5, hcz26_6, hcz26_7, hcz26_8, hcz26_9⟩, hfz26_0, hfz26_1, hfz26_2, hfz26_3, hfz26_4, hfz26_5, hfz26_6, hfz26_7, hfz26_8, hfz26_9⟩ := script_Tell.c144 BK144.out
   go_upto_if 32 with (fail)
   go_cut [3] (fun v3 wc => ∃ (kq : Nat) (x3_24 : List ByteArray), Aside0 (script_Tell.j1 kq x3_24 a0_0 a0_1 a0_2 a0_3 a0_4 a0_5 l0_6 l0_7 a0_8 a0_9 = some r) ∧ Aside0 (kq ≤ kj4) ∧ Aside0 (Kd.R Kd.string 9 wc w.heap.size (fun _ => True) v3 x3_24) ∧ Aside0 (wc.heap[gb144]? = some (.cells #[.int .i64 a0_0, .int .i64 a0_1, .int .i64 a0_2, .int .i64 a0_3, .int .i64 a0_4, .bool a0_5, (.slice A0_6 l0_6.length c0_6), (.slice A0_7 l0_7.length c0_7), .bool a0_8, .int .i64 a0_9] 41 (0, 0))) ∧ Aside0 (Below w.heap.size w wc))
   case first =>
    have H := HC25.out
    clear HC25
    by_cases c27 : a0_5 = true
    · subst c27
      have H1 : (if x3_4.length < 8796093022208 then (script_Tell.j1 kj4 (x3_4 ++ [(⟨#[102, 111, 117, 110, 100]⟩ : ByteArray)]) a0_0 a0_1 a0_2 a0_3 a0_4 true l0_6 l0_7 a0_8 a0_9) else (none)) = some r := by rw [if_pos rfl] at H; exact H
      clear H
      have H := H1
      clear H1
      by_cases c28 : x3_4.length < 8796093022208
      · rw [if_pos c28] at H
        have LMc28 := am_ c28
        clear c28
        obtain ⟨y159, hy159⟩ : ∃ y_ : List ByteArray, y_ = (x3_4 ++ [(⟨#[102, 111, 117, 110, 100]⟩ : ByteArray)]) := ⟨_, rfl⟩
        replace H : (script_Tell.j1 kj4 y159 a0_0 a0_1 a0_2 a0_3 a0_4 true l0_6 l0_7 a0_8 a0_9) = some r := by first | (rw [hy159]; with_reducible exact H) | (have H2_ := (Option.bind_some _ _).symm.trans H; rw [hy159]; with_reducible exact H2_) | (have H2_ := (Option.bind_some _ _).symm.trans H; with_reducible exact H2_) | with_reducible exact H | (rw [hy159]; exact H) | exact H
        have Ny159 := am_ hy159
        clear hy159
        have H' := am_ H
        clear H
        go_wp2_with (first | ((with_reducible refine gate_builtin (b := .append) (xs := #[.tmp 33, .tmp 34]) rfl ?_); at_builtin; refine Kd.R_append Kd.string (w0 := w) w.heap.size rfl (.tmp 33) (.tmp 34) 71 9 (.string ⟨#[]⟩) 16 rfl Tryz.underlying71 info9 rfl (by decide) (by omega) u3 x3_4 (⟨#[102, 111, 117, 110, 100]⟩ : ByteArray) [.string (⟨#[102, 111, 117, 110, 100]⟩ : ByteArray)] (fun _ => True) (fun _ => False) rfl rfl ?aP (fun _ hk => hk.elim) ?aF ?aO ?aB ?aS ?aL ?_; (case aP => exact rfl); (case aB => exact (by repeat (first | (with_reducible first | exact HB.out | apply b1_ | apply b2_ | apply b3_ | refine b4_ ?_ GE144.out) | exact HB.out))); (case aF => exact (fun _ _ => trivial)); (case aO => exact (by (with_reducible repeat (first | apply r1_ | apply r2_ | apply r3_)); exact HO_3.out)); (case aS => exact (below_size (by repeat (first | (with_reducible first | exact HB.out | apply b1_ | apply b2_ | apply b3_ | refine b4_ ?_ GE144.out) | exact HB.out)))); (case aL => have := LMc28.out; omega); intro v160 w29 ho hb hg hat; rw [← Ny159.out] at ho; replace BK144 := am_ (blk_grown (g := gb144) (o := .cells #[.int .i64 a0_0, .int .i64 a0_1, .int .i64 a0_2, .int .i64 a0_3, .int .i64 a0_4, .bool true, .slice A0_6 l0_6.length c0_6, .slice A0_7 l0_7.length c0_7, .bool a0_8, .int .i64 a0_9] 41 (0, 0)) (by (with_reducible repeat (first | refine d1_ ?_ _ | refine d2_ ?_ | refine d3_ ?_ _)); exact BK144.out) hg (Kd.R_ne HO_3.out BK144.out (by decide))); replace HB := am_ (hb); have HO161 := am_ (ho); clear HO_3; clear ho hb hg hat))
        go_meet
        case rel => exact ⟨_, (y159), H', ⟨by have := HJ4.out; first | omega | exact Nat.le_refl _⟩, ⟨by (with_reducible repeat (first | apply r1_ | apply r2_ | apply r3_)); exact HO161.out⟩, ⟨by (with_reducible repeat (first | refine d1_ ?_ _ | refine d2_ ?_ | refine d3_ ?_ _)); exact BK144.out⟩, ⟨by repeat (first | (with_reducible first | exact HB.out | apply b1_ | apply b2_ | apply b3_ | refine b4_ ?_ GE144.out) | exact HB.out)⟩⟩
      rw [if_neg c28] at H
      exact absurd H (by simp)
    replace c27 := Bool.eq_false_iff.mpr c27
    subst c27
    have H1 : (script_Tell.j1 kj4 x3_4 a0_0 a0_1 a0_2 a0_3 a0_4 false l0_6 l0_7 a0_8 a0_9) = some r := by rw [if_neg (show ¬ (false = true) by decide)] at H; exact H
    clear H
    have H := H1
    clear H1
    have H' := am_ H
    clear H
    go_wp2
    go_meet
    case rel => exact ⟨_, (x3_4), H', ⟨by have := HJ4.out; first | omega | exact Nat.le_refl _⟩, ⟨by (with_reducible repeat (first | apply r1_ | apply r2_ | apply r3_)); exact HO_3.out⟩, ⟨by (with_reducible repeat (first | refine d1_ ?_ _ | refine d2_ ?_ | refine d3_ ?_ _)); exact BK144.out⟩, ⟨by repeat (first | (with_reducible first | exact HB.out | apply b1_ | apply b2_ | apply b3_ | refine b4_ ?_ GE144.out) | exact HB.out)⟩⟩
   case rest =>
    clear HC25
    try clear c1
    try clear c2
    try clear p2
    try clear c3
    try clear c14
    try clear c14b0
    try clear c14b1
    try clear c14b2
    try clear c17
    try clear c18
    try clear c27
    try clear c28
    try clear hcz13_0 hcz13_1 hcz13_2 hcz13_3 hcz13_4 hcz13_5 hcz13_6 hcz13_7 hcz13_8 hcz13_9 hfz13_0 hfz13_1 hfz13_2 hfz13_3 hfz13_4 hfz13_5 hfz13_6 hfz13_7 hfz13_8 hfz13_9
    try clear hcz26_0 hcz26_1 hcz26_2 hcz26_3 hcz26_4 hcz26_5 hcz26_6 hcz26_7 hcz26_8 hcz26_9 hfz26_0 hfz26_1 hfz26_2 hfz26_3 hfz26_4 hfz26_5 hfz26_6 hfz26_7 hfz26_8 hfz26_9
    try clear p2
    obtain ⟨kq, x3_24, HA, HJ24, HO_3, BK144, HB⟩ := hcut
    cases kq with
    | zero => exact absurd HA.out (by simp [script_Tell.j1])
    | succ kj24 =>
     have H := HA.out
     clear HA
     simp only [script_Tell.j1] at H
     have HC30 := am_ H
     clear H
     obtain ⟨⟨hcz31_0, hcz31_1, hcz31_2, hcz31_3, hcz31_4, hcz31_5, hcz31_6, hcz31_7, hcz31_8, hcz31_9⟩, hfz31_0, hfz31_1, hfz31_2, hfz31_3, hfz31_4, hfz31_5, hfz31_6, hfz31_7, hfz31_8, hfz31_9⟩ := script_Tell.c144 BK144.out
     go_upto_if 39 with (fail)
     go_cut [3] (fun v3 wc => ∃ (kq : Nat) (x3_29 : List ByteArray), Aside0 (script_Tell.j2 kq x3_29 a0_0 a0_1 a0_2 a0_3 a0_4 a0_5 l0_6 l0_7 a0_8 a0_9 = some r) ∧ Aside0 (kq ≤ kj24) ∧ Aside0 (Kd.R Kd.string 9 wc w.heap.size (fun _ => True) v3 x3_29) ∧ Aside0 (wc.heap[gb144]? = some (.cells #[.int .i64 a0_0, .int .i64 a0_1, .int .i64 a0_2, .int .i64 a0_3, .int .i64 a0_4, .bool a0_5, (.slice A0_6 l0_6.length c0_6), (.slice A0_7 l0_7.length c0_7), .bool a0_8, .int .i64 a0_9] 41 (0, 0))) ∧ Aside0 (Below w.heap.size w wc))
     case first =>
      have H := HC30.out
      clear HC30
      by_cases c32 : (l0_6.length : Int) > 0
      · rw [if_pos c32] at H
        have c32b0 : decide (0 < (l0_6.length : Int)) = true := decide_eq_true c32
        have c32b1 : decide (0 < l0_6.length) = true := decide_eq_true (by omega)
        clear c32
        (first | rw [c32b0] | rw [c32b1] | rw [c32b2] | (simp only [i64_w, i32_w]; rw [c32b0]) | (simp only [i64_w, i32_w]; rw [c32b1]) | skip)
        replace H := Option.bind_eq_some_iff.mp H
        obtain ⟨t162, A330, H⟩ := H
        have A33 := am_ A330
        clear A330
        obtain ⟨y163, hy163⟩ : ∃ y_ : List ByteArray, y_ = (([(⟨#[118, 97, 108, 117, 101]⟩ : ByteArray), t162] : List ByteArray)) := ⟨_, rfl⟩
        replace H : (if x3_24.length + y163.length < 8796093022208 then (script_Tell.j2 kj24 (x3_24 ++ y163) a0_0 a0_1 a0_2 a0_3 a0_4 a0_5 l0_6 l0_7 a0_8 a0_9) else (none)) = some r := by first | (rw [hy163]; with_reducible exact H) | (have H2_ := (Option.bind_some _ _).symm.trans H; rw [hy163]; with_reducible exact H2_) | (have H2_ := (Option.bind_some _ _).symm.trans H; with_reducible exact H2_) | with_reducible exact H | (rw [hy163]; exact H) | exact H
        have Ny163 := am_ hy163
        clear hy163
        by_cases c34 : x3_24.length + y163.length < 8796093022208
        · rw [if_pos c34] at H
          have LMc34 := am_ c34
          clear c34
          obtain ⟨y166, hy166⟩ : ∃ y_ : List ByteArray, y_ = (x3_24 ++ y163) := ⟨_, rfl⟩
          replace H : (script_Tell.j2 kj24 y166 a0_0 a0_1 a0_2 a0_3 a0_4 a0_5 l0_6 l0_7 a0_8 a0_9) = some r := by first | (rw [hy166]; with_reducible exact H) | (have H2_ := (Option.bind_some _ _).symm.trans H; rw [hy166]; with_reducible exact H2_) | (have H2_ := (Option.bind_some _ _).symm.trans H; with_reducible exact H2_) | with_reducible exact H | (rw [hy166]; exact H) | exact H
          have Ny166 := am_ hy166
          clear hy166
          have H' := am_ H
          clear H
          obtain ⟨⟨hcz35_0, hcz35_1, hcz35_2, hcz35_3, hcz35_4, hcz35_5, hcz35_6, hcz35_7, hcz35_8, hcz35_9⟩, hfz35_0, hfz35_1, hfz35_2, hfz35_3, hfz35_4, hfz35_5, hfz35_6, hfz35_7, hfz35_8, hfz35_9⟩ := script_Tell.c144 BK144.out
          have hcv36 := Kd.C_string (P := Tryz.prog) (A := A0_6) (c := c0_6) Tryz.underlying38 Tryz.underlying5 Tryz.underlying9 (Kd.C_below HR0_6.out HB.out)
          try go_wp2_with (first | ((with_reducible refine gate_callee (f := 20) rfl ?_); refine goesL_ (some 44) rfl rfl Tryz.func20 (by kernel_rfl) rfl #[.string (strOfNums l0_6)] rfl (by (try simp only [aT, aK, aL]); first | done | rfl | (simp only [List.length_drop, List.length_take]; rfl)) ?_; (with_reducible refine (script_Quote.calls (strOfNums l0_6) t162 _ ?side1 A33.out).mono ?_); (case side1 => exact sc.Env.below HE.out (by repeat (first | (with_reducible first | exact HB.out | apply b1_ | apply b2_ | apply b3_ | refine b4_ ?_ GE144.out) | exact HB.out))); rintro e w37 ⟨rfl, hb⟩; refine ⟨_, rfl, ?_⟩; replace HO_3 := am_ (Kd.R_below (by (with_reducible repeat (first | apply r1_ | apply r2_ | apply r3_)); exact HO_3.out) hb); replace BK144 := am_ (blk_below (by (with_reducible repeat (first | refine d1_ ?_ _ | refine d2_ ?_ | refine d3_ ?_ _)); exact BK144.out) hb); replace HB := am_ (below_step (by repeat (first | (with_reducible first | exact HB.out | apply b1_ | apply b2_ | apply b3_ | refine b4_ ?_ GE144.out) | exact HB.out)) hb); (try clear hb); (try clear hk)) | ((with_reducible refine gate_dst (N := 45) rfl ?_); refine Kd.R_lit Kd.string _ 9 ?hg (N := 45) ?hd (xs := ([(⟨#[118, 97, 108, 117, 101]⟩ : ByteArray), t162] : List ByteArray)) (inner := [.string (⟨#[118, 97, 108, 117, 101]⟩ : ByteArray), .string t162]) (ok := fun _ => True) (okp := fun _ => True) ?hr ?hp (fun _ hk => hk) trivial (Below.refl _ _) (Nat.le_refl _) (by simp) ?_; (case hd => rfl); (case hg => rfl); (case hr => first | (go_simp; done) | (go_simp; rfl)); (case hp => exact (Reps.one (show Kd.M Kd.string _ _ _ (⟨#[118, 97, 108, 117, 101]⟩ : ByteArray) [.string (⟨#[118, 97, 108, 117, 101]⟩ : ByteArray)] from rfl) (Reps.one (show Kd.M Kd.string _ _ _ t162 [.string t162] from rfl) (Reps.none _ _)))); intro v164 w38 ho39 hb hg_ hnew_; clear hg_ hnew_; (first | rw [← Ny163.out] at ho39 | (simp only [Int.reduceToNat] at ho39; rw [← Ny163.out] at ho39)); have HO165 := am_ (Kd.R_lower (Kd.R_new' ho39 (Kd.R_lt (by (with_reducible repeat (first | apply r1_ | apply r2_ | apply r3_)); exact HO_3.out))) (below_size (by repeat (first | (with_reducible first | exact HB.out | apply b1_ | apply b2_ | apply b3_ | refine b4_ ?_ GE144.out) | exact HB.out)))); replace HO_3 := am_ (Kd.R_elder' (by (with_reducible repeat (first | apply r1_ | apply r2_ | apply r3_)); exact HO_3.out) (Kd.R_base ho39) hb); replace BK144 := am_ (blk_below (by (with_reducible repeat (first | refine d1_ ?_ _ | refine d2_ ?_ | refine d3_ ?_ _)); exact BK144.out) hb); replace HB := am_ (below_step (by repeat (first | (with_reducible first | exact HB.out | apply b1_ | apply b2_ | apply b3_ | refine b4_ ?_ GE144.out) | exact HB.out)) hb); clear hb ho39; obtain ⟨Ao41, co41, eo41⟩ := Kd.R_slice HO165.out; subst eo41) | ((with_reducible refine gate_builtin (b := .append) (xs := #[.tmp 40, .tmp 45]) rfl ?_); at_builtin; refine Kd.R_append_rows Kd.string (w0 := w) w.heap.size rfl (.tmp 40) (.tmp 45) 71 9 (.string ⟨#[]⟩) 16 rfl Tryz.underlying71 info9 rfl (by decide) (by omega) u3 x3_24 y163 _ _ _ (fun k_ => some k_ ≠ (.slice Ao41 y163.length co41 : Value).ownBlock) (fun _ => False) rfl rfl ?aO ?aR (fun _ _ h => h) (fun _ h => h.elim) ?aF ?aB ?aS ?aL ?_; (case aR => repeat (first | exact (Kd.R_reads' HO165.out).2.2 | (with_reducible refine Kd.C_alloc ?_ _) | (with_reducible refine Kd.C_drewN ?_ _) | (with_reducible refine Kd.C_drew ?_))); (case aB => exact (by repeat (first | (with_reducible first | exact HB.out | apply b1_ | apply b2_ | apply b3_ | refine b4_ ?_ GE144.out) | exact HB.out))); (case aF => exact (fun k_ hk => Kd.fresh' (Kd.R_lt (by (with_reducible repeat (first | apply r1_ | apply r2_ | apply r3_)); exact HO165.out)) k_ hk)); (case aO => exact (by (with_reducible repeat (first | apply r1_ | apply r2_ | apply r3_)); exact Kd.R_mono HO_3.out (fun _ hk => hk.2))); (case aS => exact (below_size (by repeat (first | (with_reducible first | exact HB.out | apply b1_ | apply b2_ | apply b3_ | refine b4_ ?_ GE144.out) | exact HB.out)))); (case aL => have := LMc34.out; omega); intro v167 w40 ho hb hg hat; rw [← Ny166.out] at ho; replace BK144 := am_ (blk_grown (g := gb144) (o := .cells #[.int .i64 a0_0, .int .i64 a0_1, .int .i64 a0_2, .int .i64 a0_3, .int .i64 a0_4, .bool a0_5, .slice A0_6 l0_6.length c0_6, .slice A0_7 l0_7.length c0_7, .bool a0_8, .int .i64 a0_9] 41 (0, 0)) (by (with_reducible repeat (first | refine d1_ ?_ _ | refine d2_ ?_ | refine d3_ ?_ _)); exact BK144.out) hg (Kd.R_ne HO_3.out BK144.out (by decide))); replace HO165 := am_ (Kd.R_after (ok := (fun _ => True)) (by (with_reducible repeat (first | apply r1_ | apply r2_ | apply r3_)); exact HO165.out) hg hat); replace HB := am_ (hb); have HO168 := am_ (ho); clear HO_3; clear ho hb hg hat))
          go_meet
          case rel => exact ⟨_, (y166), H', ⟨by have := HJ4.out; have := HJ24.out; first | omega | exact Nat.le_refl _⟩, ⟨by (with_reducible repeat (first | apply r1_ | apply r2_ | apply r3_)); exact Kd.R_mono HO168.out (fun _ hk => trivial)⟩, ⟨by (with_reducible repeat (first | refine d1_ ?_ _ | refine d2_ ?_ | refine d3_ ?_ _)); exact BK144.out⟩, ⟨by repeat (first | (with_reducible first | exact HB.out | apply b1_ | apply b2_ | apply b3_ | refine b4_ ?_ GE144.out) | exact HB.out)⟩⟩
        rw [if_neg c34] at H
        exact absurd H (by simp)
      rw [if_neg c32] at H
      have c32b0 : decide (0 < (l0_6.length : Int)) = false := decide_eq_false c32
      have c32b1 : decide (0 < l0_6.length) = false := decide_eq_false (by omega)
      clear c32
      (first | rw [c32b0] | rw [c32b1] | rw [c32b2] | (simp only [i64_w, i32_w]; rw [c32b0]) | (simp only [i64_w, i32_w]; rw [c32b1]) | skip)
      have H' := am_ H
      clear H
      go_wp2
      go_meet
      case rel => exact ⟨_, (x3_24), H', ⟨by have := HJ4.out; have := HJ24.out; first | omega | exact Nat.le_refl _⟩, ⟨by (with_reducible repeat (first | apply r1_ | apply r2_ | apply r3_)); exact HO_3.out⟩, ⟨by (with_reducible repeat (first | refine d1_ ?_ _ | refine d2_ ?_ | refine d3_ ?_ _)); exact BK144.out⟩, ⟨by repeat (first | (with_reducible first | exact HB.out | apply b1_ | apply b2_ | apply b3_ | refine b4_ ?_ GE144.out) | exact HB.out)⟩⟩
     case rest =>
      clear HC30
      try clear c1
      try clear c2
      try clear p2
      try clear c3
      try clear hcv3
      try clear c14
      try clear c14b0
      try clear c14b1
      try clear c14b2
      try clear c17
      try clear c18
      try clear c20
      try clear c27
      try clear c28
      try clear c32
      try clear c32b0
      try clear c32b1
      try clear c32b2
      try clear c33
      try clear c34
      try clear hcv36
      try clear hcz13_0 hcz13_1 hcz13_2 hcz13_3 hcz13_4 hcz13_5 hcz13_6 hcz13_7 hcz13_8 hcz13_9 hfz13_0 hfz13_1 hfz13_2 hfz13_3 hfz13_4 hfz13_5 hfz13_6 hfz13_7 hfz13_8 hfz13_9
      try clear hcz26_0 hcz26_1 hcz26_2 hcz26_3 hcz26_4 hcz26_5 hcz26_6 hcz26_7 hcz26_8 hcz26_9 hfz26_0 hfz26_1 hfz26_2 hfz26_3 hfz26_4 hfz26_5 hfz26_6 hfz26_7 hfz26_8 hfz26_9
      try clear hcz31_0 hcz31_1 hcz31_2 hcz31_3 hcz31_4 hcz31_5 hcz31_6 hcz31_7 hcz31_8 hcz31_9 hfz31_0 hfz31_1 hfz31_2 hfz31_3 hfz31_4 hfz31_5 hfz31_6 hfz31_7 hfz31_8 hfz31_9
      try clear hcz35_0 hcz35_1 hcz35_2 hcz35_3 hcz35_4 hcz35_5 hcz35_6 hcz35_7 hcz35_8 hcz35_9 hfz35_0 hfz35_1 hfz35_2 hfz35_3 hfz35_4 hfz35_5 hfz35_6 hfz35_7 hfz35_8 hfz35_9
      try clear p2
      obtain ⟨kq, x3_29, HA, HJ29, HO_3, BK144, HB⟩ := hcut
      cases kq with
      | zero => exact absurd HA.out (by simp [script_Tell.j2])
      | succ kj29 =>
       have H := HA.out
       clear HA
       simp only [script_Tell.j2] at H
       have HC42 := am_ H
       clear H
       obtain ⟨⟨hcz43_0, hcz43_1, hcz43_2, hcz43_3, hcz43_4, hcz43_5, hcz43_6, hcz43_7, hcz43_8, hcz43_9⟩, hfz43_0, hfz43_1, hfz43_2, hfz43_3, hfz43_4, hfz43_5, hfz43_6, hfz43_7, hfz43_8, hfz43_9⟩ := script_Tell.c144 BK144.out
       go_upto_if 50 with (fail)
       go_cut [3] (fun v3 wc => ∃ (kq : Nat) (x3_41 : List ByteArray), Aside0 (script_Tell.j3 kq x3_41 a0_0 a0_1 a0_2 a0_3 a0_4 a0_5 l0_6 l0_7 a0_8 a0_9 = some r) ∧ Aside0 (kq ≤ kj29) ∧ Aside0 (Kd.R Kd.string 9 wc w.heap.size (fun _ => True) v3 x3_41) ∧ Aside0 (wc.heap[gb144]? = some (.cells #[.int .i64 a0_0, .int .i64 a0_1, .int .i64 a0_2, .int .i64 a0_3, .int .i64 a0_4, .bool a0_5, (.slice A0_6 l0_6.length c0_6), (.slice A0_7 l0_7.length c0_7), .bool a0_8, .int .i64 a0_9] 41 (0, 0))) ∧ Aside0 (Below w.heap.size w wc))
       case first =>
        have H := HC42.out
        clear HC42
        by_cases c44 : (l0_7.length : Int) > 0
        · rw [if_pos c44] at H
          have c44b0 : decide (0 < (l0_7.length : Int)) = true := decide_eq_true c44
          have c44b1 : decide (0 < l0_7.length) = true := decide_eq_true (by omega)
          clear c44
          (first | rw [c44b0] | rw [c44b1] | rw [c44b2] | (simp only [i64_w, i32_w]; rw [c44b0]) | (simp only [i64_w, i32_w]; rw [c44b1]) | skip)
          replace H := Option.bind_eq_some_iff.mp H
          obtain ⟨t169, A450, H⟩ := H
          have A45 := am_ A450
          clear A450
          obtain ⟨y170, hy170⟩ : ∃ y_ : List ByteArray, y_ = (([(⟨#[112, 97, 105, 114, 115]⟩ : ByteArray), t169] : List ByteArray)) := ⟨_, rfl⟩
          replace H : (if x3_29.length + y170.length < 8796093022208 then (script_Tell.j3 kj29 (x3_29 ++ y170) a0_0 a0_1 a0_2 a0_3 a0_4 a0_5 l0_6 l0_7 a0_8 a0_9) else (none)) = some r := by first | (rw [hy170]; with_reducible exact H) | (have H2_ := (Option.bind_some _ _).symm.trans H; rw [hy170]; with_reducible exact H2_) | (have H2_ := (Option.bind_some _ _).symm.trans H; with_reducible exact H2_) | with_reducible exact H | (rw [hy170]; exact H) | exact H
          have Ny170 := am_ hy170
          clear hy170
          by_cases c46 : x3_29.length + y170.length < 8796093022208
          · rw [if_pos c46] at H
            have LMc46 := am_ c46
            clear c46
            obtain ⟨y173, hy173⟩ : ∃ y_ : List ByteArray, y_ = (x3_29 ++ y170) := ⟨_, rfl⟩
            replace H : (script_Tell.j3 kj29 y173 a0_0 a0_1 a0_2 a0_3 a0_4 a0_5 l0_6 l0_7 a0_8 a0_9) = some r := by first | (rw [hy173]; with_reducible exact H) | (have H2_ := (Option.bind_some _ _).symm.trans H; rw [hy173]; with_reducible exact H2_) | (have H2_ := (Option.bind_some _ _).symm.trans H; with_reducible exact H2_) | with_reducible exact H | (rw [hy173]; exact H) | exact H
            have Ny173 := am_ hy173
            clear hy173
            have H' := am_ H
            clear H
            obtain ⟨⟨hcz47_0, hcz47_1, hcz47_2, hcz47_3, hcz47_4, hcz47_5, hcz47_6, hcz47_7, hcz47_8, hcz47_9⟩, hfz47_0, hfz47_1, hfz47_2, hfz47_3, hfz47_4, hfz47_5, hfz47_6, hfz47_7, hfz47_8, hfz47_9⟩ := script_Tell.c144 BK144.out
            try go_wp2_with (first | ((with_reducible refine gate_callee (f := 33) rfl ?_); refine goesL_ (some 55) rfl rfl Tryz.func33 (by kernel_rfl) rfl #[.int .i64 (l0_7.length : Int)] rfl (by (try simp only [aT, aK, aL]); first | done | rfl | (simp only [List.length_drop, List.length_take]; rfl)) ?_; (with_reducible refine (script_number.calls (l0_7.length : Int) t169 _ ?side1 A45.out).mono ?_); (case side1 => exact sc.Env.below HE.out (by repeat (first | (with_reducible first | exact HB.out | apply b1_ | apply b2_ | apply b3_ | refine b4_ ?_ GE144.out) | exact HB.out))); rintro e w48 ⟨rfl, hb⟩; refine ⟨_, rfl, ?_⟩; replace HO_3 := am_ (Kd.R_below (by (with_reducible repeat (first | apply r1_ | apply r2_ | apply r3_)); exact HO_3.out) hb); replace BK144 := am_ (blk_below (by (with_reducible repeat (first | refine d1_ ?_ _ | refine d2_ ?_ | refine d3_ ?_ _)); exact BK144.out) hb); replace HB := am_ (below_step (by repeat (first | (with_reducible first | exact HB.out | apply b1_ | apply b2_ | apply b3_ | refine b4_ ?_ GE144.out) | exact HB.out)) hb); (try clear hb); (try clear hk)) | ((with_reducible refine gate_dst (N := 56) rfl ?_); refine Kd.R_lit Kd.string _ 9 ?hg (N := 56) ?hd (xs := ([(⟨#[112, 97, 105, 114, 115]⟩ : ByteArray), t169] : List ByteArray)) (inner := [.string (⟨#[112, 97, 105, 114, 115]⟩ : ByteArray), .string t169]) (ok := fun _ => True) (okp := fun _ => True) ?hr ?hp (fun _ hk => hk) trivial (Below.refl _ _) (Nat.le_refl _) (by simp) ?_; (case hd => rfl); (case hg => rfl); (case hr => first | (go_simp; done) | (go_simp; rfl)); (case hp => exact (Reps.one (show Kd.M Kd.string _ _ _ (⟨#[112, 97, 105, 114, 115]⟩ : ByteArray) [.string (⟨#[112, 97, 105, 114, 115]⟩ : ByteArray)] from rfl) (Reps.one (show Kd.M Kd.string _ _ _ t169 [.string t169] from rfl) (Reps.none _ _)))); intro v171 w49 ho50 hb hg_ hnew_; clear hg_ hnew_; (first | rw [← Ny170.out] at ho50 | (simp only [Int.reduceToNat] at ho50; rw [← Ny170.out] at ho50)); have HO172 := am_ (Kd.R_lower (Kd.R_new' ho50 (Kd.R_lt (by (with_reducible repeat (first | apply r1_ | apply r2_ | apply r3_)); exact HO_3.out))) (below_size (by repeat (first | (with_reducible first | exact HB.out | apply b1_ | apply b2_ | apply b3_ | refine b4_ ?_ GE144.out) | exact HB.out)))); replace HO_3 := am_ (Kd.R_elder' (by (with_reducible repeat (first | apply r1_ | apply r2_ | apply r3_)); exact HO_3.out) (Kd.R_base ho50) hb); replace BK144 := am_ (blk_below (by (with_reducible repeat (first | refine d1_ ?_ _ | refine d2_ ?_ | refine d3_ ?_ _)); exact BK144.out) hb); replace HB := am_ (below_step (by repeat (first | (with_reducible first | exact HB.out | apply b1_ | apply b2_ | apply b3_ | refine b4_ ?_ GE144.out) | exact HB.out)) hb); clear hb ho50; obtain ⟨Ao52, co52, eo52⟩ := Kd.R_slice HO172.out; subst eo52) | ((with_reducible refine gate_builtin (b := .append) (xs := #[.tmp 51, .tmp 56]) rfl ?_); at_builtin; refine Kd.R_append_rows Kd.string (w0 := w) w.heap.size rfl (.tmp 51) (.tmp 56) 71 9 (.string ⟨#[]⟩) 16 rfl Tryz.underlying71 info9 rfl (by decide) (by omega) u3 x3_29 y170 _ _ _ (fun k_ => some k_ ≠ (.slice Ao52 y170.length co52 : Value).ownBlock) (fun _ => False) rfl rfl ?aO ?aR (fun _ _ h => h) (fun _ h => h.elim) ?aF ?aB ?aS ?aL ?_; (case aR => repeat (first | exact (Kd.R_reads' HO172.out).2.2 | (with_reducible refine Kd.C_alloc ?_ _) | (with_reducible refine Kd.C_drewN ?_ _) | (with_reducible refine Kd.C_drew ?_))); (case aB => exact (by repeat (first | (with_reducible first | exact HB.out | apply b1_ | apply b2_ | apply b3_ | refine b4_ ?_ GE144.out) | exact HB.out))); (case aF => exact (fun k_ hk => Kd.fresh' (Kd.R_lt (by (with_reducible repeat (first | apply r1_ | apply r2_ | apply r3_)); exact HO172.out)) k_ hk)); (case aO => exact (by (with_reducible repeat (first | apply r1_ | apply r2_ | apply r3_)); exact Kd.R_mono HO_3.out (fun _ hk => hk.2))); (case aS => exact (below_size (by repeat (first | (with_reducible first | exact HB.out | apply b1_ | apply b2_ | apply b3_ | refine b4_ ?_ GE144.out) | exact HB.out)))); (case aL => have := LMc46.out; omega); intro v174 w51 ho hb hg hat; rw [← Ny173.out] at ho; replace BK144 := am_ (blk_grown (g := gb144) (o := .cells #[.int .i64 a0_0, .int .i64 a0_1, .int .i64 a0_2, .int .i64 a0_3, .int .i64 a0_4, .bool a0_5, .slice A0_6 l0_6.length c0_6, .slice A0_7 l0_7.length c0_7, .bool a0_8, .int .i64 a0_9] 41 (0, 0)) (by (with_reducible repeat (first | refine d1_ ?_ _ | refine d2_ ?_ | refine d3_ ?_ _)); exact BK144.out) hg (Kd.R_ne HO_3.out BK144.out (by decide))); replace HO172 := am_ (Kd.R_after (ok := (fun _ => True)) (by (with_reducible repeat (first | apply r1_ | apply r2_ | apply r3_)); exact HO172.out) hg hat); replace HB := am_ (hb); have HO175 := am_ (ho); clear HO_3; clear ho hb hg hat))
            go_meet
            case rel => exact ⟨_, (y173), H', ⟨by have := HJ4.out; have := HJ24.out; have := HJ29.out; first | omega | exact Nat.le_refl _⟩, ⟨by (with_reducible repeat (first | apply r1_ | apply r2_ | apply r3_)); exact Kd.R_mono HO175.out (fun _ hk => trivial)⟩, ⟨by (with_reducible repeat (first | refine d1_ ?_ _ | refine d2_ ?_ | refine d3_ ?_ _)); exact BK144.out⟩, ⟨by repeat (first | (with_reducible first | exact HB.out | apply b1_ | apply b2_ | apply b3_ | refine b4_ ?_ GE144.out) | exact HB.out)⟩⟩
          rw [if_neg c46] at H
          exact absurd H (by simp)
        rw [if_neg c44] at H
        have c44b0 : decide (0 < (l0_7.length : Int)) = false := decide_eq_false c44
        have c44b1 : decide (0 < l0_7.length) = false := decide_eq_false (by omega)
        clear c44
        (first | rw [c44b0] | rw [c44b1] | rw [c44b2] | (simp only [i64_w, i32_w]; rw [c44b0]) | (simp only [i64_w, i32_w]; rw [c44b1]) | skip)
        have H' := am_ H
        clear H
        go_wp2
        go_meet
        case rel => exact ⟨_, (x3_29), H', ⟨by have := HJ4.out; have := HJ24.out; have := HJ29.out; first | omega | exact Nat.le_refl _⟩, ⟨by (with_reducible repeat (first | apply r1_ | apply r2_ | apply r3_)); exact HO_3.out⟩, ⟨by (with_reducible repeat (first | refine d1_ ?_ _ | refine d2_ ?_ | refine d3_ ?_ _)); exact BK144.out⟩, ⟨by repeat (first | (with_reducible first | exact HB.out | apply b1_ | apply b2_ | apply b3_ | refine b4_ ?_ GE144.out) | exact HB.out)⟩⟩
       case rest =>
        clear HC42
        try clear c1
        try clear c2
        try clear p2
        try clear c3
        try clear hcv3
        try clear c4
        try clear c14
        try clear c14b0
        try clear c14b1
        try clear c14b2
        try clear c17
        try clear c18
        try clear c20
        try clear c27
        try clear c28
        try clear c32
        try clear c32b0
        try clear c32b1
        try clear c32b2
        try clear c33
        try clear c34
        try clear hcv36
        try clear c44
        try clear c44b0
        try clear c44b1
        try clear c44b2
        try clear c46
        try clear hcz13_0 hcz13_1 hcz13_2 hcz13_3 hcz13_4 hcz13_5 hcz13_6 hcz13_7 hcz13_8 hcz13_9 hfz13_0 hfz13_1 hfz13_2 hfz13_3 hfz13_4 hfz13_5 hfz13_6 hfz13_7 hfz13_8 hfz13_9
        try clear hcz26_0 hcz26_1 hcz26_2 hcz26_3 hcz26_4 hcz26_5 hcz26_6 hcz26_7 hcz26_8 hcz26_9 hfz26_0 hfz26_1 hfz26_2 hfz26_3 hfz26_4 hfz26_5 hfz26_6 hfz26_7 hfz26_8 hfz26_9
        try clear hcz31_0 hcz31_1 hcz31_2 hcz31_3 hcz31_4 hcz31_5 hcz31_6 hcz31_7 hcz31_8 hcz31_9 hfz31_0 hfz31_1 hfz31_2 hfz31_3 hfz31_4 hfz31_5 hfz31_6 hfz31_7 hfz31_8 hfz31_9
        try clear hcz35_0 hcz35_1 hcz35_2 hcz35_3 hcz35_4 hcz35_5 hcz35_6 hcz35_7 hcz35_8 hcz35_9 hfz35_0 hfz35_1 hfz35_2 hfz35_3 hfz35_4 hfz35_5 hfz35_6 hfz35_7 hfz35_8 hfz35_9
        try clear hcz43_0 hcz43_1 hcz43_2 hcz43_3 hcz43_4 hcz43_5 hcz43_6 hcz43_7 hcz43_8 hcz43_9 hfz43_0 hfz43_1 hfz43_2 hfz43_3 hfz43_4 hfz43_5 hfz43_6 hfz43_7 hfz43_8 hfz43_9
        try clear hcz47_0 hcz47_1 hcz47_2 hcz47_3 hcz47_4 hcz47_5 hcz47_6 hcz47_7 hcz47_8 hcz47_9 hfz47_0 hfz47_1 hfz47_2 hfz47_3 hfz47_4 hfz47_5 hfz47_6 hfz47_7 hfz47_8 hfz47_9
        try clear p2
        obtain ⟨kq, x3_41, HA, HJ41, HO_3, BK144, HB⟩ := hcut
        cases kq with
        | zero => exact absurd HA.out (by simp [script_Tell.j3])
        | succ kj41 =>
         have H := HA.out
         clear HA
         simp only [script_Tell.j3] at H
         have H' := am_ H
         clear H
         obtain ⟨⟨hcz53_0, hcz53_1, hcz53_2, hcz53_3, hcz53_4, hcz53_5, hcz53_6, hcz53_7, hcz53_8, hcz53_9⟩, hfz53_0, hfz53_1, hfz53_2, hfz53_3, hfz53_4, hfz53_5, hfz53_6, hfz53_7, hfz53_8, hfz53_9⟩ := script_Tell.c144 BK144.out
         go_wp2
         go_loopg [3, 61] kj41 (fun kq v3 v61 w' => ∃ (x3_5 : List ByteArray) (x61_5 : Int), v61 = .int .i64 x61_5 ∧ Aside0 (script_Tell.l0 kq x3_5 l0_7 (l0_7.length : Int) x61_5 a0_0 a0_1 a0_2 a0_3 a0_4 a0_5 l0_6 l0_7 a0_8 a0_9 = some r) ∧ Aside0 (kq ≤ kj41) ∧ Aside0 (Kd.R Kd.string 9 w' w.heap.size (fun _ => True) v3 x3_5) ∧ Aside0 (w'.heap[gb144]? = some (.cells #[.int .i64 a0_0, .int .i64 a0_1, .int .i64 a0_2, .int .i64 a0_3, .int .i64 a0_4, .bool a0_5, (.slice A0_6 l0_6.length c0_6), (.slice A0_7 l0_7.length c0_7), .bool a0_8, .int .i64 a0_9] 41 (0, 0))) ∧ Aside0 (Below w.heap.size w w'))
         case atStart => exact ⟨(x3_41), (0), (by first | rfl | (simp; done) | (simp [*]; done)), H', ⟨Nat.le_refl _⟩, ⟨by (with_reducible repeat (first | apply r1_ | apply r2_ | apply r3_)); exact HO_3.out⟩, ⟨by (with_reducible repeat (first | refine d1_ ?_ _ | refine d2_ ?_ | refine d3_ ?_ _)); exact BK144.out⟩, ⟨by repeat (first | (with_reducible first | exact HB.out | apply b1_ | apply b2_ | apply b3_ | refine b4_ ?_ GE144.out) | exact HB.out)⟩⟩
         case round =>
          clear H'
          try clear c1
          try clear c2
          try clear p2
          try clear c3
          try clear hcv3
          try clear c4
          try clear c14
          try clear c14b0
          try clear c14b1
          try clear c14b2
          try clear c17
          try clear c18
          try clear c20
          try clear c27
          try clear c28
          try clear c32
          try clear c32b0
          try clear c32b1
          try clear c32b2
          try clear c33
          try clear c34
          try clear hcv36
          try clear c44
          try clear c44b0
          try clear c44b1
          try clear c44b2
          try clear c46
          try clear hcz13_0 hcz13_1 hcz13_2 hcz13_3 hcz13_4 hcz13_5 hcz13_6 hcz13_7 hcz13_8 hcz13_9 hfz13_0 hfz13_1 hfz13_2 hfz13_3 hfz13_4 hfz13_5 hfz13_6 hfz13_7 hfz13_8 hfz13_9
          try clear hcz26_0 hcz26_1 hcz26_2 hcz26_3 hcz26_4 hcz26_5 hcz26_6 hcz26_7 hcz26_8 hcz26_9 hfz26_0 hfz26_1 hfz26_2 hfz26_3 hfz26_4 hfz26_5 hfz26_6 hfz26_7 hfz26_8 hfz26_9
          try clear hcz31_0 hcz31_1 hcz31_2 hcz31_3 hcz31_4 hcz31_5 hcz31_6 hcz31_7 hcz31_8 hcz31_9 hfz31_0 hfz31_1 hfz31_2 hfz31_3 hfz31_4 hfz31_5 hfz31_6 hfz31_7 hfz31_8 hfz31_9
          try clear hcz35_0 hcz35_1 hcz35_2 hcz35_3 hcz35_4 hcz35_5 hcz35_6 hcz35_7 hcz35_8 hcz35_9 hfz35_0 hfz35_1 hfz35_2 hfz35_3 hfz35_4 hfz35_5 hfz35_6 hfz35_7 hfz35_8 hfz35_9
          try clear hcz43_0 hcz43_1 hcz43_2 hcz43_3 hcz43_4 hcz43_5 hcz43_6 hcz43_7 hcz43_8 hcz43_9 hfz43_0 hfz43_1 hfz43_2 hfz43_3 hfz43_4 hfz43_5 hfz43_6 hfz43_7 hfz43_8 hfz43_9
          try clear hcz47_0 hcz47_1 hcz47_2 hcz47_3 hcz47_4 hcz47_5 hcz47_6 hcz47_7 hcz47_8 hcz47_9 hfz47_0 hfz47_1 hfz47_2 hfz47_3 hfz47_4 hfz47_5 hfz47_6 hfz47_7 hfz47_8 hfz47_9
          try clear hcz53_0 hcz53_1 hcz53_2 hcz53_3 hcz53_4 hcz53_5 hcz53_6 hcz53_7 hcz53_8 hcz53_9 hfz53_0 hfz53_1 hfz53_2 hfz53_3 hfz53_4 hfz53_5 hfz53_6 hfz53_7 hfz53_8 hfz53_9
          try clear p2
          obtain ⟨x3_5, x61_5, rfl, HA, HK5, HO_3, BK144, HB⟩ := hrel
          cases gk with
          | zero => exact absurd HA.out (by simp [script_Tell.l0])
          | succ k5 =>
           have H := HA.out
           clear HA
           simp only [script_Tell.l0] at H
           by_cases c54 : x61_5 < (l0_7.length : Int)
           · rw [if_pos c54] at H
             have c54b0 : decide (x61_5 < (l0_7.length : Int)) = true := decide_eq_true c54
             clear c54
             by_cases c55 : 0 ≤ x61_5
             · rw [if_pos c55] at H
               have c55b0 : decide (0 ≤ x61_5) = true := decide_eq_true c55
               clear c55
               by_cases c56 : x61_5 < (l0_7.length : Int)
               · rw [if_pos c56] at H
                 have c56b0 : decide (x61_5 < (l0_7.length : Int)) = true := decide_eq_true c56
                 clear c56
                 replace H := Option.bind_eq_some_iff.mp H
                 obtain ⟨t178, A570, H⟩ := H
                 have A57 := am_ A570
                 clear A570
                 replace H := Option.bind_eq_some_iff.mp H
                 obtain ⟨t179, A580, H⟩ := H
                 have A58 := am_ A580
                 clear A580
                 obtain ⟨y180, hy180⟩ : ∃ y_ : List ByteArray, y_ = (([t178, t179] : List ByteArray)) := ⟨_, rfl⟩
                 replace H : (if x3_5.length + y180.length < 8796093022208 then (script_Tell.l0 k5 (x3_5 ++ y180) l0_7 (l0_7.length : Int) (wrap64 (x61_5 + 1)) a0_0 a0_1 a0_2 a0_3 a0_4 a0_5 l0_6 l0_7 a0_8 a0_9) else (none)) = some r := by first | (rw [hy180]; with_reducible exact H) | (have H2_ := (Option.bind_some _ _).symm.trans H; rw [hy180]; with_reducible exact H2_) | (have H2_ := (Option.bind_some _ _).symm.trans H; with_reducible exact H2_) | with_reducible exact H | (rw [hy180]; exact H) | exact H
                 have Ny180 := am_ hy180
                 clear hy180
                 by_cases c59 : x3_5.length + y180.length < 8796093022208
                 · rw [if_pos c59] at H
                   have LMc59 := am_ c59
                   clear c59
                   obtain ⟨y183, hy183⟩ : ∃ y_ : List ByteArray, y_ = (x3_5 ++ y180) := ⟨_, rfl⟩
                   replace H : (script_Tell.l0 k5 y183 l0_7 (l0_7.length : Int) (wrap64 (x61_5 + 1)) a0_0 a0_1 a0_2 a0_3 a0_4 a0_5 l0_6 l0_7 a0_8 a0_9) = some r := by first | (rw [hy183]; with_reducible exact H) | (have H2_ := (Option.bind_some _ _).symm.trans H; rw [hy183]; with_reducible exact H2_) | (have H2_ := (Option.bind_some _ _).symm.trans H; with_reducible exact H2_) | with_reducible exact H | (rw [hy183]; exact H) | exact H
                   have Ny183 := am_ hy183
                   clear hy183
                   have H' := am_ H
                   clear H
                   have p176 : 0 ≤ (x61_5 : Int) := of_decide_eq_true (by first | (with_reducible assumption) | assumption)
                   have q176 : x61_5 < (l0_7.length : Int) := of_decide_eq_true (by first | (with_reducible assumption) | assumption)
                   obtain ⟨ad176, A176_1, c176_1, e176, hx176_0, hx176_1, hl176_1, hi176_1⟩ := at_T62 HR0_7.out x61_5 p176 q176
                   cases e176
                   replace hx176_0 := (HB.out.cell (World.block_lt_of_cell? w _ hx176_0)).trans hx176_0
                   replace hx176_1 := (HB.out.cell (World.block_lt_of_cell? w _ hx176_1)).trans hx176_1
                   have HR176_1 := am_ hi176_1
                   have HC176_1 := am_ hl176_1
                   clear hi176_1 hl176_1
                   replace p176 := eq_true p176
                   replace q176 := eq_true q176
                   try go_wp2_with (first | ((with_reducible refine gate_dst (N := 5) rfl ?_); refine box_event ?hg (N := 5) ?hd (cs := #[.string (⟨#[]⟩ : ByteArray), .slice none 0 0]) (t := 62) ?hr ?_; (case hd => rfl); (case hg => rfl); (case hr => first | (go_simp; done) | (go_simp; rfl)); intro gb177 hg w60 hbox hb; replace HO_3 := am_ (Kd.R_below (by (with_reducible repeat (first | apply r1_ | apply r2_ | apply r3_)); exact HO_3.out) hb); have BK177 := am_ (hbox); have GW177 := am_ ((by rw [hg]; exact (below_size (by repeat (first | (with_reducible first | exact HB.out | apply b1_ | apply b2_ | apply b3_ | refine b4_ ?_ GE144.out) | exact HB.out))) : w.heap.size ≤ gb177)); have GE177 := am_ ((by rw [hg]; exact (below_size (by repeat (first | (with_reducible first | exact HB.out | apply b1_ | apply b2_ | apply b3_ | refine b4_ ?_ GE144.out) | exact HB.out))) : w.heap.size ≤ gb177)); replace HB := am_ (below_step (by repeat (first | (with_reducible first | exact HB.out | apply b1_ | apply b2_ | apply b3_ | refine b4_ ?_ GE144.out) | exact HB.out)) hb); have NB144_177 := am_ ((by rw [hg]; exact Nat.ne_of_lt (blk_lt (by (with_reducible repeat (first | refine d1_ ?_ _ | refine d2_ ?_ | refine d3_ ?_ _)); exact BK144.out)) : gb144 ≠ gb177)); have NB177_144 := am_ ((by rw [hg]; exact Nat.ne_of_gt (blk_lt (by (with_reducible repeat (first | refine d1_ ?_ _ | refine d2_ ?_ | refine d3_ ?_ _)); exact BK144.out)) : gb177 ≠ gb144)); replace BK144 := am_ (blk_below (by (with_reducible repeat (first | refine d1_ ?_ _ | refine d2_ ?_ | refine d3_ ?_ _)); exact BK144.out) hb); clear hb hbox hg; have hnb61 := NB177_144.out; have hnc61 := NB144_177.out; have hcz62_0 : w60.cell? ⟨gb177, 0, none⟩ = some (.string (⟨#[]⟩ : ByteArray)) := (blk_cell BK177.out 0).trans rfl; have hcz62_1 : w60.cell? ⟨gb177, 1, none⟩ = some (.slice none 0 0) := (blk_cell BK177.out 1).trans rfl; have hfz62_0 := blk_frozen BK177.out 0; have hfz62_1 := blk_frozen BK177.out 1; obtain ⟨Ao63, co63, eo63⟩ := Kd.R_slice HO_3.out; subst eo63))
                   have n0_ : Aside0 (Kd.R Kd.string 9 ((w60.setCell ⟨gb177, 0, none⟩ (.string ((rd_T62 l0_7 x61_5).f0))).setCell ⟨gb177, 1, none⟩ (.slice A176_1 ((rd_T62 l0_7 x61_5).f1).length c176_1)) w.heap.size (fun _ => True) (.slice Ao63 x3_5.length co63) x3_5) := ⟨by (with_reducible repeat (first | apply r1_ | apply r2_ | apply r3_)); exact Kd.R_mono (Kd.R_far (p := ⟨gb177, 1, none⟩) (Kd.R_far (p := ⟨gb177, 0, none⟩) (Kd.R_types HO_3.out BK177.out (by decide)) (fun _ hk => hk.2) (.string ((rd_T62 l0_7 x61_5).f0))) (fun _ hk => hk.2) (.slice A176_1 ((rd_T62 l0_7 x61_5).f1).length c176_1)) (fun _ hk => trivial)⟩
                   have n1_ : Aside0 (((w60.setCell ⟨gb177, 0, none⟩ (.string ((rd_T62 l0_7 x61_5).f0))).setCell ⟨gb177, 1, none⟩ (.slice A176_1 ((rd_T62 l0_7 x61_5).f1).length c176_1)).heap[gb144]? = some (.cells #[.int .i64 a0_0, .int .i64 a0_1, .int .i64 a0_2, .int .i64 a0_3, .int .i64 a0_4, .bool a0_5, .slice A0_6 l0_6.length c0_6, .slice (some ad176) l0_7.length c0_7, .bool a0_8, .int .i64 a0_9] 41 (0, 0))) := ⟨by (with_reducible repeat (first | refine d1_ ?_ _ | refine d2_ ?_ | refine d3_ ?_ _)); refine blk_far ?_ NB144_177.out _; (with_reducible repeat (first | refine d1_ ?_ _ | refine d2_ ?_ | refine d3_ ?_ _)); refine blk_far ?_ NB144_177.out _; (with_reducible repeat (first | refine d1_ ?_ _ | refine d2_ ?_ | refine d3_ ?_ _)); exact BK144.out⟩
                   have n2_ : Aside0 (((w60.setCell ⟨gb177, 0, none⟩ (.string ((rd_T62 l0_7 x61_5).f0))).setCell ⟨gb177, 1, none⟩ (.slice A176_1 ((rd_T62 l0_7 x61_5).f1).length c176_1)).heap[gb177]? = some (.cells #[.string ((rd_T62 l0_7 x61_5).f0), .slice A176_1 ((rd_T62 l0_7 x61_5).f1).length c176_1] 62 (0, 0))) := ⟨by (with_reducible repeat (first | refine d1_ ?_ _ | refine d2_ ?_ | refine d3_ ?_ _)); refine blk_put (cs := #[.string ((rd_T62 l0_7 x61_5).f0), .slice none 0 0]) ?_ 1 _ rfl; (with_reducible repeat (first | refine d1_ ?_ _ | refine d2_ ?_ | refine d3_ ?_ _)); refine blk_put (cs := #[.string (⟨#[]⟩ : ByteArray), .slice none 0 0]) ?_ 0 _ rfl; (with_reducible repeat (first | refine d1_ ?_ _ | refine d2_ ?_ | refine d3_ ?_ _)); exact BK177.out⟩
                   have n3_ : Aside0 (Below w.heap.size w ((w60.setCell ⟨gb177, 0, none⟩ (.string ((rd_T62 l0_7 x61_5).f0))).setCell ⟨gb177, 1, none⟩ (.slice A176_1 ((rd_T62 l0_7 x61_5).f1).length c176_1))) := ⟨by repeat (first | (with_reducible first | exact HB.out | apply b1_ | apply b2_ | apply b3_ | refine b4_ ?_ GE144.out | refine b4_ ?_ GE177.out) | exact HB.out)⟩
                   (try clear HO_3)
                   (try clear BK144)
                   (try clear BK177)
                   (try clear HB)
                   generalize ((w60.setCell ⟨gb177, 0, none⟩ (.string ((rd_T62 l0_7 x61_5).f0))).setCell ⟨gb177, 1, none⟩ (.slice A176_1 ((rd_T62 l0_7 x61_5).f1).length c176_1)) = w64 at n0_ n1_ n2_ n3_ ⊢
                   have HO_3 := n0_
                   have BK144 := n1_
                   have BK177 := n2_
                   have HB := n3_
                   clear n0_ n1_ n2_ n3_
                   replace HO_3 := am_ (r3_ HO_3.out)
                   replace BK144 := am_ (d2_ BK144.out)
                   replace BK177 := am_ (d2_ BK177.out)
                   replace HB := am_ (b3_ HB.out)
                   refine start_ (n := 11) (S := fun w' => w'.cell? ⟨gb177, 0, none⟩ = some (.string ((rd_T62 l0_7 x61_5).f0)) ∧ w'.cell? ⟨gb177, 1, none⟩ = some (.slice A176_1 ((rd_T62 l0_7 x61_5).f1).length c176_1) ∧ (convert 38 9 (.slice A176_1 ((rd_T62 l0_7 x61_5).f1).length c176_1)).run Tryz.prog w' = .ok (.string (strOfNums ((rd_T62 l0_7 x61_5).f1))) w') (ds := []) #[false, false, false, false, false, false, false, false, false, false, false] (by kernel_rfl) rfl rfl ⟨(blk_cell BK177.out 0).trans rfl, (blk_cell BK177.out 1).trans rfl, Kd.C_string (P := Tryz.prog) (A := A176_1) (c := c176_1) Tryz.underlying38 Tryz.underlying5 Tryz.underlying9 (Kd.C_below HR176_1.out HB.out)⟩ (fun hHeld => ?_); refine with_tabW script_Tell.tab13 script_Tell.bits13 (fun HT_ HW_ => ?_)
                   generalize w64.drew = w65 at HO_3 BK144 BK177 HB hHeld ⊢
                   refine pu_ 0 65 (bs_ 11 1) rfl rfl (any_of HT_.out (by kernel_rfl)) rfl (by intro w'; go_simp; with_reducible rfl) (by simp only [Act.put, aS, aZ, aC, i64_w, i32_w]; rfl) (fun _ _ _ h => h) ?_
                   refine pu_ 1 66 (bs_ 11 3) rfl rfl (any_of HT_.out (by kernel_rfl)) rfl (by intro w'; go_simp; with_reducible rfl) (by simp only [Act.put, aS, aZ, aC, i64_w, i32_w]; rfl) (fun _ _ _ h => h) ?_
                   refine pu_ 4 69 (bs_ 11 19) rfl rfl (any_of HT_.out (by kernel_rfl)) rfl (by intro w'; go_simp; with_reducible rfl) (by simp only [Act.put, aS, aZ, aC, i64_w, i32_w]; rfl) (fun _ _ _ h => h) ?_
                   refine ta_ 2 67 (bs_ 11 23) rfl rfl (take_ofW HT_.out HW_.out (by kernel_rfl)) rfl (by rintro w' ⟨s0, s1, s2⟩; go_simp; with_reducible rfl) hHeld (by simp only [Act.put, aS, aZ, aC, i64_w, i32_w]; rfl) (fun _ _ _ h => h) ?_
                   refine ta_ 5 70 (bs_ 11 55) rfl rfl (take_ofW HT_.out HW_.out (by kernel_rfl)) rfl (by rintro w' ⟨s0, s1, s2⟩; go_simp; with_reducible rfl) hHeld (by simp only [Act.put, aS, aZ, aC, i64_w, i32_w]; rfl) (fun _ _ _ h => h) ?_
                   refine ta_ 6 71 (bs_ 11 119) rfl rfl (take_ofW HT_.out HW_.out (by kernel_rfl)) rfl (by rintro w' ⟨s0, s1, s2⟩; go_simp; with_reducible rfl) hHeld (by simp only [Act.put, aS, aZ, aC, i64_w, i32_w]; rfl) (fun _ _ _ h => h) ?_
                   refine one_ (i := 3) (N := some 68) (bs_ 11 127) rfl rfl (one_of HT_.out (by kernel_rfl)) (by decide) (fun K hK => ?_)
                   refine goes_ Tryz.func20 (by kernel_rfl) rfl #[.string ((rd_T62 l0_7 x61_5).f0)] (by rfl) rfl rfl (by (try simp only [aT, aK, aL]); first | done | rfl | (simp only [List.length_drop, List.length_take]; rfl)) ?_
                   with_reducible refine (script_Quote.calls ((rd_T62 l0_7 x61_5).f0) t178 _ ?side1 A57.out).mono ?_
                   (case side1 => exact sc.Env.below HE.out (by repeat (first | (with_reducible first | exact HB.out | apply b1_ | apply b2_ | apply b3_ | refine b4_ ?_ GE144.out | refine b4_ ?_ GE177.out) | exact HB.out)))
                   rintro e w66 ⟨rfl, hb⟩
                   refine ⟨_, rfl, ?_⟩
                   replace HO_3 := am_ (Kd.R_below (by (with_reducible repeat (first | apply r1_ | apply r2_ | apply r3_)); exact HO_3.out) hb)
                   replace BK144 := am_ (blk_below (by (with_reducible repeat (first | refine d1_ ?_ _ | refine d2_ ?_ | refine d3_ ?_ _)); exact BK144.out) hb)
                   replace BK177 := am_ (blk_below (by (with_reducible repeat (first | refine d1_ ?_ _ | refine d2_ ?_ | refine d3_ ?_ _)); exact BK177.out) hb)
                   replace HB := am_ (below_step (by repeat (first | (with_reducible first | exact HB.out | apply b1_ | apply b2_ | apply b3_ | refine b4_ ?_ GE144.out | refine b4_ ?_ GE177.out) | exact HB.out)) hb)
                   (try clear hb)
                   (try clear hk)
                   refine hK.out _ _ ⟨(blk_cell BK177.out 0).trans rfl, (blk_cell BK177.out 1).trans rfl, Kd.C_string (P := Tryz.prog) (A := A176_1) (c := c176_1) Tryz.underlying38 Tryz.underlying5 Tryz.underlying9 (Kd.C_below HR176_1.out HB.out)⟩ (fun hHeld => ?_)
                   clear hK K
                   refine no_ (by simp only [Act.put, aS, aZ, aC, i64_w, i32_w]; rfl) ?_
                   refine one_ (i := 7) (N := some 72) (bs_ 11 255) rfl rfl (one_of HT_.out (by kernel_rfl)) (by decide) (fun K hK => ?_)
                   refine goes_ Tryz.func20 (by kernel_rfl) rfl #[.string (strOfNums ((rd_T62 l0_7 x61_5).f1))] (by rfl) rfl rfl (by (try simp only [aT, aK, aL]); first | done | rfl | (simp only [List.length_drop, List.length_take]; rfl)) ?_
                   with_reducible refine (script_Quote.calls (strOfNums ((rd_T62 l0_7 x61_5).f1)) t179 _ ?side1 A58.out).mono ?_
                   (case side1 => exact sc.Env.below HE.out (by repeat (first | (with_reducible first | exact HB.out | apply b1_ | apply b2_ | apply b3_ | refine b4_ ?_ GE144.out | refine b4_ ?_ GE177.out) | exact HB.out)))
                   rintro e w68 ⟨rfl, hb⟩
                   refine ⟨_, rfl, ?_⟩
                   replace HO_3 := am_ (Kd.R_below (by (with_reducible repeat (first | apply r1_ | apply r2_ | apply r3_)); exact HO_3.out) hb)
                   replace BK144 := am_ (blk_below (by (with_reducible repeat (first | refine d1_ ?_ _ | refine d2_ ?_ | refine d3_ ?_ _)); exact BK144.out) hb)
                   replace BK177 := am_ (blk_below (by (with_reducible repeat (first | refine d1_ ?_ _ | refine d2_ ?_ | refine d3_ ?_ _)); exact BK177.out) hb)
                   replace HB := am_ (below_step (by repeat (first | (with_reducible first | exact HB.out | apply b1_ | apply b2_ | apply b3_ | refine b4_ ?_ GE144.out | refine b4_ ?_ GE177.out) | exact HB.out)) hb)
                   (try clear hb)
                   (try clear hk)
                   refine hK.out _ _ ⟨(blk_cell BK177.out 0).trans rfl, (blk_cell BK177.out 1).trans rfl, Kd.C_string (P := Tryz.prog) (A := A176_1) (c := c176_1) Tryz.underlying38 Tryz.underlying5 Tryz.underlying9 (Kd.C_below HR176_1.out HB.out)⟩ (fun hHeld => ?_)
                   clear hK K
                   refine no_ (by simp only [Act.put, aS, aZ, aC, i64_w, i32_w]; rfl) ?_
                   refine one_ (i := 8) (N := some 73) (bs_ 11 511) rfl rfl (one_of HT_.out (by kernel_rfl)) (by decide) (fun K hK => ?_)
                   refine Kd.R_lit_step Kd.string _ 9 ?hg (N := 73) ?hd (xs := ([t178, t179] : List ByteArray)) (inner := [.string t178, .string t179]) (ok := fun _ => True) (okp := fun _ => True) ?hr ?hp (fun _ hk => hk) trivial (Below.refl _ _) (Nat.le_refl _) (by simp) ?_; (case hd => rfl); (case hg => rfl); (case hr => first | (go_simp; done) | (go_simp; rfl)); (case hp => exact (Reps.one (show Kd.M Kd.string _ _ _ t178 [.string t178] from rfl) (Reps.one (show Kd.M Kd.string _ _ _ t179 [.string t179] from rfl) (Reps.none _ _))))
                   intro v181 w69 ho70 hb hg_ hnew_
                   clear hg_ hnew_
                   (first | rw [← Ny180.out] at ho70 | (simp only [Int.reduceToNat] at ho70; rw [← Ny180.out] at ho70))
                   have HO182 := am_ (Kd.R_lower (Kd.R_new' ho70 (Kd.R_lt (by (with_reducible repeat (first | apply r1_ | apply r2_ | apply r3_)); exact HO_3.out))) (below_size (by repeat (first | (with_reducible first | exact HB.out | apply b1_ | apply b2_ | apply b3_ | refine b4_ ?_ GE144.out | refine b4_ ?_ GE177.out) | exact HB.out))))
                   replace HO_3 := am_ (Kd.R_elder' (by (with_reducible repeat (first | apply r1_ | apply r2_ | apply r3_)); exact HO_3.out) (Kd.R_base ho70) hb)
                   replace BK144 := am_ (blk_below (by (with_reducible repeat (first | refine d1_ ?_ _ | refine d2_ ?_ | refine d3_ ?_ _)); exact BK144.out) hb)
                   replace BK177 := am_ (blk_below (by (with_reducible repeat (first | refine d1_ ?_ _ | refine d2_ ?_ | refine d3_ ?_ _)); exact BK177.out) hb)
                   replace HB := am_ (below_step (by repeat (first | (with_reducible first | exact HB.out | apply b1_ | apply b2_ | apply b3_ | refine b4_ ?_ GE144.out | refine b4_ ?_ GE177.out) | exact HB.out)) hb)
                   clear hb ho70
                   obtain ⟨Ao72, co72, eo72⟩ := Kd.R_slice HO182.out
                   (first | subst eo72 | (injection eo72 with f1_ f2_ f3_; have f4_ := f1_.symm; have f5_ := f3_.symm; clear f1_ f2_ f3_; subst f4_; subst f5_))
                   refine hK.out _ _ ⟨(blk_cell BK177.out 0).trans rfl, (blk_cell BK177.out 1).trans rfl, Kd.C_string (P := Tryz.prog) (A := A176_1) (c := c176_1) Tryz.underlying38 Tryz.underlying5 Tryz.underlying9 (Kd.C_below HR176_1.out HB.out)⟩ (fun hHeld => ?_)
                   clear hK K
                   refine no_ (by simp only [Act.put, aS, aZ, aC, i64_w, i32_w]; rfl) ?_
                   refine one_ (i := 9) (N := some 74) (bs_ 11 1023) rfl rfl (one_of HT_.out (by kernel_rfl)) (by decide) (fun K hK => ?_)
                   refine Kd.R_append_rows_step Kd.string (w0 := w) w.heap.size (by rfl) (.tmp 65) (.tmp 73) 71 9 (.string ⟨#[]⟩) 16 rfl Tryz.underlying71 info9 rfl (by decide) (by omega) (.slice Ao63 x3_5.length co63) x3_5 y180 _ _ _ (fun k_ => some k_ ≠ (.slice Ao72 y180.length co72 : Value).ownBlock) (fun _ => False) rfl rfl ?aO ?aR (fun _ _ h => h) (fun _ h => h.elim) ?aF ?aB ?aS ?aL ?_
                   (case aR => repeat (first | exact (Kd.R_reads' HO182.out).2.2 | (with_reducible refine Kd.C_alloc ?_ _) | (with_reducible refine Kd.C_drewN ?_ _) | (with_reducible refine Kd.C_drew ?_)))
                   (case aB => exact (by repeat (first | (with_reducible first | exact HB.out | apply b1_ | apply b2_ | apply b3_ | refine b4_ ?_ GE144.out | refine b4_ ?_ GE177.out) | exact HB.out)))
                   (case aF => exact (fun k_ hk => Kd.fresh' (Kd.R_lt (by (with_reducible repeat (first | apply r1_ | apply r2_ | apply r3_)); exact HO182.out)) k_ hk))
                   (case aO => exact (by (with_reducible repeat (first | apply r1_ | apply r2_ | apply r3_)); exact Kd.R_mono HO_3.out (fun _ hk => hk.2)))
                   (case aS => exact (below_size (by repeat (first | (with_reducible first | exact HB.out | apply b1_ | apply b2_ | apply b3_ | refine b4_ ?_ GE144.out | refine b4_ ?_ GE177.out) | exact HB.out))))
                   (case aL => have := LMc59.out; omega)
                   intro v184 w71 ho hb hg hat
                   rw [← Ny183.out] at ho
                   replace BK144 := am_ (blk_grown (g := gb144) (o := .cells #[.int .i64 a0_0, .int .i64 a0_1, .int .i64 a0_2, .int .i64 a0_3, .int .i64 a0_4, .bool a0_5, .slice A0_6 l0_6.length c0_6, .slice (some ad176) l0_7.length c0_7, .bool a0_8, .int .i64 a0_9] 41 (0, 0)) (by (with_reducible repeat (first | refine d1_ ?_ _ | refine d2_ ?_ | refine d3_ ?_ _)); exact BK144.out) hg (Kd.R_ne HO_3.out BK144.out (by decide)))
                   replace BK177 := am_ (blk_grown (g := gb177) (o := .cells #[.string ((rd_T62 l0_7 x61_5).f0), .slice A176_1 ((rd_T62 l0_7 x61_5).f1).length c176_1] 62 (0, 0)) (by (with_reducible repeat (first | refine d1_ ?_ _ | refine d2_ ?_ | refine d3_ ?_ _)); exact BK177.out) hg (Kd.R_ne HO_3.out BK177.out (by decide)))
                   replace HO182 := am_ (Kd.R_after (ok := (fun _ => True)) (by (with_reducible repeat (first | apply r1_ | apply r2_ | apply r3_)); exact HO182.out) hg hat)
                   replace HB := am_ (hb)
                   have HO185 := am_ (ho)
                   clear HO_3
                   clear ho hb hg hat
                   refine hK.out _ _ ⟨(blk_cell BK177.out 0).trans rfl, (blk_cell BK177.out 1).trans rfl, Kd.C_string (P := Tryz.prog) (A := A176_1) (c := c176_1) Tryz.underlying38 Tryz.underlying5 Tryz.underlying9 (Kd.C_below HR176_1.out HB.out)⟩ (fun hHeld => ?_)
                   clear hK K
                   refine no_ (by simp only [Act.put, aS, aZ, aC, i64_w, i32_w]; rfl) ?_
                   refine pu_ 10 3 (bs_ 11 2047) rfl rfl (any_of HT_.out (by kernel_rfl)) rfl (by intro w'; go_simp; with_reducible rfl) (by simp only [Act.put, aS, aZ, aC, i64_w, i32_w]; rfl) (fun _ _ _ h => h) ?_
                   refine done_ (done_of HT_.out (by kernel_rfl)) ?_
                   try go_wp2
                   go_roundg k5
                   case measure => have := HJ4.out; have := HJ24.out; have := HJ29.out; have := HJ41.out; have := HK5.out; omega
                   case rel => exact ⟨(y183), (wrap64 (x61_5 + 1)), (by first | rfl | (simp; done) | (simp [*]; done)), H', ⟨by have := HJ4.out; have := HJ24.out; have := HJ29.out; have := HJ41.out; have := HK5.out; omega⟩, ⟨by (with_reducible repeat (first | apply r1_ | apply r2_ | apply r3_)); exact Kd.R_mono HO185.out (fun _ hk => trivial)⟩, ⟨by (with_reducible repeat (first | refine d1_ ?_ _ | refine d2_ ?_ | refine d3_ ?_ _)); exact BK144.out⟩, ⟨by repeat (first | (with_reducible first | exact HB.out | apply b1_ | apply b2_ | apply b3_ | refine b4_ ?_ GE144.out | refine b4_ ?_ GE177.out) | exact HB.out)⟩⟩
                 rw [if_neg c59] at H
                 exact absurd H (by simp)
               rw [if_neg c56] at H
               exact absurd H (by simp)
             rw [if_neg c55] at H
             exact absurd H (by simp)
           rw [if_neg c54] at H
           have c54b0 : decide (x61_5 < (l0_7.length : Int)) = false := decide_eq_false c54
           clear c54
           have HC73 := am_ H
           clear H
           obtain ⟨⟨hcz74_0, hcz74_1, hcz74_2, hcz74_3, hcz74_4, hcz74_5, hcz74_6, hcz74_7, hcz74_8, hcz74_9⟩, hfz74_0, hfz74_1, hfz74_2, hfz74_3, hfz74_4, hfz74_5, hfz74_6, hfz74_7, hfz74_8, hfz74_9⟩ := script_Tell.c144 BK144.out
           go_upto_if 77 with (fail)
           go_cut [3] (fun v3 wc => ∃ (kq : Nat) (x3_72 : List ByteArray), Aside0 (script_Tell.j5 kq x3_72 a0_0 a0_1 a0_2 a0_3 a0_4 a0_5 l0_6 l0_7 a0_8 a0_9 = some r) ∧ Aside0 (kq ≤ k5) ∧ Aside0 (Kd.R Kd.string 9 wc w.heap.size (fun _ => True) v3 x3_72) ∧ Aside0 (wc.heap[gb144]? = some (.cells #[.int .i64 a0_0, .int .i64 a0_1, .int .i64 a0_2, .int .i64 a0_3, .int .i64 a0_4, .bool a0_5, (.slice A0_6 l0_6.length c0_6), (.slice A0_7 l0_7.length c0_7), .bool a0_8, .int .i64 a0_9] 41 (0, 0))) ∧ Aside0 (Below w.heap.size w wc))
           case first =>
            have H := HC73.out
            clear HC73
            by_cases c75 : a0_8 = true
            · subst c75
              have H1 : (if x3_5.length < 8796093022208 then (script_Tell.j5 k5 (x3_5 ++ [(⟨#[109, 111, 114, 101]⟩ : ByteArray)]) a0_0 a0_1 a0_2 a0_3 a0_4 a0_5 l0_6 l0_7 true a0_9) else (none)) = some r := by rw [if_pos rfl] at H; exact H
              clear H
              have H := H1
              clear H1
              by_cases c76 : x3_5.length < 8796093022208
              · rw [if_pos c76] at H
                have LMc76 := am_ c76
                clear c76
                obtain ⟨y186, hy186⟩ : ∃ y_ : List ByteArray, y_ = (x3_5 ++ [(⟨#[109, 111, 114, 101]⟩ : ByteArray)]) := ⟨_, rfl⟩
                replace H : (script_Tell.j5 k5 y186 a0_0 a0_1 a0_2 a0_3 a0_4 a0_5 l0_6 l0_7 true a0_9) = some r := by first | (rw [hy186]; with_reducible exact H) | (have H2_ := (Option.bind_some _ _).symm.trans H; rw [hy186]; with_reducible exact H2_) | (have H2_ := (Option.bind_some _ _).symm.trans H; with_reducible exact H2_) | with_reducible exact H | (rw [hy186]; exact H) | exact H
                have Ny186 := am_ hy186
                clear hy186
                have H' := am_ H
                clear H
                go_wp2_with (first | ((with_reducible refine gate_builtin (b := .append) (xs := #[.tmp 78, .tmp 79]) rfl ?_); at_builtin; refine Kd.R_append Kd.string (w0 := w) w.heap.size rfl (.tmp 78) (.tmp 79) 71 9 (.string ⟨#[]⟩) 16 rfl Tryz.underlying71 info9 rfl (by decide) (by omega) u3 x3_5 (⟨#[109, 111, 114, 101]⟩ : ByteArray) [.string (⟨#[109, 111, 114, 101]⟩ : ByteArray)] (fun _ => True) (fun _ => False) rfl rfl ?aP (fun _ hk => hk.elim) ?aF ?aO ?aB ?aS ?aL ?_; (case aP => exact rfl); (case aB => exact (by repeat (first | (with_reducible first | exact HB.out | apply b1_ | apply b2_ | apply b3_ | refine b4_ ?_ GE144.out) | exact HB.out))); (case aF => exact (fun _ _ => trivial)); (case aO => exact (by (with_reducible repeat (first | apply r1_ | apply r2_ | apply r3_)); exact HO_3.out)); (case aS => exact (below_size (by repeat (first | (with_reducible first | exact HB.out | apply b1_ | apply b2_ | apply b3_ | refine b4_ ?_ GE144.out) | exact HB.out)))); (case aL => have := LMc76.out; omega); intro v187 w77 ho hb hg hat; rw [← Ny186.out] at ho; replace BK144 := am_ (blk_grown (g := gb144) (o := .cells #[.int .i64 a0_0, .int .i64 a0_1, .int .i64 a0_2, .int .i64 a0_3, .int .i64 a0_4, .bool a0_5, .slice A0_6 l0_6.length c0_6, .slice A0_7 l0_7.length c0_7, .bool true, .int .i64 a0_9] 41 (0, 0)) (by (with_reducible repeat (first | refine d1_ ?_ _ | refine d2_ ?_ | refine d3_ ?_ _)); exact BK144.out) hg (Kd.R_ne HO_3.out BK144.out (by decide))); replace HB := am_ (hb); have HO188 := am_ (ho); clear HO_3; clear ho hb hg hat))
                go_meet
                case rel => exact ⟨_, (y186), H', ⟨by have := HJ4.out; have := HJ24.out; have := HJ29.out; have := HJ41.out; have := HK5.out; first | omega | exact Nat.le_refl _⟩, ⟨by (with_reducible repeat (first | apply r1_ | apply r2_ | apply r3_)); exact HO188.out⟩, ⟨by (with_reducible repeat (first | refine d1_ ?_ _ | refine d2_ ?_ | refine d3_ ?_ _)); exact BK144.out⟩, ⟨by repeat (first | (with_reducible first | exact HB.out | apply b1_ | apply b2_ | apply b3_ | refine b4_ ?_ GE144.out) | exact HB.out)⟩⟩
              rw [if_neg c76] at H
              exact absurd H (by simp)
            replace c75 := Bool.eq_false_iff.mpr c75
            subst c75
            have H1 : (script_Tell.j5 k5 x3_5 a0_0 a0_1 a0_2 a0_3 a0_4 a0_5 l0_6 l0_7 false a0_9) = some r := by rw [if_neg (show ¬ (false = true) by decide)] at H; exact H
            clear H
            have H := H1
            clear H1
            have H' := am_ H
            clear H
            go_wp2
            go_meet
            case rel => exact ⟨_, (x3_5), H', ⟨by have := HJ4.out; have := HJ24.out; have := HJ29.out; have := HJ41.out; have := HK5.out; first | omega | exact Nat.le_refl _⟩, ⟨by (with_reducible repeat (first | apply r1_ | apply r2_ | apply r3_)); exact HO_3.out⟩, ⟨by (with_reducible repeat (first | refine d1_ ?_ _ | refine d2_ ?_ | refine d3_ ?_ _)); exact BK144.out⟩, ⟨by repeat (first | (with_reducible first | exact HB.out | apply b1_ | apply b2_ | apply b3_ | refine b4_ ?_ GE144.out) | exact HB.out)⟩⟩
           case rest =>
            clear HC73
            try clear c1
            try clear p1
            try clear q1
            try clear hx1
            try clear c2
            try clear p2
            try clear c3
            try clear hcv3
            try clear c4
            try clear c5
            try clear c6
            try clear p6
            try clear c7
            try clear c14
            try clear c14b0
            try clear c14b1
            try clear c14b2
            try clear c17
            try clear p17
            try clear q17
            try clear hx17
            try clear c18
            try clear c20
            try clear c27
            try clear c28
            try clear c32
            try clear c32b0
            try clear c32b1
            try clear c32b2
            try clear c33
            try clear c34
            try clear hcv36
            try clear c44
            try clear c44b0
            try clear c44b1
            try clear c44b2
            try clear c46
            try clear c54
            try clear c54b0
            try clear c55
            try clear c55b0
            try clear c56
            try clear c56b0
            try clear c59
            try clear c61
            try clear p64
            try clear c75
            try clear c76
            try clear hcz13_0 hcz13_1 hcz13_2 hcz13_3 hcz13_4 hcz13_5 hcz13_6 hcz13_7 hcz13_8 hcz13_9 hfz13_0 hfz13_1 hfz13_2 hfz13_3 hfz13_4 hfz13_5 hfz13_6 hfz13_7 hfz13_8 hfz13_9
            try clear hcz26_0 hcz26_1 hcz26_2 hcz26_3 hcz26_4 hcz26_5 hcz26_6 hcz26_7 hcz26_8 hcz26_9 hfz26_0 hfz26_1 hfz26_2 hfz26_3 hfz26_4 hfz26_5 hfz26_6 hfz26_7 hfz26_8 hfz26_9
            try clear hcz31_0 hcz31_1 hcz31_2 hcz31_3 hcz31_4 hcz31_5 hcz31_6 hcz31_7 hcz31_8 hcz31_9 hfz31_0 hfz31_1 hfz31_2 hfz31_3 hfz31_4 hfz31_5 hfz31_6 hfz31_7 hfz31_8 hfz31_9
            try clear hcz35_0 hcz35_1 hcz35_2 hcz35_3 hcz35_4 hcz35_5 hcz35_6 hcz35_7 hcz35_8 hcz35_9 hfz35_0 hfz35_1 hfz35_2 hfz35_3 hfz35_4 hfz35_5 hfz35_6 hfz35_7 hfz35_8 hfz35_9
            try clear hcz43_0 hcz43_1 hcz43_2 hcz43_3 hcz43_4 hcz43_5 hcz43_6 hcz43_7 hcz43_8 hcz43_9 hfz43_0 hfz43_1 hfz43_2 hfz43_3 hfz43_4 hfz43_5 hfz43_6 hfz43_7 hfz43_8 hfz43_9
            try clear hcz47_0 hcz47_1 hcz47_2 hcz47_3 hcz47_4 hcz47_5 hcz47_6 hcz47_7 hcz47_8 hcz47_9 hfz47_0 hfz47_1 hfz47_2 hfz47_3 hfz47_4 hfz47_5 hfz47_6 hfz47_7 hfz47_8 hfz47_9
            try clear hcz53_0 hcz53_1 hcz53_2 hcz53_3 hcz53_4 hcz53_5 hcz53_6 hcz53_7 hcz53_8 hcz53_9 hfz53_0 hfz53_1 hfz53_2 hfz53_3 hfz53_4 hfz53_5 hfz53_6 hfz53_7 hfz53_8 hfz53_9
            try clear hcz62_0 hcz62_1 hfz62_0 hfz62_1
            try clear hcz74_0 hcz74_1 hcz74_2 hcz74_3 hcz74_4 hcz74_5 hcz74_6 hcz74_7 hcz74_8 hcz74_9 hfz74_0 hfz74_1 hfz74_2 hfz74_3 hfz74_4 hfz74_5 hfz74_6 hfz74_7 hfz74_8 hfz74_9
            try clear hx176_0
            try clear hx176_1
            try clear p176
            try clear p2
            try clear q176
            obtain ⟨kq, x3_72, HA, HJ72, HO_3, BK144, HB⟩ := hcut
            cases kq with
            | zero => exact absurd HA.out (by simp [script_Tell.j5])
            | succ kj72 =>
             have H := HA.out
             clear HA
             simp only [script_Tell.j5] at H
             by_cases c78 : a0_9 = 0
             · rw [if_pos c78] at H
               have c78b0 : (a0_9 == 0) = true := beq_iff_eq.mpr c78
               have c78b1 : (a0_9 != 0) = false := bne_eq_false_iff_eq.mpr c78
               clear c78
               replace H := Option.bind_eq_some_iff.mp H
               obtain ⟨t189, A790, H⟩ := H
               have A79 := am_ A790
               clear A790
               obtain rfl := Option.some.inj H
               obtain ⟨⟨hcz80_0, hcz80_1, hcz80_2, hcz80_3, hcz80_4, hcz80_5, hcz80_6, hcz80_7, hcz80_8, hcz80_9⟩, hfz80_0, hfz80_1, hfz80_2, hfz80_3, hfz80_4, hfz80_5, hfz80_6, hfz80_7, hfz80_8, hfz80_9⟩ := script_Tell.c144 BK144.out
               obtain ⟨Ao81, co81, eo81⟩ := Kd.R_slice HO_3.out
               subst eo81
               go_wp2_with (first | ((with_reducible refine gate_callee (f := 35) rfl ?_); refine goesL_ (some 91) rfl rfl Tryz.func35 (by kernel_rfl) rfl #[.slice Ao81 x3_72.length co81, .string (⟨#[32]⟩ : ByteArray)] rfl (by (try simp only [aT, aK, aL]); first | done | rfl | (simp only [List.length_drop, List.length_take]; rfl)) ?_; (with_reducible refine (strings_Join.calls _ _ x3_72 (⟨#[32]⟩ : ByteArray) t189 _ ?side1 ?side2 A79.out).mono ?_); (case side1 => repeat (first | exact (Kd.R_reads' HO_3.out).2.2 | (with_reducible refine Kd.C_alloc ?_ _) | (with_reducible refine Kd.C_drewN ?_ _) | (with_reducible refine Kd.C_drew ?_))); (case side2 => exact (Kd.R_reads' HO_3.out).2.1); rintro e w82 ⟨rfl, hb⟩; refine ⟨_, rfl, ?_⟩; replace HO_3 := am_ (Kd.R_below (by (with_reducible repeat (first | apply r1_ | apply r2_ | apply r3_)); exact HO_3.out) hb); replace BK144 := am_ (blk_below (by (with_reducible repeat (first | refine d1_ ?_ _ | refine d2_ ?_ | refine d3_ ?_ _)); exact BK144.out) hb); replace HB := am_ (below_step (by repeat (first | (with_reducible first | exact HB.out | apply b1_ | apply b2_ | apply b3_ | refine b4_ ?_ GE144.out) | exact HB.out)) hb); (try clear hb); (try clear hk)))
               go_ret
               exact ⟨by first | rfl | (simp [errW_none, errW_some] <;> rfl) | (simp [*, errW_none, errW_some] <;> rfl), by repeat (first | (with_reducible first | exact HB.out | apply b1_ | apply b2_ | apply b3_ | refine b4_ ?_ GE144.out) | exact HB.out)⟩
             rw [if_neg c78] at H
             have c78b0 : (a0_9 == 0) = false := beq_eq_false_iff_ne.mpr c78
             have c78b1 : (a0_9 != 0) = true := bne_iff_ne.mpr c78
             replace H := Option.bind_eq_some_iff.mp H
             obtain ⟨t190, A830, H⟩ := H
             have A83 := am_ A830
             clear A830
             obtain ⟨y191, hy191⟩ : ∃ y_ : List ByteArray, y_ = (([(⟨#[115, 116, 97, 109, 112]⟩ : ByteArray), t190] : List ByteArray)) := ⟨_, rfl⟩
             replace H : (if x3_72.length + y191.length < 8796093022208 then ((strings_Join.f (x3_72 ++ y191) (⟨#[32]⟩ : ByteArray)).bind fun t197 => (some t197)) else (none)) = some r := by first | (rw [hy191]; with_reducible exact H) | (have H2_ := (Option.bind_some _ _).symm.trans H; rw [hy191]; with_reducible exact H2_) | (have H2_ := (Option.bind_some _ _).symm.trans H; with_reducible exact H2_) | with_reducible exact H | (rw [hy191]; exact H) | exact H
             have Ny191 := am_ hy191
             clear hy191
             by_cases c84 : x3_72.length + y191.length < 8796093022208
             · rw [if_pos c84] at H
               have LMc84 := am_ c84
               clear c84
               obtain ⟨y194, hy194⟩ : ∃ y_ : List ByteArray, y_ = (x3_72 ++ y191) := ⟨_, rfl⟩
               replace H : ((strings_Join.f y194 (⟨#[32]⟩ : ByteArray)).bind fun t197 => (some t197)) = some r := by first | (rw [hy194]; with_reducible exact H) | (have H2_ := (Option.bind_some _ _).symm.trans H; rw [hy194]; with_reducible exact H2_) | (have H2_ := (Option.bind_some _ _).symm.trans H; with_reducible exact H2_) | with_reducible exact H | (rw [hy194]; exact H) | exact H
               have Ny194 := am_ hy194
               clear hy194
               replace H := Option.bind_eq_some_iff.mp H
               obtain ⟨t197, A850, H⟩ := H
               have A85 := am_ A850
               clear A850
               obtain rfl := Option.some.inj H
               obtain ⟨⟨hcz86_0, hcz86_1, hcz86_2, hcz86_3, hcz86_4, hcz86_5, hcz86_6, hcz86_7, hcz86_8, hcz86_9⟩, hfz86_0, hfz86_1, hfz86_2, hfz86_3, hfz86_4, hfz86_5, hfz86_6, hfz86_7, hfz86_8, hfz86_9⟩ := script_Tell.c144 BK144.out
               try go_wp2_with (first | ((with_reducible refine gate_callee (f := 33) rfl ?_); refine goesL_ (some 87) rfl rfl Tryz.func33 (by kernel_rfl) rfl #[.int .i64 a0_9] rfl (by (try simp only [aT, aK, aL]); first | done | rfl | (simp only [List.length_drop, List.length_take]; rfl)) ?_; (with_reducible refine (script_number.calls a0_9 t190 _ ?side1 A83.out).mono ?_); (case side1 => exact sc.Env.below HE.out (by repeat (first | (with_reducible first | exact HB.out | apply b1_ | apply b2_ | apply b3_ | refine b4_ ?_ GE144.out) | exact HB.out))); rintro e w87 ⟨rfl, hb⟩; refine ⟨_, rfl, ?_⟩; replace HO_3 := am_ (Kd.R_below (by (with_reducible repeat (first | apply r1_ | apply r2_ | apply r3_)); exact HO_3.out) hb); replace BK144 := am_ (blk_below (by (with_reducible repeat (first | refine d1_ ?_ _ | refine d2_ ?_ | refine d3_ ?_ _)); exact BK144.out) hb); replace HB := am_ (below_step (by repeat (first | (with_reducible first | exact HB.out | apply b1_ | apply b2_ | apply b3_ | refine b4_ ?_ GE144.out) | exact HB.out)) hb); (try clear hb); (try clear hk)) | ((with_reducible refine gate_dst (N := 88) rfl ?_); refine Kd.R_lit Kd.string _ 9 ?hg (N := 88) ?hd (xs := ([(⟨#[115, 116, 97, 109, 112]⟩ : ByteArray), t190] : List ByteArray)) (inner := [.string (⟨#[115, 116, 97, 109, 112]⟩ : ByteArray), .string t190]) (ok := fun _ => True) (okp := fun _ => True) ?hr ?hp (fun _ hk => hk) trivial (Below.refl _ _) (Nat.le_refl _) (by simp) ?_; (case hd => rfl); (case hg => rfl); (case hr => first | (go_simp; done) | (go_simp; rfl)); (case hp => exact (Reps.one (show Kd.M Kd.string _ _ _ (⟨#[115, 116, 97, 109, 112]⟩ : ByteArray) [.string (⟨#[115, 116, 97, 109, 112]⟩ : ByteArray)] from rfl) (Reps.one (show Kd.M Kd.string _ _ _ t190 [.string t190] from rfl) (Reps.none _ _)))); intro v192 w88 ho89 hb hg_ hnew_; clear hg_ hnew_; (first | rw [← Ny191.out] at ho89 | (simp only [Int.reduceToNat] at ho89; rw [← Ny191.out] at ho89)); have HO193 := am_ (Kd.R_lower (Kd.R_new' ho89 (Kd.R_lt (by (with_reducible repeat (first | apply r1_ | apply r2_ | apply r3_)); exact HO_3.out))) (below_size (by repeat (first | (with_reducible first | exact HB.out | apply b1_ | apply b2_ | apply b3_ | refine b4_ ?_ GE144.out) | exact HB.out)))); replace HO_3 := am_ (Kd.R_elder' (by (with_reducible repeat (first | apply r1_ | apply r2_ | apply r3_)); exact HO_3.out) (Kd.R_base ho89) hb); replace BK144 := am_ (blk_below (by (with_reducible repeat (first | refine d1_ ?_ _ | refine d2_ ?_ | refine d3_ ?_ _)); exact BK144.out) hb); replace HB := am_ (below_step (by repeat (first | (with_reducible first | exact HB.out | apply b1_ | apply b2_ | apply b3_ | refine b4_ ?_ GE144.out) | exact HB.out)) hb); clear hb ho89; obtain ⟨Ao91, co91, eo91⟩ := Kd.R_slice HO193.out; subst eo91) | ((with_reducible refine gate_builtin (b := .append) (xs := #[.tmp 84, .tmp 88]) rfl ?_); at_builtin; refine Kd.R_append_rows Kd.string (w0 := w) w.heap.size rfl (.tmp 84) (.tmp 88) 71 9 (.string ⟨#[]⟩) 16 rfl Tryz.underlying71 info9 rfl (by decide) (by omega) u3 x3_72 y191 _ _ _ (fun k_ => some k_ ≠ (.slice Ao91 y191.length co91 : Value).ownBlock) (fun _ => False) rfl rfl ?aO ?aR (fun _ _ h => h) (fun _ h => h.elim) ?aF ?aB ?aS ?aL ?_; (case aR => repeat (first | exact (Kd.R_reads' HO193.out).2.2 | (with_reducible refine Kd.C_alloc ?_ _) | (with_reducible refine Kd.C_drewN ?_ _) | (with_reducible refine Kd.C_drew ?_))); (case aB => exact (by repeat (first | (with_reducible first | exact HB.out | apply b1_ | apply b2_ | apply b3_ | refine b4_ ?_ GE144.out) | exact HB.out))); (case aF => exact (fun k_ hk => Kd.fresh' (Kd.R_lt (by (with_reducible repeat (first | apply r1_ | apply r2_ | apply r3_)); exact HO193.out)) k_ hk)); (case aO => exact (by (with_reducible repeat (first | apply r1_ | apply r2_ | apply r3_)); exact Kd.R_mono HO_3.out (fun _ hk => hk.2))); (case aS => exact (below_size (by repeat (first | (with_reducible first | exact HB.out | apply b1_ | apply b2_ | apply b3_ | refine b4_ ?_ GE144.out) | exact HB.out)))); (case aL => have := LMc84.out; omega); intro v195 w90 ho hb hg hat; rw [← Ny194.out] at ho; replace BK144 := am_ (blk_grown (g := gb144) (o := .cells #[.int .i64 a0_0, .int .i64 a0_1, .int .i64 a0_2, .int .i64 a0_3, .int .i64 a0_4, .bool a0_5, .slice A0_6 l0_6.length c0_6, .slice A0_7 l0_7.length c0_7, .bool a0_8, .int .i64 a0_9] 41 (0, 0)) (by (with_reducible repeat (first | refine d1_ ?_ _ | refine d2_ ?_ | refine d3_ ?_ _)); exact BK144.out) hg (Kd.R_ne HO_3.out BK144.out (by decide))); replace HO193 := am_ (Kd.R_after (ok := (fun _ => True)) (by (with_reducible repeat (first | apply r1_ | apply r2_ | apply r3_)); exact HO193.out) hg hat); replace HB := am_ (hb); have HO196 := am_ (ho); clear HO_3; clear ho hb hg hat; obtain ⟨Ao92, co92, eo92⟩ := Kd.R_slice HO196.out; subst eo92) | ((with_reducible refine gate_callee (f := 35) rfl ?_); refine goesL_ (some 91) rfl rfl Tryz.func35 (by kernel_rfl) rfl #[.slice Ao92 y194.length co92, .string (⟨#[32]⟩ : ByteArray)] rfl (by (try simp only [aT, aK, aL]); first | done | rfl | (simp only [List.length_drop, List.length_take]; rfl)) ?_; (with_reducible refine (strings_Join.calls _ _ y194 (⟨#[32]⟩ : ByteArray) t197 _ ?side1 ?side2 A85.out).mono ?_); (case side1 => repeat (first | exact (Kd.R_reads' HO196.out).2.2 | (with_reducible refine Kd.C_alloc ?_ _) | (with_reducible refine Kd.C_drewN ?_ _) | (with_reducible refine Kd.C_drew ?_))); (case side2 => exact (Kd.R_reads' HO196.out).2.1); rintro e w93 ⟨rfl, hb⟩; refine ⟨_, rfl, ?_⟩; replace HO193 := am_ (Kd.R_below (by (with_reducible repeat (first | apply r1_ | apply r2_ | apply r3_)); exact HO193.out) hb); replace HO196 := am_ (Kd.R_below (by (with_reducible repeat (first | apply r1_ | apply r2_ | apply r3_)); exact HO196.out) hb); replace BK144 := am_ (blk_below (by (with_reducible repeat (first | refine d1_ ?_ _ | refine d2_ ?_ | refine d3_ ?_ _)); exact BK144.out) hb); replace HB := am_ (below_step (by repeat (first | (with_reducible first | exact HB.out | apply b1_ | apply b2_ | apply b3_ | refine b4_ ?_ GE144.out) | exact HB.out)) hb); (try clear hb); (try clear hk)))
               go_ret
               exact ⟨by first | rfl | (simp [errW_none, errW_some] <;> rfl) | (simp [*, errW_none, errW_some] <;> rfl), by repeat (first | (with_reducible first | exact HB.out | apply b1_ | apply b2_ | apply b3_ | refine b4_ ?_ GE144.out) | exact HB.out)⟩
             rw [if_neg c84] at H
             exact absurd H (by simp)
end Go.Proofs.YtndbbgihpoiojaaGreatDoor.Q
namespace Go.Proofs.YtndbbgihpoiojaaGreatDoor.Q
open Go.RowKit Go.Proofs.YtndbbgihpoiojaaGreatDoorW.PrintWords Go.Proofs.YtndbbgihpoiojaaGreatDoorW.PrintLast Go.Proofs.YtndbbgihpoiojaaGreatDoorW.PrintMore
attribute [local go_sem] max2_int min2_int max_two min_two max_three min_three max_four min_four   -- for this text's walks alone
mutual
def cloisterref26_Quote.l0 : Nat → ByteArray → List Int → Option (ByteArray)
 | 0, _, _ => none
 | k + 1, x0, x3 => if (x0.size : Int) > 0 then ((utf8_DecodeRuneInString.f x0).bind fun bt204 => (if bt204.1 = 65533 then (cloisterref26_Quote.j1 k x0 x3 bt204.1 bt204.2 (decide (bt204.2 > 1))) else (cloisterref26_Quote.j1 k x0 x3 bt204.1 bt204.2 true))) else (if x3.length < 140737488355328 then (some (strOfNums (x3 ++ [34]))) else (none))
def cloisterref26_Quote.j1 : Nat → ByteArray → List Int → Int → Int → Bool → Option (ByteArray)
 | 0, _, _, _, _, _ => none
 | k + 1, x0, x3, x4, x5, x6 => if x6 = true then (if x4 ≥ 33 then (if x4 ≤ 126 then (if x4 = 34 then (cloisterref26_Quote.j2 k x0 x3 x5 (decide (x4 ≥ 161))) else (if x4 = 37 then (cloisterref26_Quote.j2 k x0 x3 x5 (decide (x4 ≥ 161))) else (cloisterref26_Quote.j2 k x0 x3 x5 true))) else (cloisterref26_Quote.j2 k x0 x3 x5 (decide (x4 ≥ 161)))) else (cloisterref26_Quote.j2 k x0 x3 x5 (decide (x4 ≥ 161)))) else (cloisterref26_Quote.j2 k x0 x3 x5 false)
def cloisterref26_Quote.j2 : Nat → ByteArray → List Int → Int → Bool → Option (ByteArray)
 | 0, _, _, _, _ => none
 | k + 1, x0, x3, x5, x43 => if x43 = true then (if 0 ≤ x5 then (if x5 ≤ (x0.size : Int) then (if x3.length + (x0.extract 0 (x5 : Int).toNat).size < 140737488355328 then (cloisterref26_Quote.l0 k (x0.extract (x5 : Int).toNat x0.size) (x3 ++ bytesOf (x0.extract 0 (x5 : Int).toNat))) else (none)) else (none)) else (none)) else (cloisterref26_Quote.l1 k x0 x3 x5 0)
def cloisterref26_Quote.l1 : Nat → ByteArray → List Int → Int → Int → Option (ByteArray)
 | 0, _, _, _, _ => none
 | k + 1, x0, x3, x5, x7 => if x7 < x5 then (if 0 ≤ x7 then (if x7 < (x0.size : Int) then (if 0 ≤ ((Int.tdiv (bt x0 x7) 16) % 256) then (if ((Int.tdiv (bt x0 x7) 16) % 256) < 16 then (if 0 ≤ (Int.tmod (bt x0 x7) 16) then (if (Int.tmod (bt x0 x7) 16) < 16 then ((some (([37, bt (⟨#[48, 49, 50, 51, 52, 53, 54, 55, 56, 57, 65, 66, 67, 68, 69, 70]⟩ : ByteArray) ((Int.tdiv (bt x0 x7) 16) % 256), bt (⟨#[48, 49, 50, 51, 52, 53, 54, 55, 56, 57, 65, 66, 67, 68, 69, 70]⟩ : ByteArray) (Int.tmod (bt x0 x7) 16)] : List Int) : List Int)).bind fun y209 => (if x3.length + y209.length < 140737488355328 then (cloisterref26_Quote.l1 k x0 (x3 ++ y209) x5 (wrap64 (x7 + 1))) else (none))) else (none)) else (none)) else (none)) else (none)) else (none)) else (none)) else (if 0 ≤ x5 then (if x5 ≤ (x0.size : Int) then (cloisterref26_Quote.l0 k (x0.extract (x5 : Int).toNat x0.size) x3) else (none)) else (none))
end
def cloisterref26_Quote.f (k : Nat) (a0 : ByteArray) : Option (ByteArray) := cloisterref26_Quote.l0 k a0 (([34] : List Int))
theorem cloisterref26_Quote.mono_l : ∀ k, (∀ y0 y1, LeO (cloisterref26_Quote.l0 k y0 y1) (cloisterref26_Quote.l0 (k + 1) y0 y1)) ∧ (∀ y0 y1 y2 y3 y4, LeO (cloisterref26_Quote.j1 k y0 y1 y2 y3 y4) (cloisterref26_Quote.j1 (k + 1) y0 y1 y2 y3 y4)) ∧ (∀ y0 y1 y2 y3, LeO (cloisterref26_Quote.j2 k y0 y1 y2 y3) (cloisterref26_Quote.j2 (k + 1) y0 y1 y2 y3)) ∧ (∀ y0 y1 y2 y3, LeO (cloisterref26_Quote.l1 k y0 y1 y2 y3) (cloisterref26_Quote.l1 (k + 1) y0 y1 y2 y3))
 | 0 => ⟨fun _ _ r h => by simp [cloisterref26_Quote.l0] at h, fun _ _ _ _ _ r h => by simp [cloisterref26_Quote.j1] at h, fun _ _ _ _ r h => by simp [cloisterref26_Quote.j2] at h, fun _ _ _ _ r h => by simp [cloisterref26_Quote.l1] at h⟩
 | k + 1 => by
  obtain ⟨ih0, ih1, ih2, ih3⟩ := cloisterref26_Quote.mono_l k
  refine ⟨?_, ?_, ?_, ?_⟩
  · intro y0 y1
    unfold cloisterref26_Quote.l0
    repeat' first
    | (with_reducible exact ih0 _ _)
    | (with_reducible exact ih1 _ _ _ _ _)
    | (with_reducible exact ih2 _ _ _ _)
    | (with_reducible exact ih3 _ _ _ _)
    | (with_reducible exact LeO.refl _)
    | (with_reducible exact LeO.none _)
    | (with_reducible refine LeO.ite ?_ ?_)
    | (with_reducible refine LeO.bind ?_ (fun _ => ?_))
    | exact ih0 _ _
    | exact ih1 _ _ _ _ _
    | exact ih2 _ _ _ _
    | exact ih3 _ _ _ _
    | exact LeO.none _
    | refine LeO.ite ?_ ?_
    | refine LeO.bind ?_ (fun _ => ?_)
  · intro y0 y1 y2 y3 y4
    unfold cloisterref26_Quote.j1
    repeat' first
    | (with_reducible exact ih0 _ _)
    | (with_reducible exact ih1 _ _ _ _ _)
    | (with_reducible exact ih2 _ _ _ _)
    | (with_reducible exact ih3 _ _ _ _)
    | (with_reducible exact LeO.refl _)
    | (with_reducible exact LeO.none _)
    | (with_reducible refine LeO.ite ?_ ?_)
    | (with_reducible refine LeO.bind ?_ (fun _ => ?_))
    | exact ih0 _ _
    | exact ih1 _ _ _ _ _
    | exact ih2 _ _ _ _
    | exact ih3 _ _ _ _
    | exact LeO.none _
    | refine LeO.ite ?_ ?_
    | refine LeO.bind ?_ (fun _ => ?_)
  · intro y0 y1 y2 y3
    unfold cloisterref26_Quote.j2
    repeat' first
    | (with_reducible exact ih0 _ _)
    | (with_reducible exact ih1 _ _ _ _ _)
    | (with_reducible exact ih2 _ _ _ _)
    | (with_reducible exact ih3 _ _ _ _)
    | (with_reducible exact LeO.refl _)
    | (with_reducible exact LeO.none _)
    | (with_reducible refine LeO.ite ?_ ?_)
    | (with_reducible refine LeO.bind ?_ (fun _ => ?_))
    | exact ih0 _ _
    | exact ih1 _ _ _ _ _
    | exact ih2 _ _ _ _
    | exact ih3 _ _ _ _
    | exact LeO.none _
    | refine LeO.ite ?_ ?_
    | refine LeO.bind ?_ (fun _ => ?_)
  intro y0 y1 y2 y3
  unfold cloisterref26_Quote.l1
  repeat' first
  | (with_reducible exact ih0 _ _)
  | (with_reducible exact ih1 _ _ _ _ _)
  | (with_reducible exact ih2 _ _ _ _)
  | (with_reducible exact ih3 _ _ _ _)
  | (with_reducible exact LeO.refl _)
  | (with_reducible exact LeO.none _)
  | (with_reducible refine LeO.ite ?_ ?_)
  | (with_reducible refine LeO.bind ?_ (fun _ => ?_))
  | exact ih0 _ _
  | exact ih1 _ _ _ _ _
  | exact ih2 _ _ _ _
  | exact ih3 _ _ _ _
  | exact LeO.none _
  | refine LeO.ite ?_ ?_
  | refine LeO.bind ?_ (fun _ => ?_)
theorem cloisterref26_Quote.mono : ∀ a0 k, LeO (cloisterref26_Quote.f k a0) (cloisterref26_Quote.f (k + 1) a0) := by
 intro a0 k
 obtain ⟨ih0, ih1, ih2, ih3⟩ := cloisterref26_Quote.mono_l k
 unfold cloisterref26_Quote.f
 repeat' first
  | (with_reducible exact ih0 _ _)
  | (with_reducible exact ih1 _ _ _ _ _)
  | (with_reducible exact ih2 _ _ _ _)
  | (with_reducible exact ih3 _ _ _ _)
  | (with_reducible exact LeO.refl _)
  | (with_reducible exact LeO.none _)
  | (with_reducible refine LeO.ite ?_ ?_)
  | (with_reducible refine LeO.bind ?_ (fun _ => ?_))
  | exact ih0 _ _
  | exact ih1 _ _ _ _ _
  | exact ih2 _ _ _ _
  | exact ih3 _ _ _ _
  | exact LeO.none _
  | refine LeO.ite ?_ ?_
  | refine LeO.bind ?_ (fun _ => ?_)
def cloisterref26_Quote.T10 : Bool × List (List Nat × List Nat) := (true, [([], []), ([], []), ([], []), ([1, 2], [1, 2]), ([3], [3]), ([4], [4]), ([], []), ([], []), ([6, 7], [6, 7]), ([8], [8]), ([9], [9]), ([5, 10], [5, 10]), ([0, 11], [0, 11]), ([12, 12, 0, 1, 2, 3, 4, 5, 6, 7, 8, 9, 10, 11, 12], [0, 12])])
def cloisterref26_Quote.B10 : List Nat := [0, 0, 0, 6, 14, 30, 0, 0, 192, 448, 960, 2046, 4095, 8191]
theorem cloisterref26_Quote.tab10 : rtab .any (opsOf Tryz.f21 10) = cloisterref26_Quote.T10 := by kernel_rfl
theorem cloisterref26_Quote.bits10 : waitsOk cloisterref26_Quote.T10.2 cloisterref26_Quote.B10 = true := by kernel_rfl
theorem cloisterref26_Quote.calls (k : Nat) (a0 : ByteArray) (r : ByteArray) (w : World) (hE : sc.Env w) (h : cloisterref26_Quote.f k a0 = some r) :
 Calls Tryz.prog 21 #[.string a0] w fun e w' => e = .returned (.string r) ∧ Below w.heap.size w w' := by
 have HE := am_ hE
 clear hE
 have HB := am_ (Below.refl w.heap.size w)
 have H : (cloisterref26_Quote.l0 k a0 (([34] : List Int))) = some r := h
 clear h
 obtain ⟨y198, hy198⟩ : ∃ y_ : List Int, y_ = (([34] : List Int)) := ⟨_, rfl⟩
 replace H : (cloisterref26_Quote.l0 k a0 y198) = some r := by first | (rw [hy198]; with_reducible exact H) | (have H2_ := (Option.bind_some _ _).symm.trans H; rw [hy198]; with_reducible exact H2_) | (have H2_ := (Option.bind_some _ _).symm.trans H; with_reducible exact H2_) | with_reducible exact H | (rw [hy198]; exact H) | exact H
 have Ny198 := am_ hy198
 clear hy198
 have H' := am_ H
 clear H
 go_enter Tryz.func21, Tryz.ntmps21
 go_wp2_with (first | ((with_reducible refine gate_dst (N := 8) rfl ?_); refine Kd.R_lit (Kd.int .u8) _ 5 ?hg (N := 8) ?hd (xs := ([34] : List Int)) (inner := [.int .u8 34]) (ok := fun _ => True) (okp := fun _ => True) ?hr ?hp (fun _ hk => hk) trivial (Below.refl _ _) (Nat.le_refl _) (by simp) ?_; (case hd => rfl); (case hg => rfl); (case hr => first | (go_simp; done) | (go_simp; rfl)); (case hp => exact (Reps.one (show Kd.M (Kd.int .u8) _ _ _ 34 [.int .u8 34] from rfl) (Reps.none _ _))); intro v199 w2 ho3 hb hg_ hnew_; clear hg_ hnew_; (first | rw [← Ny198.out] at ho3 | (simp only [Int.reduceToNat] at ho3; rw [← Ny198.out] at ho3)); have HO200 := am_ (Kd.R_lower ho3 (below_size (by repeat (first | (with_reducible first | exact HB.out | apply b1_ | apply b2_ | apply b3_) | exact HB.out)))); replace HB := am_ (below_step (by repeat (first | (with_reducible first | exact HB.out | apply b1_ | apply b2_ | apply b3_) | exact HB.out)) hb); clear hb ho3))
 go_loopg [0, 3] k (fun kq v0 v3 w' => ∃ (x0_1 : ByteArray) (x3_1 : List Int), v0 = .string x0_1 ∧ Aside0 (cloisterref26_Quote.l0 kq x0_1 x3_1 = some r) ∧ Aside0 (kq ≤ k) ∧ Aside0 (Kd.R (Kd.int .u8) 5 w' w.heap.size (fun _ => True) v3 x3_1) ∧ Aside0 (Below w.heap.size w w'))
 case atStart => exact ⟨(a0), (y198), (by first | rfl | (simp; done) | (simp [*]; done)), H', ⟨Nat.le_refl _⟩, ⟨by (with_reducible repeat (first | apply r1_ | apply r2_ | apply r3_)); exact HO200.out⟩, ⟨by repeat (first | (with_reducible first | exact HB.out | apply b1_ | apply b2_ | apply b3_) | exact HB.out)⟩⟩
 case round =>
  clear H'
  try clear c2
  try clear p2
  obtain ⟨x0_1, x3_1, rfl, HA, HK1, HO_3, HB⟩ := hrel
  cases gk with
  | zero => exact absurd HA.out (by simp [cloisterref26_Quote.l0])
  | succ k1 =>
   have H := HA.out
   clear HA
   simp only [cloisterref26_Quote.l0] at H
   by_cases c4 : (x0_1.size : Int) > 0
   · rw [if_pos c4] at H
     have c4b0 : decide (0 < (x0_1.size : Int)) = true := decide_eq_true c4
     have c4b1 : decide (0 < x0_1.size) = true := decide_eq_true (by omega)
     clear c4
     replace H := Option.bind_eq_some_iff.mp H
     obtain ⟨⟨t204, t205⟩, A50, H⟩ := H
     replace H : (if t204 = 65533 then (cloisterref26_Quote.j1 k1 x0_1 x3_1 t204 t205 (decide (t205 > 1))) else (cloisterref26_Quote.j1 k1 x0_1 x3_1 t204 t205 true)) = some r := H
     have A5 := am_ A50
     clear A50
     have HC6 := am_ H
     clear H
     go_upto_region 4 with (first | ((with_reducible refine gate_callee (f := 36) rfl ?_); refine goesL_ (some 14) rfl rfl Tryz.func36 (by kernel_rfl) rfl #[.string x0_1] rfl (by (try simp only [aT, aK, aL]); first | done | rfl | (simp only [List.length_drop, List.length_take]; rfl)) ?_; (with_reducible refine (utf8_DecodeRuneInString.calls x0_1 t204 t205 _ ?side1 A5.out).mono ?_); (case side1 => exact sc.Env.below HE.out (by repeat (first | (with_reducible first | exact HB.out | apply b1_ | apply b2_ | apply b3_) | exact HB.out))); rintro e w7 ⟨rfl, hb⟩; refine ⟨_, rfl, ?_⟩; replace HO_3 := am_ (Kd.R_below (by (with_reducible repeat (first | apply r1_ | apply r2_ | apply r3_)); exact HO_3.out) hb); replace HB := am_ (below_step (by repeat (first | (with_reducible first | exact HB.out | apply b1_ | apply b2_ | apply b3_) | exact HB.out)) hb); (try clear hb); (try clear hk)))
     (try simp only [Act.put, List.setIfInBounds_toArray, List.set_cons_zero, List.set_cons_succ])
     go_cut [6] (fun v6 wc => ∃ (kq : Nat) (x6_5 : Bool), v6 = .bool x6_5 ∧ Aside0 (cloisterref26_Quote.j1 kq x0_1 x3_1 t204 t205 x6_5 = some r) ∧ Aside0 (kq ≤ k1) ∧ Aside0 (Kd.R (Kd.int .u8) 5 wc w.heap.size (fun _ => True) u3 x3_1) ∧ Aside0 (Below w.heap.size w wc))
     case first =>
      have H := HC6.out
      clear HC6
      by_cases c8 : t204 = 65533
      · rw [if_pos c8] at H
        have c8b0 : (t204 == 65533) = true := beq_iff_eq.mpr c8
        have c8b1 : (t204 != 65533) = false := bne_eq_false_iff_eq.mpr c8
        clear c8
        (first | rw [c8b0] | rw [c8b1] | rw [c8b2] | (simp only [i64_w, i32_w]; rw [c8b0]) | (simp only [i64_w, i32_w]; rw [c8b1]) | skip)
        have H' := am_ H
        clear H
        go_wp2
        go_meet
        case rel => exact ⟨_, (decide (t205 > 1)), (by first | rfl | (simp; done) | (simp [*]; done)), H', ⟨by have := HK1.out; first | omega | exact Nat.le_refl _⟩, ⟨by (with_reducible repeat (first | apply r1_ | apply r2_ | apply r3_)); exact HO_3.out⟩, ⟨by repeat (first | (with_reducible first | exact HB.out | apply b1_ | apply b2_ | apply b3_) | exact HB.out)⟩⟩
      rw [if_neg c8] at H
      have c8b0 : (t204 == 65533) = false := beq_eq_false_iff_ne.mpr c8
      have c8b1 : (t204 != 65533) = true := bne_iff_ne.mpr c8
      (first | rw [c8b0] | rw [c8b1] | rw [c8b2] | (simp only [i64_w, i32_w]; rw [c8b0]) | (simp only [i64_w, i32_w]; rw [c8b1]) | skip)
      have H' := am_ H
      clear H
      go_wp2
      go_meet
      case rel => exact ⟨_, (true), (by first | rfl | (simp; done) | (simp [*]; done)), H', ⟨by have := HK1.out; first | omega | exact Nat.le_refl _⟩, ⟨by (with_reducible repeat (first | apply r1_ | apply r2_ | apply r3_)); exact HO_3.out⟩, ⟨by repeat (first | (with_reducible first | exact HB.out | apply b1_ | apply b2_ | apply b3_) | exact HB.out)⟩⟩
     case rest =>
      clear HC6
      try clear c2
      try clear p2
      try clear c3
      try clear c4
      try clear c4b0
      try clear c4b1
      try clear c8
      try clear c8b0
      try clear c8b1
      try clear c8b2
      try clear p2
      obtain ⟨kq, x6_5, rfl, HA, HJ5, HO_3, HB⟩ := hcut
      cases kq with
      | zero => exact absurd HA.out (by simp [cloisterref26_Quote.j1])
      | succ kj5 =>
       have H := HA.out
       clear HA
       simp only [cloisterref26_Quote.j1] at H
       have HC9 := am_ H
       clear H
       go_upto_region 5 with (fail)
       go_cut [43] (fun v43 wc => ∃ (kq : Nat) (x43_8 : Bool), v43 = .bool x43_8 ∧ Aside0 (cloisterref26_Quote.j2 kq x0_1 x3_1 t205 x43_8 = some r) ∧ Aside0 (kq ≤ kj5) ∧ Aside0 (Kd.R (Kd.int .u8) 5 wc w.heap.size (fun _ => True) u3 x3_1) ∧ Aside0 (Below w.heap.size w wc))
       case first =>
        have H := HC9.out
        clear HC9
        by_cases c10 : x6_5 = true
        · subst c10
          have H1 : (if t204 ≥ 33 then (if t204 ≤ 126 then (if t204 = 34 then (cloisterref26_Quote.j2 kj5 x0_1 x3_1 t205 (decide (t204 ≥ 161))) else (if t204 = 37 then (cloisterref26_Quote.j2 kj5 x0_1 x3_1 t205 (decide (t204 ≥ 161))) else (cloisterref26_Quote.j2 kj5 x0_1 x3_1 t205 true))) else (cloisterref26_Quote.j2 kj5 x0_1 x3_1 t205 (decide (t204 ≥ 161)))) else (cloisterref26_Quote.j2 kj5 x0_1 x3_1 t205 (decide (t204 ≥ 161)))) = some r := by rw [if_pos rfl] at H; exact H
          clear H
          have H := H1
          clear H1
          by_cases c11 : t204 ≥ 33
          · rw [if_pos c11] at H
            have c11b0 : decide (33 ≤ t204) = true := decide_eq_true c11
            clear c11
            (first | rw [c11b0] | rw [c11b1] | rw [c11b2] | (simp only [i64_w, i32_w]; rw [c11b0]) | (simp only [i64_w, i32_w]; rw [c11b1]) | skip)
            by_cases c12 : t204 ≤ 126
            · rw [if_pos c12] at H
              have c12b0 : decide (t204 ≤ 126) = true := decide_eq_true c12
              clear c12
              by_cases c13 : t204 = 34
              · rw [if_pos c13] at H
                have c13b0 : (t204 == 34) = true := beq_iff_eq.mpr c13
                have c13b1 : (t204 != 34) = false := bne_eq_false_iff_eq.mpr c13
                clear c13
                have H' := am_ H
                clear H
                go_wp2
                go_meet
                case rel => exact ⟨_, (decide (t204 ≥ 161)), (by first | rfl | (simp; done) | (simp [*]; done)), H', ⟨by have := HK1.out; have := HJ5.out; first | omega | exact Nat.le_refl _⟩, ⟨by (with_reducible repeat (first | apply r1_ | apply r2_ | apply r3_)); exact HO_3.out⟩, ⟨by repeat (first | (with_reducible first | exact HB.out | apply b1_ | apply b2_ | apply b3_) | exact HB.out)⟩⟩
              rw [if_neg c13] at H
              have c13b0 : (t204 == 34) = false := beq_eq_false_iff_ne.mpr c13
              have c13b1 : (t204 != 34) = true := bne_iff_ne.mpr c13
              by_cases c14 : t204 = 37
              · rw [if_pos c14] at H
                have c14b0 : (t204 == 37) = true := beq_iff_eq.mpr c14
                have c14b1 : (t204 != 37) = false := bne_eq_false_iff_eq.mpr c14
                clear c14
                have H' := am_ H
                clear H
                go_wp2
                go_meet
                case rel => exact ⟨_, (decide (t204 ≥ 161)), (by first | rfl | (simp; done) | (simp [*]; done)), H', ⟨by have := HK1.out; have := HJ5.out; first | omega | exact Nat.le_refl _⟩, ⟨by (with_reducible repeat (first | apply r1_ | apply r2_ | apply r3_)); exact HO_3.out⟩, ⟨by repeat (first | (with_reducible first | exact HB.out | apply b1_ | apply b2_ | apply b3_) | exact HB.out)⟩⟩
              rw [if_neg c14] at H
              have c14b0 : (t204 == 37) = false := beq_eq_false_iff_ne.mpr c14
              have c14b1 : (t204 != 37) = true := bne_iff_ne.mpr c14
              have H' := am_ H
              clear H
              go_wp2
              go_meet
              case rel => exact ⟨_, (true), (by first | rfl | (simp; done) | (simp [*]; done)), H', ⟨by have := HK1.out; have := HJ5.out; first | omega | exact Nat.le_refl _⟩, ⟨by (with_reducible repeat (first | apply r1_ | apply r2_ | apply r3_)); exact HO_3.out⟩, ⟨by repeat (first | (with_reducible first | exact HB.out | apply b1_ | apply b2_ | apply b3_) | exact HB.out)⟩⟩
            rw [if_neg c12] at H
            have c12b0 : decide (t204 ≤ 126) = false := decide_eq_false c12
            clear c12
            have H' := am_ H
            clear H
            go_wp2
            go_meet
            case rel => exact ⟨_, (decide (t204 ≥ 161)), (by first | rfl | (simp; done) | (simp [*]; done)), H', ⟨by have := HK1.out; have := HJ5.out; first | omega | exact Nat.le_refl _⟩, ⟨by (with_reducible repeat (first | apply r1_ | apply r2_ | apply r3_)); exact HO_3.out⟩, ⟨by repeat (first | (with_reducible first | exact HB.out | apply b1_ | apply b2_ | apply b3_) | exact HB.out)⟩⟩
          rw [if_neg c11] at H
          have c11b0 : decide (33 ≤ t204) = false := decide_eq_false c11
          clear c11
          (first | rw [c11b0] | rw [c11b1] | rw [c11b2] | (simp only [i64_w, i32_w]; rw [c11b0]) | (simp only [i64_w, i32_w]; rw [c11b1]) | skip)
          have H' := am_ H
          clear H
          go_wp2
          go_meet
          case rel => exact ⟨_, (decide (t204 ≥ 161)), (by first | rfl | (simp; done) | (simp [*]; done)), H', ⟨by have := HK1.out; have := HJ5.out; first | omega | exact Nat.le_refl _⟩, ⟨by (with_reducible repeat (first | apply r1_ | apply r2_ | apply r3_)); exact HO_3.out⟩, ⟨by repeat (first | (with_reducible first | exact HB.out | apply b1_ | apply b2_ | apply b3_) | exact HB.out)⟩⟩
        replace c10 := Bool.eq_false_iff.mpr c10
        subst c10
        have H1 : (cloisterref26_Quote.j2 kj5 x0_1 x3_1 t205 false) = some r := by rw [if_neg (show ¬ (false = true) by decide)] at H; exact H
        clear H
        have H := H1
        clear H1
        have H' := am_ H
        clear H
        go_wp2
        go_meet
        case rel => exact ⟨_, (false), (by first | rfl | (simp; done) | (simp [*]; done)), H', ⟨by have := HK1.out; have := HJ5.out; first | omega | exact Nat.le_refl _⟩, ⟨by (with_reducible repeat (first | apply r1_ | apply r2_ | apply r3_)); exact HO_3.out⟩, ⟨by repeat (first | (with_reducible first | exact HB.out | apply b1_ | apply b2_ | apply b3_) | exact HB.out)⟩⟩
       case rest =>
        clear HC9
        try clear c1
        try clear c2
        try clear p2
        try clear c3
        try clear c4
        try clear c4b0
        try clear c4b1
        try clear c8
        try clear c8b0
        try clear c8b1
        try clear c8b2
        try clear c10
        try clear c11
        try clear c11b0
        try clear c11b1
        try clear c11b2
        try clear c12
        try clear c12b0
        try clear c13
        try clear c13b0
        try clear c13b1
        try clear c14
        try clear c14b0
        try clear c14b1
        try clear p2
        obtain ⟨kq, x43_8, rfl, HA, HJ8, HO_3, HB⟩ := hcut
        cases kq with
        | zero => exact absurd HA.out (by simp [cloisterref26_Quote.j2])
        | succ kj8 =>
         have H := HA.out
         clear HA
         simp only [cloisterref26_Quote.j2] at H
         by_cases c15 : x43_8 = true
         · subst c15
           have H1 : (if 0 ≤ t205 then (if t205 ≤ (x0_1.size : Int) then (if x3_1.length + (x0_1.extract 0 (t205 : Int).toNat).size < 140737488355328 then (cloisterref26_Quote.l0 kj8 (x0_1.extract (t205 : Int).toNat x0_1.size) (x3_1 ++ bytesOf (x0_1.extract 0 (t205 : Int).toNat))) else (none)) else (none)) else (none)) = some r := by rw [if_pos rfl] at H; exact H
           clear H
           have H := H1
           clear H1
           by_cases c16 : 0 ≤ t205
           · rw [if_pos c16] at H
             have c16b0 := eq_true c16
             have c16b1 : decide (0 ≤ t205) = true := decide_eq_true c16
             clear c16
             by_cases c17 : t205 ≤ (x0_1.size : Int)
             · rw [if_pos c17] at H
               have c17b0 := eq_true c17
               have c17b1 : decide (t205 ≤ (x0_1.size : Int)) = true := decide_eq_true c17
               clear c17
               by_cases c18 : x3_1.length + (x0_1.extract 0 (t205 : Int).toNat).size < 140737488355328
               · rw [if_pos c18] at H
                 have LMc18 := am_ c18
                 clear c18
                 obtain ⟨y206, hy206⟩ : ∃ y_ : List Int, y_ = (x3_1 ++ bytesOf (x0_1.extract 0 (t205 : Int).toNat)) := ⟨_, rfl⟩
                 replace H : (cloisterref26_Quote.l0 kj8 (x0_1.extract (t205 : Int).toNat x0_1.size) y206) = some r := by first | (rw [hy206]; with_reducible exact H) | (have H2_ := (Option.bind_some _ _).symm.trans H; rw [hy206]; with_reducible exact H2_) | (have H2_ := (Option.bind_some _ _).symm.trans H; with_reducible exact H2_) | with_reducible exact H | (rw [hy206]; exact H) | exact H
                 have Ny206 := am_ hy206
                 clear hy206
                 have c19b0 := eq_true (of_decide_eq_true (by first | (with_reducible assumption) | assumption) : 0 ≤ t205)
                 have c20b0 := eq_true (of_decide_eq_true (by first | (with_reducible assumption) | assumption) : t205 ≤ (x0_1.size : Int))
                 have H' := am_ H
                 clear H
                 go_wp2_with (first | (at_builtin; refine print_append_str (w0 := w) w.heap.size rfl (.tmp 44) _ 38 9 5 rfl Tryz.underlying38 Tryz.underlying9 info5 u3 x3_1 (x0_1.extract 0 (t205 : Int).toNat) rfl rfl ?aO ?aB ?aS ?aL ?_; (case aB => exact (by repeat (first | (with_reducible first | exact HB.out | apply b1_ | apply b2_ | apply b3_) | exact HB.out))); (case aO => exact (Kd.own_of_R (by (with_reducible repeat (first | apply r1_ | apply r2_ | apply r3_)); exact HO_3.out))); (case aS => exact (below_size (by repeat (first | (with_reducible first | exact HB.out | apply b1_ | apply b2_ | apply b3_) | exact HB.out)))); (case aL => have := LMc18.out; omega); intro v207 w21 ho0 hb hg; have ho := Kd.R_of_own (h1 := fun _ => rfl) (ok := fun _ => True) ho0 (fun _ _ => trivial); clear ho0; have hat := True.intro; rw [← Ny206.out] at ho; change Kd.R (Kd.int .u8) 5 w21 w.heap.size (fun _ => True) v207 y206 at ho; replace HB := am_ (hb); have HO208 := am_ (ho); clear HO_3; clear ho hb hg hat))
                 go_roundg kj8
                 case measure => have := HK1.out; have := HJ5.out; have := HJ8.out; omega
                 case rel => exact ⟨(x0_1.extract (t205 : Int).toNat x0_1.size), (y206), (by first | rfl | (simp; done) | (simp [*]; done)), H', ⟨by have := HK1.out; have := HJ5.out; have := HJ8.out; omega⟩, ⟨by (with_reducible repeat (first | apply r1_ | apply r2_ | apply r3_)); exact HO208.out⟩, ⟨by repeat (first | (with_reducible first | exact HB.out | apply b1_ | apply b2_ | apply b3_) | exact HB.out)⟩⟩
               rw [if_neg c18] at H
               exact absurd H (by simp)
             rw [if_neg c17] at H
             exact absurd H (by simp)
           rw [if_neg c16] at H
           exact absurd H (by simp)
         replace c15 := Bool.eq_false_iff.mpr c15
         subst c15
         have H1 : (cloisterref26_Quote.l1 kj8 x0_1 x3_1 t205 0) = some r := by rw [if_neg (show ¬ (false = true) by decide)] at H; exact H
         clear H
         have H := H1
         clear H1
         have H' := am_ H
         clear H
         go_wp2
         go_loopg [3, 7] kj8 (fun kq v3 v7 w' => ∃ (x3_4 : List Int) (x7_4 : Int), v7 = .int .i64 x7_4 ∧ Aside0 (cloisterref26_Quote.l1 kq x0_1 x3_4 t205 x7_4 = some r) ∧ Aside0 (kq ≤ kj8) ∧ Aside0 (Kd.R (Kd.int .u8) 5 w' w.heap.size (fun _ => True) v3 x3_4) ∧ Aside0 (Below w.heap.size w w'))
         case atStart => exact ⟨(x3_1), (0), (by first | rfl | (simp; done) | (simp [*]; done)), H', ⟨Nat.le_refl _⟩, ⟨by (with_reducible repeat (first | apply r1_ | apply r2_ | apply r3_)); exact HO_3.out⟩, ⟨by repeat (first | (with_reducible first | exact HB.out | apply b1_ | apply b2_ | apply b3_) | exact HB.out)⟩⟩
         case round =>
          clear H'
          try clear c1
          try clear c2
          try clear p2
          try clear c3
          try clear c4
          try clear c4b0
          try clear c4b1
          try clear c8
          try clear c8b0
          try clear c8b1
          try clear c8b2
          try clear c10
          try clear c11
          try clear c11b0
          try clear c11b1
          try clear c11b2
          try clear c12
          try clear c12b0
          try clear c13
          try clear c13b0
          try clear c13b1
          try clear c14
          try clear c14b0
          try clear c14b1
          try clear c15
          try clear c16
          try clear c16b0
          try clear c16b1
          try clear c17
          try clear c17b0
          try clear c17b1
          try clear c18
          try clear c19
          try clear c19b0
          try clear c20
          try clear c20b0
          try clear c21
          try clear p2
          obtain ⟨x3_4, x7_4, rfl, HA, HK4, HO_3, HB⟩ := hrel
          cases gk with
          | zero => exact absurd HA.out (by simp [cloisterref26_Quote.l1])
          | succ k4 =>
           have H := HA.out
           clear HA
           simp only [cloisterref26_Quote.l1] at H
           by_cases c22 : x7_4 < t205
           · rw [if_pos c22] at H
             have c22b0 : decide (x7_4 < t205) = true := decide_eq_true c22
             clear c22
             by_cases c23 : 0 ≤ x7_4
             · rw [if_pos c23] at H
               have c23b0 : decide (0 ≤ x7_4) = true := decide_eq_true c23
               clear c23
               by_cases c24 : x7_4 < (x0_1.size : Int)
               · rw [if_pos c24] at H
                 have c24b0 : decide (x7_4 < (x0_1.size : Int)) = true := decide_eq_true c24
                 clear c24
                 obtain ⟨ji26, hji26⟩ : ∃ j_ : Int, ((Int.tdiv (bt x0_1 x7_4) 16) % 256) = j_ := ⟨_, rfl⟩
                 replace H : (if 0 ≤ (ji26) then (if (ji26) < 16 then (if 0 ≤ (Int.tmod (bt x0_1 x7_4) 16) then (if (Int.tmod (bt x0_1 x7_4) 16) < 16 then ((some (([37, bt (⟨#[48, 49, 50, 51, 52, 53, 54, 55, 56, 57, 65, 66, 67, 68, 69, 70]⟩ : ByteArray) (ji26), bt (⟨#[48, 49, 50, 51, 52, 53, 54, 55, 56, 57, 65, 66, 67, 68, 69, 70]⟩ : ByteArray) (Int.tmod (bt x0_1 x7_4) 16)] : List Int) : List Int)).bind fun y209 => (if x3_4.length + y209.length < 140737488355328 then (cloisterref26_Quote.l1 k4 x0_1 (x3_4 ++ y209) t205 (wrap64 (x7_4 + 1))) else (none))) else (none)) else (none)) else (none)) else (none)) = some r := by first | (rw [hji26] at H; exact H) | (simp only [hji26] at H ⊢; exact H)
                 have hji26w : (IntKind.u8.wrap (Int.tdiv (bt x0_1 x7_4) 16)) = ji26 := (IntKind.wrap_u8 _).trans hji26
                 by_cases c27 : 0 ≤ (ji26)
                 · rw [if_pos c27] at H
                   have c27b0 : decide (0 ≤ (ji26)) = true := decide_eq_true c27
                   clear c27
                   by_cases c28 : (ji26) < 16
                   · rw [if_pos c28] at H
                     have c28b0 : decide ((ji26) < 16) = true := decide_eq_true c28
                     clear c28
                     obtain ⟨ji31, hji31⟩ : ∃ j_ : Int, (Int.tmod (bt x0_1 x7_4) 16) = j_ := ⟨_, rfl⟩
                     replace H : (if 0 ≤ (ji31) then (if (ji31) < 16 then ((some (([37, bt (⟨#[48, 49, 50, 51, 52, 53, 54, 55, 56, 57, 65, 66, 67, 68, 69, 70]⟩ : ByteArray) (ji26), bt (⟨#[48, 49, 50, 51, 52, 53, 54, 55, 56, 57, 65, 66, 67, 68, 69, 70]⟩ : ByteArray) (ji31)] : List Int) : List Int)).bind fun y209 => (if x3_4.length + y209.length < 140737488355328 then (cloisterref26_Quote.l1 k4 x0_1 (x3_4 ++ y209) t205 (wrap64 (x7_4 + 1))) else (none))) else (none)) else (none)) = some r := by first | (rw [hji31] at H; exact H) | (simp only [hji31] at H ⊢; exact H)
                     by_cases c32 : 0 ≤ (ji31)
                     · rw [if_pos c32] at H
                       have c32b0 : decide (0 ≤ (ji31)) = true := decide_eq_true c32
                       clear c32
                       by_cases c33 : (ji31) < 16
                       · rw [if_pos c33] at H
                         have c33b0 : decide ((ji31) < 16) = true := decide_eq_true c33
                         clear c33
                         obtain ⟨y209, hy209⟩ : ∃ y_ : List Int, y_ = (([37, bt (⟨#[48, 49, 50, 51, 52, 53, 54, 55, 56, 57, 65, 66, 67, 68, 69, 70]⟩ : ByteArray) (ji26), bt (⟨#[48, 49, 50, 51, 52, 53, 54, 55, 56, 57, 65, 66, 67, 68, 69, 70]⟩ : ByteArray) (ji31)] : List Int)) := ⟨_, rfl⟩
                         replace H : (if x3_4.length + y209.length < 140737488355328 then (cloisterref26_Quote.l1 k4 x0_1 (x3_4 ++ y209) t205 (wrap64 (x7_4 + 1))) else (none)) = some r := by first | (rw [hy209]; with_reducible exact H) | (have H2_ := (Option.bind_some _ _).symm.trans H; rw [hy209]; with_reducible exact H2_) | (have H2_ := (Option.bind_some _ _).symm.trans H; with_reducible exact H2_) | with_reducible exact H | (rw [hy209]; exact H) | exact H
                         have Ny209 := am_ hy209
                         clear hy209
                         by_cases c35 : x3_4.length + y209.length < 140737488355328
                         · rw [if_pos c35] at H
                           have LMc35 := am_ c35
                           clear c35
                           obtain ⟨y212, hy212⟩ : ∃ y_ : List Int, y_ = (x3_4 ++ y209) := ⟨_, rfl⟩
                           replace H : (cloisterref26_Quote.l1 k4 x0_1 y212 t205 (wrap64 (x7_4 + 1))) = some r := by first | (rw [hy212]; with_reducible exact H) | (have H2_ := (Option.bind_some _ _).symm.trans H; rw [hy212]; with_reducible exact H2_) | (have H2_ := (Option.bind_some _ _).symm.trans H; with_reducible exact H2_) | with_reducible exact H | (rw [hy212]; exact H) | exact H
                           have Ny212 := am_ hy212
                           clear hy212
                           have H' := am_ H
                           clear H
                           try go_wp2
                           replace HO_3 := am_ (r3_ HO_3.out)
                           replace HB := am_ (b3_ HB.out)
                           have p25 : 0 ≤ (x7_4 : Int) := of_decide_eq_true (by first | (with_reducible assumption) | assumption)
                           have q25 : x7_4 < (x0_1.size : Int) := of_decide_eq_true (by first | (with_reducible assumption) | assumption)
                           have hx25 := bt_at x0_1 x7_4
                           replace p25 := eq_true p25
                           replace q25 := eq_true q25
                           have p29 : 0 ≤ ((ji26) : Int) := of_decide_eq_true (by first | (with_reducible assumption) | assumption)
                           have q29 : (ji26) < (16 : Int) := of_decide_eq_true (by first | (with_reducible assumption) | assumption)
                           have hx29 := bt_at (⟨#[48, 49, 50, 51, 52, 53, 54, 55, 56, 57, 65, 66, 67, 68, 69, 70]⟩ : ByteArray) (ji26)
                           replace p29 := eq_true p29
                           replace q29 := eq_true q29
                           have p30 : 0 ≤ (x7_4 : Int) := of_decide_eq_true (by first | (with_reducible assumption) | assumption)
                           have q30 : x7_4 < (x0_1.size : Int) := of_decide_eq_true (by first | (with_reducible assumption) | assumption)
                           have hx30 := bt_at x0_1 x7_4
                           replace p30 := eq_true p30
                           replace q30 := eq_true q30
                           have p34 : 0 ≤ ((ji31) : Int) := of_decide_eq_true (by first | (with_reducible assumption) | assumption)
                           have q34 : (ji31) < (16 : Int) := of_decide_eq_true (by first | (with_reducible assumption) | assumption)
                           have hx34 := bt_at (⟨#[48, 49, 50, 51, 52, 53, 54, 55, 56, 57, 65, 66, 67, 68, 69, 70]⟩ : ByteArray) (ji31)
                           replace p34 := eq_true p34
                           replace q34 := eq_true q34
                           refine start_ (n := 14) (S := fun w' => True) (ds := []) #[false, false, false, false, false, false, false, false, false, false, false, false, false, false] (by kernel_rfl) rfl rfl trivial (fun hHeld => ?_); refine with_tabW cloisterref26_Quote.tab10 cloisterref26_Quote.bits10 (fun HT_ HW_ => ?_)
                           generalize wr.drew = w36 at HO_3 HB hHeld ⊢
                           refine pu_ 0 54 (bs_ 14 1) rfl rfl (any_of HT_.out (by kernel_rfl)) rfl (by intro w'; go_simp; with_reducible rfl) (by simp only [Act.put, aS, aZ, aC, i64_w, i32_w]; rfl) (fun _ _ _ h => h) ?_
                           refine pu_ 1 55 (bs_ 14 3) rfl rfl (any_of HT_.out (by kernel_rfl)) rfl (by intro w'; go_simp; with_reducible rfl) (by simp only [Act.put, aS, aZ, aC, i64_w, i32_w]; rfl) (fun _ _ _ h => h) ?_
                           refine pu_ 2 56 (bs_ 14 7) rfl rfl (any_of HT_.out (by kernel_rfl)) rfl (by intro w'; go_simp; with_reducible rfl) (by simp only [Act.put, aS, aZ, aC, i64_w, i32_w]; rfl) (fun _ _ _ h => h) ?_
                           refine pu_ 6 60 (bs_ 14 71) rfl rfl (any_of HT_.out (by kernel_rfl)) rfl (by intro w'; go_simp; with_reducible rfl) (by simp only [Act.put, aS, aZ, aC, i64_w, i32_w]; rfl) (fun _ _ _ h => h) ?_
                           refine pu_ 7 61 (bs_ 14 199) rfl rfl (any_of HT_.out (by kernel_rfl)) rfl (by intro w'; go_simp; with_reducible rfl) (by simp only [Act.put, aS, aZ, aC, i64_w, i32_w]; rfl) (fun _ _ _ h => h) ?_
                           refine take_ (i := 3) (N := some 57) (v := ?_) (a' := ?_) (bs_ 14 207) rfl rfl (take_ofW HT_.out HW_.out (by kernel_rfl)) (fun _ _ _ h => h) (Or.inl ⟨by rfl, ?_⟩) hHeld ?_ ?_
                           rotate_left
                           · intro w' _
                             go_simp
                             with_reducible rfl
                           rotate_left
                           · simp only [Act.put, aS, aZ, aC, i64_w, i32_w]
                             rfl
                           refine pu_ 4 58 (bs_ 14 223) rfl rfl (any_of HT_.out (by kernel_rfl)) rfl (by intro w'; go_simp; with_reducible rfl) (by simp only [Act.put, aS, aZ, aC, i64_w, i32_w]; rfl) (fun _ _ _ h => h) ?_
                           refine take_ (i := 5) (N := some 59) (v := ?_) (a' := ?_) (bs_ 14 255) rfl rfl (take_ofW HT_.out HW_.out (by kernel_rfl)) (fun _ _ _ h => h) (Or.inl ⟨by rfl, ?_⟩) hHeld ?_ ?_
                           rotate_left
                           · intro w' _
                             go_simp
                             with_reducible rfl
                           rotate_left
                           · simp only [Act.put, aS, aZ, aC, i64_w, i32_w]
                             rfl
                           refine take_ (i := 8) (N := some 62) (v := ?_) (a' := ?_) (bs_ 14 511) rfl rfl (take_ofW HT_.out HW_.out (by kernel_rfl)) (fun _ _ _ h => h) (Or.inl ⟨by rfl, ?_⟩) hHeld ?_ ?_
                           rotate_left
                           · intro w' _
                             go_simp
                             with_reducible rfl
                           rotate_left
                           · simp only [Act.put, aS, aZ, aC, i64_w, i32_w]
                             rfl
                           refine pu_ 9 63 (bs_ 14 1023) rfl rfl (any_of HT_.out (by kernel_rfl)) rfl (by intro w'; go_simp; with_reducible rfl) (by simp only [Act.put, aS, aZ, aC, i64_w, i32_w]; rfl) (fun _ _ _ h => h) ?_
                           refine take_ (i := 10) (N := some 64) (v := ?_) (a' := ?_) (bs_ 14 2047) rfl rfl (take_ofW HT_.out HW_.out (by kernel_rfl)) (fun _ _ _ h => h) (Or.inl ⟨by rfl, ?_⟩) hHeld ?_ ?_
                           rotate_left
                           · intro w' _
                             go_simp
                             with_reducible rfl
                           rotate_left
                           · simp only [Act.put, aS, aZ, aC, i64_w, i32_w]
                             rfl
                           refine one_ (i := 11) (N := some 65) (bs_ 14 4095) rfl rfl (one_of HT_.out (by kernel_rfl)) (by decide) (fun K hK => ?_)
                           refine Kd.R_lit_step (Kd.int .u8) _ 5 ?hg (N := 65) ?hd (xs := ([37, bt (⟨#[48, 49, 50, 51, 52, 53, 54, 55, 56, 57, 65, 66, 67, 68, 69, 70]⟩ : ByteArray) (ji26), bt (⟨#[48, 49, 50, 51, 52, 53, 54, 55, 56, 57, 65, 66, 67, 68, 69, 70]⟩ : ByteArray) (ji31)] : List Int)) (inner := [.int .u8 37, .int .u8 (bt (⟨#[48, 49, 50, 51, 52, 53, 54, 55, 56, 57, 65, 66, 67, 68, 69, 70]⟩ : ByteArray) (ji26)), .int .u8 (bt (⟨#[48, 49, 50, 51, 52, 53, 54, 55, 56, 57, 65, 66, 67, 68, 69, 70]⟩ : ByteArray) (ji31))]) (ok := fun _ => True) (okp := fun _ => True) ?hr ?hp (fun _ hk => hk) trivial (Below.refl _ _) (Nat.le_refl _) (by simp) ?_; (case hd => rfl); (case hg => rfl); (case hr => first | (go_simp; done) | (go_simp; rfl)); (case hp => exact (Reps.one (show Kd.M (Kd.int .u8) _ _ _ 37 [.int .u8 37] from rfl) (Reps.one (show Kd.M (Kd.int .u8) _ _ _ (bt (⟨#[48, 49, 50, 51, 52, 53, 54, 55, 56, 57, 65, 66, 67, 68, 69, 70]⟩ : ByteArray) (ji26)) [.int .u8 (bt (⟨#[48, 49, 50, 51, 52, 53, 54, 55, 56, 57, 65, 66, 67, 68, 69, 70]⟩ : ByteArray) (ji26))] from rfl) (Reps.one (show Kd.M (Kd.int .u8) _ _ _ (bt (⟨#[48, 49, 50, 51, 52, 53, 54, 55, 56, 57, 65, 66, 67, 68, 69, 70]⟩ : ByteArray) (ji31)) [.int .u8 (bt (⟨#[48, 49, 50, 51, 52, 53, 54, 55, 56, 57, 65, 66, 67, 68, 69, 70]⟩ : ByteArray) (ji31))] from rfl) (Reps.none _ _)))))
                           intro v210 w37 ho38 hb hg_ hnew_
                           clear hg_ hnew_
                           (first | rw [← Ny209.out] at ho38 | (simp only [Int.reduceToNat] at ho38; rw [← Ny209.out] at ho38))
                           have HO211 := am_ (Kd.R_lower (Kd.R_new' ho38 (Kd.R_lt (by (with_reducible repeat (first | apply r1_ | apply r2_ | apply r3_)); exact HO_3.out))) (below_size (by repeat (first | (with_reducible first | exact HB.out | apply b1_ | apply b2_ | apply b3_) | exact HB.out))))
                           replace HO_3 := am_ (Kd.R_elder' (by (with_reducible repeat (first | apply r1_ | apply r2_ | apply r3_)); exact HO_3.out) (Kd.R_base ho38) hb)
                           replace HB := am_ (below_step (by repeat (first | (with_reducible first | exact HB.out | apply b1_ | apply b2_ | apply b3_) | exact HB.out)) hb)
                           clear hb ho38
                           obtain ⟨Ao40, co40, eo40⟩ := Kd.R_slice HO211.out
                           (first | subst eo40 | (injection eo40 with f1_ f2_ f3_; have f4_ := f1_.symm; have f5_ := f3_.symm; clear f1_ f2_ f3_; subst f4_; subst f5_))
                           refine hK.out _ _ trivial (fun hHeld => ?_)
                           clear hK K
                           refine no_ (by simp only [Act.put, aS, aZ, aC, i64_w, i32_w]; rfl) ?_
                           refine one_ (i := 12) (N := some 66) (bs_ 14 8191) rfl rfl (one_of HT_.out (by kernel_rfl)) (by decide) (fun K hK => ?_)
                           refine Kd.R_append_rows_step (Kd.int .u8) (w0 := w) w.heap.size (by rfl) (.tmp 54) (.tmp 65) 38 5 (.int .u8 0) 1 rfl Tryz.underlying38 info5 rfl (by decide) (by omega) u3 x3_4 y209 _ _ _ (fun k_ => some k_ ≠ (.slice Ao40 y209.length co40 : Value).ownBlock) (fun _ => False) rfl rfl ?aO ?aR (fun _ _ h => h) (fun _ h => h.elim) ?aF ?aB ?aS ?aL ?_
                           (case aR => repeat (first | exact (Kd.R_reads' HO211.out).2.2 | (with_reducible refine Kd.C_alloc ?_ _) | (with_reducible refine Kd.C_drewN ?_ _) | (with_reducible refine Kd.C_drew ?_)))
                           (case aB => exact (by repeat (first | (with_reducible first | exact HB.out | apply b1_ | apply b2_ | apply b3_) | exact HB.out)))
                           (case aF => exact (fun k_ hk => Kd.fresh' (Kd.R_lt (by (with_reducible repeat (first | apply r1_ | apply r2_ | apply r3_)); exact HO211.out)) k_ hk))
                           (case aO => exact (by (with_reducible repeat (first | apply r1_ | apply r2_ | apply r3_)); exact Kd.R_mono HO_3.out (fun _ hk => hk.2)))
                           (case aS => exact (below_size (by repeat (first | (with_reducible first | exact HB.out | apply b1_ | apply b2_ | apply b3_) | exact HB.out))))
                           (case aL => have := LMc35.out; omega)
                           intro v213 w39 ho hb hg hat
                           rw [← Ny212.out] at ho
                           replace HO211 := am_ (Kd.R_after (ok := (fun _ => True)) (by (with_reducible repeat (first | apply r1_ | apply r2_ | apply r3_)); exact HO211.out) hg hat)
                           replace HB := am_ (hb)
                           have HO214 := am_ (ho)
                           clear HO_3
                           clear ho hb hg hat
                           refine hK.out _ _ trivial (fun hHeld => ?_)
                           clear hK K
                           refine no_ (by simp only [Act.put, aS, aZ, aC, i64_w, i32_w]; rfl) ?_
                           refine pu_ 13 3 (bs_ 14 16383) rfl rfl (any_of HT_.out (by kernel_rfl)) rfl (by intro w'; go_simp; with_reducible rfl) (by simp only [Act.put, aS, aZ, aC, i64_w, i32_w]; rfl) (fun _ _ _ h => h) ?_
                           refine done_ (done_of HT_.out (by kernel_rfl)) ?_
                           try go_wp2
                           go_roundg k4
                           case measure => have := HK1.out; have := HJ5.out; have := HJ8.out; have := HK4.out; omega
                           case rel => exact ⟨(y212), (wrap64 (x7_4 + 1)), (by first | rfl | (simp; done) | (simp [*]; done)), H', ⟨by have := HK1.out; have := HJ5.out; have := HJ8.out; have := HK4.out; omega⟩, ⟨by (with_reducible repeat (first | apply r1_ | apply r2_ | apply r3_)); exact Kd.R_mono HO214.out (fun _ hk => trivial)⟩, ⟨by repeat (first | (with_reducible first | exact HB.out | apply b1_ | apply b2_ | apply b3_) | exact HB.out)⟩⟩
                         rw [if_neg c35] at H
                         exact absurd H (by simp)
                       rw [if_neg c33] at H
                       exact absurd H (by simp)
                     rw [if_neg c32] at H
                     exact absurd H (by simp)
                   rw [if_neg c28] at H
                   exact absurd H (by simp)
                 rw [if_neg c27] at H
                 exact absurd H (by simp)
               rw [if_neg c24] at H
               exact absurd H (by simp)
             rw [if_neg c23] at H
             exact absurd H (by simp)
           rw [if_neg c22] at H
           have c22b0 : decide (x7_4 < t205) = false := decide_eq_false c22
           clear c22
           by_cases c41 : 0 ≤ t205
           · rw [if_pos c41] at H
             have c41b0 := eq_true c41
             have c41b1 : decide (0 ≤ t205) = true := decide_eq_true c41
             clear c41
             by_cases c42 : t205 ≤ (x0_1.size : Int)
             · rw [if_pos c42] at H
               have c42b0 := eq_true c42
               have c42b1 : decide (t205 ≤ (x0_1.size : Int)) = true := decide_eq_true c42
               clear c42
               have H' := am_ H
               clear H
               go_wp2
               go_roundg k4
               case measure => have := HK1.out; have := HJ5.out; have := HJ8.out; have := HK4.out; omega
               case rel => exact ⟨(x0_1.extract (t205 : Int).toNat x0_1.size), (x3_4), (by first | rfl | (simp; done) | (simp [*]; done)), H', ⟨by have := HK1.out; have := HJ5.out; have := HJ8.out; have := HK4.out; omega⟩, ⟨by (with_reducible repeat (first | apply r1_ | apply r2_ | apply r3_)); exact HO_3.out⟩, ⟨by repeat (first | (with_reducible first | exact HB.out | apply b1_ | apply b2_ | apply b3_) | exact HB.out)⟩⟩
             rw [if_neg c42] at H
             exact absurd H (by simp)
           rw [if_neg c41] at H
           exact absurd H (by simp)
   rw [if_neg c4] at H
   have c4b0 : decide (0 < (x0_1.size : Int)) = false := decide_eq_false c4
   have c4b1 : decide (0 < x0_1.size) = false := decide_eq_false (by omega)
   clear c4
   by_cases c43 : x3_1.length < 140737488355328
   · rw [if_pos c43] at H
     have LMc43 := am_ c43
     clear c43
     obtain ⟨y201, hy201⟩ : ∃ y_ : List Int, y_ = (x3_1 ++ [34]) := ⟨_, rfl⟩
     replace H : (some (strOfNums y201)) = some r := by first | (rw [hy201]; with_reducible exact H) | (have H2_ := (Option.bind_some _ _).symm.trans H; rw [hy201]; with_reducible exact H2_) | (have H2_ := (Option.bind_some _ _).symm.trans H; with_reducible exact H2_) | with_reducible exact H | (rw [hy201]; exact H) | exact H
     have Ny201 := am_ hy201
     clear hy201
     obtain rfl := Option.some.inj H
     go_wp2_with (first | ((with_reducible refine gate_builtin (b := .append) (xs := #[.tmp 70, .tmp 71]) rfl ?_); at_builtin; refine Kd.R_append (Kd.int .u8) (w0 := w) w.heap.size rfl (.tmp 70) (.tmp 71) 38 5 (.int .u8 0) 1 rfl Tryz.underlying38 info5 rfl (by decide) (by omega) u3 x3_1 34 [.int .u8 34] (fun _ => True) (fun _ => False) rfl rfl ?aP (fun _ hk => hk.elim) ?aF ?aO ?aB ?aS ?aL ?_; (case aP => exact rfl); (case aB => exact (by repeat (first | (with_reducible first | exact HB.out | apply b1_ | apply b2_ | apply b3_) | exact HB.out))); (case aF => exact (fun _ _ => trivial)); (case aO => exact (by (with_reducible repeat (first | apply r1_ | apply r2_ | apply r3_)); exact HO_3.out)); (case aS => exact (below_size (by repeat (first | (with_reducible first | exact HB.out | apply b1_ | apply b2_ | apply b3_) | exact HB.out)))); (case aL => have := LMc43.out; omega); intro v202 w44 ho hb hg hat; rw [← Ny201.out] at ho; replace HB := am_ (hb); have HO203 := am_ (ho); clear HO_3; clear ho hb hg hat; have hcv45 := own_string (P := Tryz.prog) Tryz.underlying38 Tryz.underlying5 Tryz.underlying9 (Kd.own_of_R HO203.out)))
     go_ret
     exact ⟨by first | rfl | (simp [errW_none, errW_some] <;> rfl) | (simp [*, errW_none, errW_some] <;> rfl), by repeat (first | (with_reducible first | exact HB.out | apply b1_ | apply b2_ | apply b3_) | exact HB.out)⟩
   rw [if_neg c43] at H
   exact absurd H (by simp)
end Go.Proofs.YtndbbgihpoiojaaGreatDoor.Q
namespace Go.Proofs.YtndbbgihpoiojaaGreatDoor.Q
open Go.RowKit Go.Proofs.YtndbbgihpoiojaaGreatDoorW.PrintWords Go.Proofs.YtndbbgihpoiojaaGreatDoorW.PrintLast Go.Proofs.YtndbbgihpoiojaaGreatDoorW.PrintMore
attribute [local go_sem] max2_int min2_int max_two min_two max_three min_three max_four min_four   -- for this text's walks alone
attribute [local go_sem high] eqA37
mutual
def cloisterref26_Tell.j0 : Nat → List ByteArray → Int → Int → Int → Int → Int → Bool → List Int → List (S62) → Bool → Int → Option (ByteArray)
 | 0, _, _, _, _, _, _, _, _, _, _, _ => none
 | k + 1, x3, x216000, x216001, x216002, x216003, x216004, x216005, x216006, x216007, x216008, x216009 => if x216005 = true then (if x3.length < 8796093022208 then (cloisterref26_Tell.j1 k (x3 ++ [(⟨#[102, 111, 117, 110, 100]⟩ : ByteArray)]) x216000 x216001 x216002 x216003 x216004 x216005 x216006 x216007 x216008 x216009) else (none)) else (cloisterref26_Tell.j1 k x3 x216000 x216001 x216002 x216003 x216004 x216005 x216006 x216007 x216008 x216009)
def cloisterref26_Tell.j1 : Nat → List ByteArray → Int → Int → Int → Int → Int → Bool → List Int → List (S62) → Bool → Int → Option (ByteArray)
 | 0, _, _, _, _, _, _, _, _, _, _, _ => none
 | k + 1, x3, x216000, x216001, x216002, x216003, x216004, x216005, x216006, x216007, x216008, x216009 => if (x216006.length : Int) > 0 then ((cloisterref26_Quote.f k (strOfNums x216006)).bind fun t233 => ((some (([(⟨#[118, 97, 108, 117, 101]⟩ : ByteArray), t233] : List ByteArray) : List ByteArray)).bind fun y234 => (if x3.length + y234.length < 8796093022208 then (cloisterref26_Tell.j2 k (x3 ++ y234) x216000 x216001 x216002 x216003 x216004 x216005 x216006 x216007 x216008 x216009) else (none)))) else (cloisterref26_Tell.j2 k x3 x216000 x216001 x216002 x216003 x216004 x216005 x216006 x216007 x216008 x216009)
def cloisterref26_Tell.j2 : Nat → List ByteArray → Int → Int → Int → Int → Int → Bool → List Int → List (S62) → Bool → Int → Option (ByteArray)
 | 0, _, _, _, _, _, _, _, _, _, _, _ => none
 | k + 1, x3, x216000, x216001, x216002, x216003, x216004, x216005, x216006, x216007, x216008, x216009 => if (x216007.length : Int) > 0 then ((strconv_Itoa.f (x216007.length : Int)).bind fun t240 => ((some (([(⟨#[112, 97, 105, 114, 115]⟩ : ByteArray), t240] : List ByteArray) : List ByteArray)).bind fun y241 => (if x3.length + y241.length < 8796093022208 then (cloisterref26_Tell.l0 k (x3 ++ y241) x216007 (x216007.length : Int) 0 x216000 x216001 x216002 x216003 x216004 x216005 x216006 x216007 x216008 x216009) else (none)))) else (cloisterref26_Tell.j4 k x3 x216000 x216001 x216002 x216003 x216004 x216005 x216006 x216007 x216008 x216009)
def cloisterref26_Tell.j4 : Nat → List ByteArray → Int → Int → Int → Int → Int → Bool → List Int → List (S62) → Bool → Int → Option (ByteArray)
 | 0, _, _, _, _, _, _, _, _, _, _, _ => none
 | k + 1, x3, x216000, x216001, x216002, x216003, x216004, x216005, x216006, x216007, x216008, x216009 => if x216008 = true then (if x3.length < 8796093022208 then (cloisterref26_Tell.j5 k (x3 ++ [(⟨#[109, 111, 114, 101]⟩ : ByteArray)]) x216000 x216001 x216002 x216003 x216004 x216005 x216006 x216007 x216008 x216009) else (none)) else (cloisterref26_Tell.j5 k x3 x216000 x216001 x216002 x216003 x216004 x216005 x216006 x216007 x216008 x216009)
def cloisterref26_Tell.j5 : Nat → List ByteArray → Int → Int → Int → Int → Int → Bool → List Int → List (S62) → Bool → Int → Option (ByteArray)
 | 0, _, _, _, _, _, _, _, _, _, _, _ => none
 | k + 1, x3, x216000, x216001, x216002, x216003, x216004, x216005, x216006, x216007, x216008, x216009 => if x216009 = 0 then ((cloisterref26_line.f k x3).bind fun t260 => (some t260)) else ((strconv_Itoa.f x216009).bind fun t261 => ((some (([(⟨#[115, 116, 97, 109, 112]⟩ : ByteArray), t261] : List ByteArray) : List ByteArray)).bind fun y262 => (if x3.length + y262.length < 8796093022208 then ((cloisterref26_line.f k (x3 ++ y262)).bind fun t268 => (some t268)) else (none))))
def cloisterref26_Tell.l0 : Nat → List ByteArray → List (S62) → Int → Int → Int → Int → Int → Int → Int → Bool → List Int → List (S62) → Bool → Int → Option (ByteArray)
 | 0, _, _, _, _, _, _, _, _, _, _, _, _, _, _ => none
 | k + 1, x3, x59, x60, x61, x216000, x216001, x216002, x216003, x216004, x216005, x216006, x216007, x216008, x216009 => if x61 < x60 then (if 0 ≤ x61 then (if x61 < (x59.length : Int) then ((cloisterref26_Quote.f k ((rd_T62 x59 x61).f0)).bind fun t249 => ((cloisterref26_Quote.f k (strOfNums ((rd_T62 x59 x61).f1))).bind fun t250 => ((some (([t249, t250] : List ByteArray) : List ByteArray)).bind fun y251 => (if x3.length + y251.length < 8796093022208 then (cloisterref26_Tell.l0 k (x3 ++ y251) x59 x60 (wrap64 (x61 + 1)) x216000 x216001 x216002 x216003 x216004 x216005 x216006 x216007 x216008 x216009) else (none))))) else (none)) else (none)) else (cloisterref26_Tell.j4 k x3 x216000 x216001 x216002 x216003 x216004 x216005 x216006 x216007 x216008 x216009)
end
def cloisterref26_Tell.f (k : Nat) (a0_0 : Int) (a0_1 : Int) (a0_2 : Int) (a0_3 : Int) (a0_4 : Int) (a0_5 : Bool) (l0_6 : List Int) (l0_7 : List (S62)) (a0_8 : Bool) (a0_9 : Int) : Option (ByteArray) := (strconv_Itoa.f a0_0).bind fun t216 => ((strconv_Itoa.f a0_1).bind fun t217 => ((strconv_Itoa.f a0_2).bind fun t218 => ((some (([(⟨#[115, 108, 111, 116]⟩ : ByteArray), t216, (⟨#[115, 101, 115, 115, 105, 111, 110]⟩ : ByteArray), t217, (⟨#[99, 111, 100, 101]⟩ : ByteArray), t218] : List ByteArray) : List ByteArray)).bind fun y219 => (if (!(a0_3 == 0) || (!(a0_4 == 0))) = true then ((strconv_Itoa.f a0_3).bind fun t222 => ((strconv_Itoa.f a0_4).bind fun t223 => ((some (([(⟨#[116, 120, 110]⟩ : ByteArray), t222, t223] : List ByteArray) : List ByteArray)).bind fun y224 => (if y219.length + y224.length < 8796093022208 then (cloisterref26_Tell.j0 k (y219 ++ y224) a0_0 a0_1 a0_2 a0_3 a0_4 a0_5 l0_6 l0_7 a0_8 a0_9) else (none))))) else (cloisterref26_Tell.j0 k y219 a0_0 a0_1 a0_2 a0_3 a0_4 a0_5 l0_6 l0_7 a0_8 a0_9)))))
def cloisterref26_Tell.T1 : Bool × List (List Nat × List Nat) := (true, [([], []), ([0], [0]), ([1], [1]), ([], []), ([3], [3]), ([4, 2], [4]), ([], []), ([6], [6]), ([7, 5], [7]), ([2, 5, 8], [2, 5, 8]), ([9, 8, 0, 1, 2, 3, 4, 5, 6, 7, 8, 9], [9])])
def cloisterref26_Tell.B1 : List Nat := [0, 1, 3, 0, 8, 31, 0, 64, 255, 511, 1023]
theorem cloisterref26_Tell.tab1 : rtab .any (opsOf Tryz.f19 1) = cloisterref26_Tell.T1 := by kernel_rfl
theorem cloisterref26_Tell.bits1 : waitsOk cloisterref26_Tell.T1.2 cloisterref26_Tell.B1 = true := by kernel_rfl
def cloisterref26_Tell.T3 : Bool × List (List Nat × List Nat) := (true, [([], []), ([], []), ([1], [1]), ([2], [2]), ([3], [3]), ([], []), ([5], [5]), ([6], [6]), ([7, 4], [7]), ([4, 8], [4, 8]), ([0, 9, 8], [0, 9]), ([10, 10, 0, 1, 2, 3, 4, 5, 6, 7, 8, 9, 10], [0, 10])])
def cloisterref26_Tell.B3 : List Nat := [0, 0, 2, 6, 14, 0, 32, 96, 254, 510, 1023, 2047]
theorem cloisterref26_Tell.tab3 : rtab .any (opsOf Tryz.f19 3) = cloisterref26_Tell.T3 := by kernel_rfl
theorem cloisterref26_Tell.bits3 : waitsOk cloisterref26_Tell.T3.2 cloisterref26_Tell.B3 = true := by kernel_rfl
def cloisterref26_Tell.T13 : Bool × List (List Nat × List Nat) := (true, [([], []), ([], []), ([1], [1]), ([2], [2]), ([], []), ([4], [4]), ([5], [5]), ([6, 3], [6]), ([3, 7], [3, 7]), ([0, 8, 7], [0, 8]), ([9, 9, 0, 1, 2, 3, 4, 5, 6, 7, 8, 9], [0, 9])])
def cloisterref26_Tell.B13 : List Nat := [0, 0, 2, 6, 0, 16, 48, 126, 254, 511, 1023]
theorem cloisterref26_Tell.tab13 : rtab .any (opsOf Tryz.f19 13) = cloisterref26_Tell.T13 := by kernel_rfl
theorem cloisterref26_Tell.bits13 : waitsOk cloisterref26_Tell.T13.2 cloisterref26_Tell.B13 = true := by kernel_rfl
theorem cloisterref26_Tell.c215 {w : World} {g : Nat} {a0_0 : Int} {a0_1 : Int} {a0_2 : Int} {a0_3 : Int} {a0_4 : Int} {a0_5 : Bool} {A0_6 : Option Addr} {c0_6 : Nat} {l0_6 : List Int} {A0_7 : Option Addr} {c0_7 : Nat} {l0_7 : List (S62)} {a0_8 : Bool} {a0_9 : Int} (h : w.heap[g]? = some (.cells #[.int .i64 a0_0, .int .i64 a0_1, .int .i64 a0_2, .int .i64 a0_3, .int .i64 a0_4, .bool a0_5, .slice A0_6 l0_6.length c0_6, .slice A0_7 l0_7.length c0_7, .bool a0_8, .int .i64 a0_9] 41 (0, 0))) : (w.cell? ⟨g, 0, none⟩ = some (.int .i64 a0_0) ∧ w.cell? ⟨g, 1, none⟩ = some (.int .i64 a0_1) ∧ w.cell? ⟨g, 2, none⟩ = some (.int .i64 a0_2) ∧ w.cell? ⟨g, 3, none⟩ = some (.int .i64 a0_3) ∧ w.cell? ⟨g, 4, none⟩ = some (.int .i64 a0_4) ∧ w.cell? ⟨g, 5, none⟩ = some (.bool a0_5) ∧ w.cell? ⟨g, 6, none⟩ = some (.slice A0_6 l0_6.length c0_6) ∧ w.cell? ⟨g, 7, none⟩ = some (.slice A0_7 l0_7.length c0_7) ∧ w.cell? ⟨g, 8, none⟩ = some (.bool a0_8) ∧ w.cell? ⟨g, 9, none⟩ = some (.int .i64 a0_9)) ∧ w.frozen? ⟨g, 0, none⟩ = false ∧ w.frozen? ⟨g, 1, none⟩ = false ∧ w.frozen? ⟨g, 2, none⟩ = false ∧ w.frozen? ⟨g, 3, none⟩ = false ∧ w.frozen? ⟨g, 4, none⟩ = false ∧ w.frozen? ⟨g, 5, none⟩ = false ∧ w.frozen? ⟨g, 6, none⟩ = false ∧ w.frozen? ⟨g, 7, none⟩ = false ∧ w.frozen? ⟨g, 8, none⟩ = false ∧ w.frozen? ⟨g, 9, none⟩ = false := ⟨(c10_ h), blk_frozen h 0, blk_frozen h 1, blk_frozen h 2, blk_frozen h 3, blk_frozen h 4, blk_frozen h 5, blk_frozen h 6, blk_frozen h 7, blk_frozen h 8, blk_frozen h 9⟩
theorem cloisterref26_Tell.calls (k : Nat) (a0_0 : Int) (a0_1 : Int) (a0_2 : Int) (a0_3 : Int) (a0_4 : Int) (a0_5 : Bool) (A0_6 : Option Addr) (c0_6 : Nat) (l0_6 : List Int) (A0_7 : Option Addr) (c0_7 : Nat) (l0_7 : List (S62)) (a0_8 : Bool) (a0_9 : Int) (r : ByteArray) (w : World) (hr0_6 : Kd.C (Kd.int .u8) w A0_6 l0_6.length l0_6) (hc0_6 : l0_6.length ≤ c0_6) (hr0_7 : Kd.C k62 w A0_7 l0_7.length l0_7) (hc0_7 : l0_7.length ≤ c0_7) (hE : sc.Env w) (h : cloisterref26_Tell.f k a0_0 a0_1 a0_2 a0_3 a0_4 a0_5 l0_6 l0_7 a0_8 a0_9 = some r) :
 Calls Tryz.prog 19 #[.agg #[.int .i64 a0_0, .int .i64 a0_1, .int .i64 a0_2, .int .i64 a0_3, .int .i64 a0_4, .bool a0_5, .slice A0_6 l0_6.length c0_6, .slice A0_7 l0_7.length c0_7, .bool a0_8, .int .i64 a0_9]] w fun e w' => e = .returned (.string r) ∧ Below w.heap.size w w' := by
 have hu41 := Tryz.underlying41
 have hu37 := Tryz.underlying37
 have hu62 := Tryz.underlying62
 have HR0_6 := am_ hr0_6
 have HC0_6 := am_ hc0_6
 clear hr0_6 hc0_6
 have HR0_7 := am_ hr0_7
 have HC0_7 := am_ hc0_7
 clear hr0_7 hc0_7
 have HE := am_ hE
 clear hE
 have HB := am_ (Below.refl w.heap.size w)
 have H : ((strconv_Itoa.f a0_0).bind fun t216 => ((strconv_Itoa.f a0_1).bind fun t217 => ((strconv_Itoa.f a0_2).bind fun t218 => ((some (([(⟨#[115, 108, 111, 116]⟩ : ByteArray), t216, (⟨#[115, 101, 115, 115, 105, 111, 110]⟩ : ByteArray), t217, (⟨#[99, 111, 100, 101]⟩ : ByteArray), t218] : List ByteArray) : List ByteArray)).bind fun y219 => (if (!(a0_3 == 0) || (!(a0_4 == 0))) = true then ((strconv_Itoa.f a0_3).bind fun t222 => ((strconv_Itoa.f a0_4).bind fun t223 => ((some (([(⟨#[116, 120, 110]⟩ : ByteArray), t222, t223] : List ByteArray) : List ByteArray)).bind fun y224 => (if y219.length + y224.length < 8796093022208 then (cloisterref26_Tell.j0 k (y219 ++ y224) a0_0 a0_1 a0_2 a0_3 a0_4 a0_5 l0_6 l0_7 a0_8 a0_9) else (none))))) else (cloisterref26_Tell.j0 k y219 a0_0 a0_1 a0_2 a0_3 a0_4 a0_5 l0_6 l0_7 a0_8 a0_9)))))) = some r := h
 clear h
 replace H := Option.bind_eq_some_iff.mp H
 obtain ⟨t216, A20, H⟩ := H
 have A2 := am_ A20
 clear A20
 replace H := Option.bind_eq_some_iff.mp H
 obtain ⟨t217, A30, H⟩ := H
 have A3 := am_ A30
 clear A30
 replace H := Option.bind_eq_some_iff.mp H
 obtain ⟨t218, A40, H⟩ := H
 have A4 := am_ A40
 clear A40
 obtain ⟨y219, hy219⟩ : ∃ y_ : List ByteArray, y_ = (([(⟨#[115, 108, 111, 116]⟩ : ByteArray), t216, (⟨#[115, 101, 115, 115, 105, 111, 110]⟩ : ByteArray), t217, (⟨#[99, 111, 100, 101]⟩ : ByteArray), t218] : List ByteArray)) := ⟨_, rfl⟩
 replace H : (if (!(a0_3 == 0) || (!(a0_4 == 0))) = true then ((strconv_Itoa.f a0_3).bind fun t222 => ((strconv_Itoa.f a0_4).bind fun t223 => ((some (([(⟨#[116, 120, 110]⟩ : ByteArray), t222, t223] : List ByteArray) : List ByteArray)).bind fun y224 => (if y219.length + y224.length < 8796093022208 then (cloisterref26_Tell.j0 k (y219 ++ y224) a0_0 a0_1 a0_2 a0_3 a0_4 a0_5 l0_6 l0_7 a0_8 a0_9) else (none))))) else (cloisterref26_Tell.j0 k y219 a0_0 a0_1 a0_2 a0_3 a0_4 a0_5 l0_6 l0_7 a0_8 a0_9)) = some r := by first | (rw [hy219]; with_reducible exact H) | (have H2_ := (Option.bind_some _ _).symm.trans H; rw [hy219]; with_reducible exact H2_) | (have H2_ := (Option.bind_some _ _).symm.trans H; with_reducible exact H2_) | with_reducible exact H | (rw [hy219]; exact H) | exact H
 have Ny219 := am_ hy219
 clear hy219
 have HC5 := am_ H
 clear H
 go_enter Tryz.func19, Tryz.ntmps19
 try go_wp2_with (first | ((with_reducible refine gate_dst (N := 1) rfl ?_); refine box_event ?hg (N := 1) ?hd (cs := #[.int .i64 a0_0, .int .i64 a0_1, .int .i64 a0_2, .int .i64 a0_3, .int .i64 a0_4, .bool a0_5, .slice A0_6 l0_6.length c0_6, .slice A0_7 l0_7.length c0_7, .bool a0_8, .int .i64 a0_9]) (t := 41) ?hr ?_; (case hd => rfl); (case hg => rfl); (case hr => first | (go_simp; done) | (go_simp; rfl)); intro gb215 hg w6 hbox hb; have BK215 := am_ (hbox); have GW215 := am_ ((by rw [hg]; exact (below_size (by repeat (first | (with_reducible first | exact HB.out | apply b1_ | apply b2_ | apply b3_) | exact HB.out))) : w.heap.size ≤ gb215)); have GE215 := am_ ((by rw [hg]; exact (below_size (by repeat (first | (with_reducible first | exact HB.out | apply b1_ | apply b2_ | apply b3_) | exact HB.out))) : w.heap.size ≤ gb215)); replace HB := am_ (below_step (by repeat (first | (with_reducible first | exact HB.out | apply b1_ | apply b2_ | apply b3_) | exact HB.out)) hb); clear hb hbox hg))
 replace BK215 := am_ (d2_ BK215.out)
 replace HB := am_ (b3_ HB.out)
 refine start_ (n := 11) (S := fun w' => w'.cell? ⟨gb215, 0, none⟩ = some (.int .i64 a0_0) ∧ w'.cell? ⟨gb215, 1, none⟩ = some (.int .i64 a0_1) ∧ w'.cell? ⟨gb215, 2, none⟩ = some (.int .i64 a0_2) ∧ w'.cell? ⟨gb215, 3, none⟩ = some (.int .i64 a0_3) ∧ w'.cell? ⟨gb215, 4, none⟩ = some (.int .i64 a0_4) ∧ w'.cell? ⟨gb215, 5, none⟩ = some (.bool a0_5) ∧ w'.cell? ⟨gb215, 6, none⟩ = some (.slice A0_6 l0_6.length c0_6) ∧ w'.cell? ⟨gb215, 7, none⟩ = some (.slice A0_7 l0_7.length c0_7) ∧ w'.cell? ⟨gb215, 8, none⟩ = some (.bool a0_8) ∧ w'.cell? ⟨gb215, 9, none⟩ = some (.int .i64 a0_9)) (ds := []) #[false, false, false, false, false, false, false, false, false, false, false] (by kernel_rfl) rfl rfl (cloisterref26_Tell.c215 BK215.out).1 (fun hHeld => ?_); refine with_tabW cloisterref26_Tell.tab1 cloisterref26_Tell.bits1 (fun HT_ HW_ => ?_)
 generalize w6.drew = w7 at BK215 HB hHeld ⊢
 refine pu_ 0 6 (bs_ 11 1) rfl rfl (any_of HT_.out (by kernel_rfl)) rfl (by intro w'; go_simp; with_reducible rfl) (by simp only [Act.put, aS, aZ, aC, i64_w, i32_w]; rfl) (fun _ _ _ h => h) ?_
 refine pu_ 3 9 (bs_ 11 9) rfl rfl (any_of HT_.out (by kernel_rfl)) rfl (by intro w'; go_simp; with_reducible rfl) (by simp only [Act.put, aS, aZ, aC, i64_w, i32_w]; rfl) (fun _ _ _ h => h) ?_
 refine pu_ 6 12 (bs_ 11 73) rfl rfl (any_of HT_.out (by kernel_rfl)) rfl (by intro w'; go_simp; with_reducible rfl) (by simp only [Act.put, aS, aZ, aC, i64_w, i32_w]; rfl) (fun _ _ _ h => h) ?_
 refine ta_ 1 7 (bs_ 11 75) rfl rfl (take_ofW HT_.out HW_.out (by kernel_rfl)) rfl (by rintro w' ⟨s0, s1, s2, s3, s4, s5, s6, s7, s8, s9⟩; go_simp; with_reducible rfl) hHeld (by simp only [Act.put, aS, aZ, aC, i64_w, i32_w]; rfl) (fun _ _ _ h => h) ?_
 refine ta_ 4 10 (bs_ 11 91) rfl rfl (take_ofW HT_.out HW_.out (by kernel_rfl)) rfl (by rintro w' ⟨s0, s1, s2, s3, s4, s5, s6, s7, s8, s9⟩; go_simp; with_reducible rfl) hHeld (by simp only [Act.put, aS, aZ, aC, i64_w, i32_w]; rfl) (fun _ _ _ h => h) ?_
 refine ta_ 7 13 (bs_ 11 219) rfl rfl (take_ofW HT_.out HW_.out (by kernel_rfl)) rfl (by rintro w' ⟨s0, s1, s2, s3, s4, s5, s6, s7, s8, s9⟩; go_simp; with_reducible rfl) hHeld (by simp only [Act.put, aS, aZ, aC, i64_w, i32_w]; rfl) (fun _ _ _ h => h) ?_
 refine one_ (i := 2) (N := some 8) (bs_ 11 223) rfl rfl (one_of HT_.out (by kernel_rfl)) (by decide) (fun K hK => ?_)
 refine goes_ Tryz.func29 (by kernel_rfl) rfl #[.int .i64 a0_0] (by rfl) rfl rfl (by (try simp only [aT, aK, aL]); first | done | rfl | (simp only [List.length_drop, List.length_take]; rfl)) ?_
 with_reducible refine (strconv_Itoa.calls a0_0 t216 _ ?side1 A2.out).mono ?_
 (case side1 => exact sc.Env.below HE.out (by repeat (first | (with_reducible first | exact HB.out | apply b1_ | apply b2_ | apply b3_ | refine b4_ ?_ GE215.out) | exact HB.out)))
 rintro e w8 ⟨rfl, hb⟩
 refine ⟨_, rfl, ?_⟩
 replace BK215 := am_ (blk_below (by (with_reducible repeat (first | refine d1_ ?_ _ | refine d2_ ?_ | refine d3_ ?_ _)); exact BK215.out) hb)
 replace HB := am_ (below_step (by repeat (first | (with_reducible first | exact HB.out | apply b1_ | apply b2_ | apply b3_ | refine b4_ ?_ GE215.out) | exact HB.out)) hb)
 (try clear hb)
 (try clear hk)
 refine hK.out _ _ (cloisterref26_Tell.c215 BK215.out).1 (fun hHeld => ?_)
 clear hK K
 refine no_ (by simp only [Act.put, aS, aZ, aC, i64_w, i32_w]; rfl) ?_
 refine one_ (i := 5) (N := some 11) (bs_ 11 255) rfl rfl (one_of HT_.out (by kernel_rfl)) (by decide) (fun K hK => ?_)
 refine goes_ Tryz.func29 (by kernel_rfl) rfl #[.int .i64 a0_1] (by rfl) rfl rfl (by (try simp only [aT, aK, aL]); first | done | rfl | (simp only [List.length_drop, List.length_take]; rfl)) ?_
 with_reducible refine (strconv_Itoa.calls a0_1 t217 _ ?side1 A3.out).mono ?_
 (case side1 => exact sc.Env.below HE.out (by repeat (first | (with_reducible first | exact HB.out | apply b1_ | apply b2_ | apply b3_ | refine b4_ ?_ GE215.out) | exact HB.out)))
 rintro e w9 ⟨rfl, hb⟩
 refine ⟨_, rfl, ?_⟩
 replace BK215 := am_ (blk_below (by (with_reducible repeat (first | refine d1_ ?_ _ | refine d2_ ?_ | refine d3_ ?_ _)); exact BK215.out) hb)
 replace HB := am_ (below_step (by repeat (first | (with_reducible first | exact HB.out | apply b1_ | apply b2_ | apply b3_ | refine b4_ ?_ GE215.out) | exact HB.out)) hb)
 (try clear hb)
 (try clear hk)
 refine hK.out _ _ (cloisterref26_Tell.c215 BK215.out).1 (fun hHeld => ?_)
 clear hK K
 refine no_ (by simp only [Act.put, aS, aZ, aC, i64_w, i32_w]; rfl) ?_
 refine one_ (i := 8) (N := some 14) (bs_ 11 511) rfl rfl (one_of HT_.out (by kernel_rfl)) (by decide) (fun K hK => ?_)
 refine goes_ Tryz.func29 (by kernel_rfl) rfl #[.int .i64 a0_2] (by rfl) rfl rfl (by (try simp only [aT, aK, aL]); first | done | rfl | (simp only [List.length_drop, List.length_take]; rfl)) ?_
 with_reducible refine (strconv_Itoa.calls a0_2 t218 _ ?side1 A4.out).mono ?_
 (case side1 => exact sc.Env.below HE.out (by repeat (first | (with_reducible first | exact HB.out | apply b1_ | apply b2_ | apply b3_ | refine b4_ ?_ GE215.out) | exact HB.out)))
 rintro e w10 ⟨rfl, hb⟩
 refine ⟨_, rfl, ?_⟩
 replace BK215 := am_ (blk_below (by (with_reducible repeat (first | refine d1_ ?_ _ | refine d2_ ?_ | refine d3_ ?_ _)); exact BK215.out) hb)
 replace HB := am_ (below_step (by repeat (first | (with_reducible first | exact HB.out | apply b1_ | apply b2_ | apply b3_ | refine b4_ ?_ GE215.out) | exact HB.out)) hb)
 (try clear hb)
 (try clear hk)
 refine hK.out _ _ (cloisterref26_Tell.c215 BK215.out).1 (fun hHeld => ?_)
 clear hK K
 refine no_ (by simp only [Act.put, aS, aZ, aC, i64_w, i32_w]; rfl) ?_
 refine one_ (i := 9) (N := some 15) (bs_ 11 1023) rfl rfl (one_of HT_.out (by kernel_rfl)) (by decide) (fun K hK => ?_)
 refine Kd.R_lit_step Kd.string _ 9 ?hg (N := 15) ?hd (xs := ([(⟨#[115, 108, 111, 116]⟩ : ByteArray), t216, (⟨#[115, 101, 115, 115, 105, 111, 110]⟩ : ByteArray), t217, (⟨#[99, 111, 100, 101]⟩ : ByteArray), t218] : List ByteArray)) (inner := [.string (⟨#[115, 108, 111, 116]⟩ : ByteArray), .string t216, .string (⟨#[115, 101, 115, 115, 105, 111, 110]⟩ : ByteArray), .string t217, .string (⟨#[99, 111, 100, 101]⟩ : ByteArray), .string t218]) (ok := fun _ => True) (okp := fun _ => True) ?hr ?hp (fun _ hk => hk) trivial (Below.refl _ _) (Nat.le_refl _) (by simp) ?_; (case hd => rfl); (case hg => rfl); (case hr => first | (go_simp; done) | (go_simp; rfl)); (case hp => exact (Reps.one (show Kd.M Kd.string _ _ _ (⟨#[115, 108, 111, 116]⟩ : ByteArray) [.string (⟨#[115, 108, 111, 116]⟩ : ByteArray)] from rfl) (Reps.one (show Kd.M Kd.string _ _ _ t216 [.string t216] from rfl) (Reps.one (show Kd.M Kd.string _ _ _ (⟨#[115, 101, 115, 115, 105, 111, 110]⟩ : ByteArray) [.string (⟨#[115, 101, 115, 115, 105, 111, 110]⟩ : ByteArray)] from rfl) (Reps.one (show Kd.M Kd.string _ _ _ t217 [.string t217] from rfl) (Reps.one (show Kd.M Kd.string _ _ _ (⟨#[99, 111, 100, 101]⟩ : ByteArray) [.string (⟨#[99, 111, 100, 101]⟩ : ByteArray)] from rfl) (Reps.one (show Kd.M Kd.string _ _ _ t218 [.string t218] from rfl) (Reps.none _ _))))))))
 intro v220 w11 ho12 hb hg_ hnew_
 clear hg_ hnew_
 (first | rw [← Ny219.out] at ho12 | (simp only [Int.reduceToNat] at ho12; rw [← Ny219.out] at ho12))
 have HO221 := am_ (Kd.R_lower ho12 (below_size (by repeat (first | (with_reducible first | exact HB.out | apply b1_ | apply b2_ | apply b3_ | refine b4_ ?_ GE215.out) | exact HB.out))))
 replace BK215 := am_ (blk_below (by (with_reducible repeat (first | refine d1_ ?_ _ | refine d2_ ?_ | refine d3_ ?_ _)); exact BK215.out) hb)
 replace HB := am_ (below_step (by repeat (first | (with_reducible first | exact HB.out | apply b1_ | apply b2_ | apply b3_ | refine b4_ ?_ GE215.out) | exact HB.out)) hb)
 clear hb ho12
 refine hK.out _ _ (cloisterref26_Tell.c215 BK215.out).1 (fun hHeld => ?_)
 clear hK K
 refine no_ (by simp only [Act.put, aS, aZ, aC, i64_w, i32_w]; rfl) ?_
 refine pu_ 10 3 (bs_ 11 2047) rfl rfl (any_of HT_.out (by kernel_rfl)) rfl (by intro w'; go_simp; with_reducible rfl) (by simp only [Act.put, aS, aZ, aC, i64_w, i32_w]; rfl) (fun _ _ _ h => h) ?_
 refine done_ (done_of HT_.out (by kernel_rfl)) ?_
 obtain ⟨⟨hcz13_0, hcz13_1, hcz13_2, hcz13_3, hcz13_4, hcz13_5, hcz13_6, hcz13_7, hcz13_8, hcz13_9⟩, hfz13_0, hfz13_1, hfz13_2, hfz13_3, hfz13_4, hfz13_5, hfz13_6, hfz13_7, hfz13_8, hfz13_9⟩ := cloisterref26_Tell.c215 BK215.out
 go_upto_if 19 with (fail)
 go_cut [3] (fun v3 wc => ∃ (kq : Nat) (x3_4 : List ByteArray), Aside0 (cloisterref26_Tell.j0 kq x3_4 a0_0 a0_1 a0_2 a0_3 a0_4 a0_5 l0_6 l0_7 a0_8 a0_9 = some r) ∧ Aside0 (kq ≤ k) ∧ Aside0 (Kd.R Kd.string 9 wc w.heap.size (fun _ => True) v3 x3_4) ∧ Aside0 (wc.heap[gb215]? = some (.cells #[.int .i64 a0_0, .int .i64 a0_1, .int .i64 a0_2, .int .i64 a0_3, .int .i64 a0_4, .bool a0_5, (.slice A0_6 l0_6.length c0_6), (.slice A0_7 l0_7.length c0_7), .bool a0_8, .int .i64 a0_9] 41 (0, 0))) ∧ Aside0 (Below w.heap.size w wc))
 case first =>
  have H := HC5.out
  clear HC5
  by_cases c14 : (!(a0_3 == 0) || (!(a0_4 == 0))) = true
  · rw [if_pos c14] at H
    have c14b0 : (!(a0_3 == 0) || (!(a0_4 == 0))) = true := c14
    clear c14
    (first | rw [c14b0] | rw [c14b1] | rw [c14b2] | (simp only [i64_w, i32_w]; rw [c14b0]) | (simp only [i64_w, i32_w]; rw [c14b1]) | skip)
    replace H := Option.bind_eq_some_iff.mp H
    obtain ⟨t222, A150, H⟩ := H
    have A15 := am_ A150
    clear A150
    replace H := Option.bind_eq_some_iff.mp H
    obtain ⟨t223, A160, H⟩ := H
    have A16 := am_ A160
    clear A160
    obtain ⟨y224, hy224⟩ : ∃ y_ : List ByteArray, y_ = (([(⟨#[116, 120, 110]⟩ : ByteArray), t222, t223] : List ByteArray)) := ⟨_, rfl⟩
    replace H : (if y219.length + y224.length < 8796093022208 then (cloisterref26_Tell.j0 k (y219 ++ y224) a0_0 a0_1 a0_2 a0_3 a0_4 a0_5 l0_6 l0_7 a0_8 a0_9) else (none)) = some r := by first | (rw [hy224]; with_reducible exact H) | (have H2_ := (Option.bind_some _ _).symm.trans H; rw [hy224]; with_reducible exact H2_) | (have H2_ := (Option.bind_some _ _).symm.trans H; with_reducible exact H2_) | with_reducible exact H | (rw [hy224]; exact H) | exact H
    have Ny224 := am_ hy224
    clear hy224
    by_cases c17 : y219.length + y224.length < 8796093022208
    · rw [if_pos c17] at H
      have LMc17 := am_ c17
      clear c17
      obtain ⟨y227, hy227⟩ : ∃ y_ : List ByteArray, y_ = (y219 ++ y224) := ⟨_, rfl⟩
      replace H : (cloisterref26_Tell.j0 k y227 a0_0 a0_1 a0_2 a0_3 a0_4 a0_5 l0_6 l0_7 a0_8 a0_9) = some r := by first | (rw [hy227]; with_reducible exact H) | (have H2_ := (Option.bind_some _ _).symm.trans H; rw [hy227]; with_reducible exact H2_) | (have H2_ := (Option.bind_some _ _).symm.trans H; with_reducible exact H2_) | with_reducible exact H | (rw [hy227]; exact H) | exact H
      have Ny227 := am_ hy227
      clear hy227
      have H' := am_ H
      clear H
      try go_wp2
      replace HO221 := am_ (r3_ HO221.out)
      replace BK215 := am_ (d2_ BK215.out)
      replace HB := am_ (b3_ HB.out)
      refine start_ (n := 12) (S := fun w' => w'.cell? ⟨gb215, 0, none⟩ = some (.int .i64 a0_0) ∧ w'.cell? ⟨gb215, 1, none⟩ = some (.int .i64 a0_1) ∧ w'.cell? ⟨gb215, 2, none⟩ = some (.int .i64 a0_2) ∧ w'.cell? ⟨gb215, 3, none⟩ = some (.int .i64 a0_3) ∧ w'.cell? ⟨gb215, 4, none⟩ = some (.int .i64 a0_4) ∧ w'.cell? ⟨gb215, 5, none⟩ = some (.bool a0_5) ∧ w'.cell? ⟨gb215, 6, none⟩ = some (.slice A0_6 l0_6.length c0_6) ∧ w'.cell? ⟨gb215, 7, none⟩ = some (.slice A0_7 l0_7.length c0_7) ∧ w'.cell? ⟨gb215, 8, none⟩ = some (.bool a0_8) ∧ w'.cell? ⟨gb215, 9, none⟩ = some (.int .i64 a0_9)) (ds := []) #[false, false, false, false, false, false, false, false, false, false, false, false] (by kernel_rfl) rfl rfl (cloisterref26_Tell.c215 BK215.out).1 (fun hHeld => ?_); refine with_tabW cloisterref26_Tell.tab3 cloisterref26_Tell.bits3 (fun HT_ HW_ => ?_)
      generalize w11.drew = w18 at HO221 BK215 HB hHeld ⊢
      refine pu_ 0 20 (bs_ 12 1) rfl rfl (any_of HT_.out (by kernel_rfl)) rfl (by intro w'; go_simp; with_reducible rfl) (by simp only [Act.put, aS, aZ, aC, i64_w, i32_w]; rfl) (fun _ _ _ h => h) ?_
      refine pu_ 1 21 (bs_ 12 3) rfl rfl (any_of HT_.out (by kernel_rfl)) rfl (by intro w'; go_simp; with_reducible rfl) (by simp only [Act.put, aS, aZ, aC, i64_w, i32_w]; rfl) (fun _ _ _ h => h) ?_
      refine pu_ 2 22 (bs_ 12 7) rfl rfl (any_of HT_.out (by kernel_rfl)) rfl (by intro w'; go_simp; with_reducible rfl) (by simp only [Act.put, aS, aZ, aC, i64_w, i32_w]; rfl) (fun _ _ _ h => h) ?_
      refine pu_ 5 25 (bs_ 12 39) rfl rfl (any_of HT_.out (by kernel_rfl)) rfl (by intro w'; go_simp; with_reducible rfl) (by simp only [Act.put, aS, aZ, aC, i64_w, i32_w]; rfl) (fun _ _ _ h => h) ?_
      refine pu_ 6 26 (bs_ 12 103) rfl rfl (any_of HT_.out (by kernel_rfl)) rfl (by intro w'; go_simp; with_reducible rfl) (by simp only [Act.put, aS, aZ, aC, i64_w, i32_w]; rfl) (fun _ _ _ h => h) ?_
      refine ta_ 3 23 (bs_ 12 111) rfl rfl (take_ofW HT_.out HW_.out (by kernel_rfl)) rfl (by rintro w' ⟨s0, s1, s2, s3, s4, s5, s6, s7, s8, s9⟩; go_simp; with_reducible rfl) hHeld (by simp only [Act.put, aS, aZ, aC, i64_w, i32_w]; rfl) (fun _ _ _ h => h) ?_
      refine ta_ 7 27 (bs_ 12 239) rfl rfl (take_ofW HT_.out HW_.out (by kernel_rfl)) rfl (by rintro w' ⟨s0, s1, s2, s3, s4, s5, s6, s7, s8, s9⟩; go_simp; with_reducible rfl) hHeld (by simp only [Act.put, aS, aZ, aC, i64_w, i32_w]; rfl) (fun _ _ _ h => h) ?_
      refine one_ (i := 4) (N := some 24) (bs_ 12 255) rfl rfl (one_of HT_.out (by kernel_rfl)) (by decide) (fun K hK => ?_)
      refine goes_ Tryz.func29 (by kernel_rfl) rfl #[.int .i64 a0_3] (by rfl) rfl rfl (by (try simp only [aT, aK, aL]); first | done | rfl | (simp only [List.length_drop, List.length_take]; rfl)) ?_
      with_reducible refine (strconv_Itoa.calls a0_3 t222 _ ?side1 A15.out).mono ?_
      (case side1 => exact sc.Env.below HE.out (by repeat (first | (with_reducible first | exact HB.out | apply b1_ | apply b2_ | apply b3_ | refine b4_ ?_ GE215.out) | exact HB.out)))
      rintro e w19 ⟨rfl, hb⟩
      refine ⟨_, rfl, ?_⟩
      replace HO221 := am_ (Kd.R_below (by (with_reducible repeat (first | apply r1_ | apply r2_ | apply r3_)); exact HO221.out) hb)
      replace BK215 := am_ (blk_below (by (with_reducible repeat (first | refine d1_ ?_ _ | refine d2_ ?_ | refine d3_ ?_ _)); exact BK215.out) hb)
      replace HB := am_ (below_step (by repeat (first | (with_reducible first | exact HB.out | apply b1_ | apply b2_ | apply b3_ | refine b4_ ?_ GE215.out) | exact HB.out)) hb)
      (try clear hb)
      (try clear hk)
      refine hK.out _ _ (cloisterref26_Tell.c215 BK215.out).1 (fun hHeld => ?_)
      clear hK K
      refine no_ (by simp only [Act.put, aS, aZ, aC, i64_w, i32_w]; rfl) ?_
      refine one_ (i := 8) (N := some 28) (bs_ 12 511) rfl rfl (one_of HT_.out (by kernel_rfl)) (by decide) (fun K hK => ?_)
      refine goes_ Tryz.func29 (by kernel_rfl) rfl #[.int .i64 a0_4] (by rfl) rfl rfl (by (try simp only [aT, aK, aL]); first | done | rfl | (simp only [List.length_drop, List.length_take]; rfl)) ?_
      with_reducible refine (strconv_Itoa.calls a0_4 t223 _ ?side1 A16.out).mono ?_
      (case side1 => exact sc.Env.below HE.out (by repeat (first | (with_reducible first | exact HB.out | apply b1_ | apply b2_ | apply b3_ | refine b4_ ?_ GE215.out) | exact HB.out)))
      rintro e w20 ⟨rfl, hb⟩
      refine ⟨_, rfl, ?_⟩
      replace HO221 := am_ (Kd.R_below (by (with_reducible repeat (first | apply r1_ | apply r2_ | apply r3_)); exact HO221.out) hb)
      replace BK215 := am_ (blk_below (by (with_reducible repeat (first | refine d1_ ?_ _ | refine d2_ ?_ | refine d3_ ?_ _)); exact BK215.out) hb)
      replace HB := am_ (below_step (by repeat (first | (with_reducible first | exact HB.out | apply b1_ | apply b2_ | apply b3_ | refine b4_ ?_ GE215.out) | exact HB.out)) hb)
      (try clear hb)
      (try clear hk)
      refine hK.out _ _ (cloisterref26_Tell.c215 BK215.out).1 (fun hHeld => ?_)
      clear hK K
      refine no_ (by simp only [Act.put, aS, aZ, aC, i64_w, i32_w]; rfl) ?_
      refine one_ (i := 9) (N := some 29) (bs_ 12 1023) rfl rfl (one_of HT_.out (by kernel_rfl)) (by decide) (fun K hK => ?_)
      refine Kd.R_lit_step Kd.string _ 9 ?hg (N := 29) ?hd (xs := ([(⟨#[116, 120, 110]⟩ : ByteArray), t222, t223] : List ByteArray)) (inner := [.string (⟨#[116, 120, 110]⟩ : ByteArray), .string t222, .string t223]) (ok := fun _ => True) (okp := fun _ => True) ?hr ?hp (fun _ hk => hk) trivial (Below.refl _ _) (Nat.le_refl _) (by simp) ?_; (case hd => rfl); (case hg => rfl); (case hr => first | (go_simp; done) | (go_simp; rfl)); (case hp => exact (Reps.one (show Kd.M Kd.string _ _ _ (⟨#[116, 120, 110]⟩ : ByteArray) [.string (⟨#[116, 120, 110]⟩ : ByteArray)] from rfl) (Reps.one (show Kd.M Kd.string _ _ _ t222 [.string t222] from rfl) (Reps.one (show Kd.M Kd.string _ _ _ t223 [.string t223] from rfl) (Reps.none _ _)))))
      intro v225 w21 ho22 hb hg_ hnew_
      clear hg_ hnew_
      (first | rw [← Ny224.out] at ho22 | (simp only [Int.reduceToNat] at ho22; rw [← Ny224.out] at ho22))
      have HO226 := am_ (Kd.R_lower (Kd.R_new' ho22 (Kd.R_lt (by (with_reducible repeat (first | apply r1_ | apply r2_ | apply r3_)); exact HO221.out))) (below_size (by repeat (first | (with_reducible first | exact HB.out | apply b1_ | apply b2_ | apply b3_ | refine b4_ ?_ GE215.out) | exact HB.out))))
      replace HO221 := am_ (Kd.R_elder' (by (with_reducible repeat (first | apply r1_ | apply r2_ | apply r3_)); exact HO221.out) (Kd.R_base ho22) hb)
      replace BK215 := am_ (blk_below (by (with_reducible repeat (first | refine d1_ ?_ _ | refine d2_ ?_ | refine d3_ ?_ _)); exact BK215.out) hb)
      replace HB := am_ (below_step (by repeat (first | (with_reducible first | exact HB.out | apply b1_ | apply b2_ | apply b3_ | refine b4_ ?_ GE215.out) | exact HB.out)) hb)
      clear hb ho22
      obtain ⟨Ao24, co24, eo24⟩ := Kd.R_slice HO226.out
      (first | subst eo24 | (injection eo24 with f1_ f2_ f3_; have f4_ := f1_.symm; have f5_ := f3_.symm; clear f1_ f2_ f3_; subst f4_; subst f5_))
      refine hK.out _ _ (cloisterref26_Tell.c215 BK215.out).1 (fun hHeld => ?_)
      clear hK K
      refine no_ (by simp only [Act.put, aS, aZ, aC, i64_w, i32_w]; rfl) ?_
      refine one_ (i := 10) (N := some 30) (bs_ 12 2047) rfl rfl (one_of HT_.out (by kernel_rfl)) (by decide) (fun K hK => ?_)
      refine Kd.R_append_rows_step Kd.string (w0 := w) w.heap.size (by rfl) (.tmp 20) (.tmp 29) 71 9 (.string ⟨#[]⟩) 16 rfl Tryz.underlying71 info9 rfl (by decide) (by omega) v220 y219 y224 _ _ _ (fun k_ => some k_ ≠ (.slice Ao24 y224.length co24 : Value).ownBlock) (fun _ => False) rfl rfl ?aO ?aR (fun _ _ h => h) (fun _ h => h.elim) ?aF ?aB ?aS ?aL ?_
      (case aR => repeat (first | exact (Kd.R_reads' HO226.out).2.2 | (with_reducible refine Kd.C_alloc ?_ _) | (with_reducible refine Kd.C_drewN ?_ _) | (with_reducible refine Kd.C_drew ?_)))
      (case aB => exact (by repeat (first | (with_reducible first | exact HB.out | apply b1_ | apply b2_ | apply b3_ | refine b4_ ?_ GE215.out) | exact HB.out)))
      (case aF => exact (fun k_ hk => Kd.fresh' (Kd.R_lt (by (with_reducible repeat (first | apply r1_ | apply r2_ | apply r3_)); exact HO226.out)) k_ hk))
      (case aO => exact (by (with_reducible repeat (first | apply r1_ | apply r2_ | apply r3_)); exact Kd.R_mono HO221.out (fun _ hk => hk.2)))
      (case aS => exact (below_size (by repeat (first | (with_reducible first | exact HB.out | apply b1_ | apply b2_ | apply b3_ | refine b4_ ?_ GE215.out) | exact HB.out))))
      (case aL => have := LMc17.out; omega)
      intro v228 w23 ho hb hg hat
      rw [← Ny227.out] at ho
      replace BK215 := am_ (blk_grown (g := gb215) (o := .cells #[.int .i64 a0_0, .int .i64 a0_1, .int .i64 a0_2, .int .i64 a0_3, .int .i64 a0_4, .bool a0_5, .slice A0_6 l0_6.length c0_6, .slice A0_7 l0_7.length c0_7, .bool a0_8, .int .i64 a0_9] 41 (0, 0)) (by (with_reducible repeat (first | refine d1_ ?_ _ | refine d2_ ?_ | refine d3_ ?_ _)); exact BK215.out) hg (Kd.R_ne HO221.out BK215.out (by decide)))
      replace HO226 := am_ (Kd.R_after (ok := (fun _ => True)) (by (with_reducible repeat (first | apply r1_ | apply r2_ | apply r3_)); exact HO226.out) hg hat)
      replace HB := am_ (hb)
      have HO229 := am_ (ho)
      clear HO221
      clear ho hb hg hat
      refine hK.out _ _ (cloisterref26_Tell.c215 BK215.out).1 (fun hHeld => ?_)
      clear hK K
      refine no_ (by simp only [Act.put, aS, aZ, aC, i64_w, i32_w]; rfl) ?_
      refine pu_ 11 3 (bs_ 12 4095) rfl rfl (any_of HT_.out (by kernel_rfl)) rfl (by intro w'; go_simp; with_reducible rfl) (by simp only [Act.put, aS, aZ, aC, i64_w, i32_w]; rfl) (fun _ _ _ h => h) ?_
      refine done_ (done_of HT_.out (by kernel_rfl)) ?_
      try go_wp2
      go_meet
      case rel => exact ⟨_, (y227), H', ⟨by first | omega | exact Nat.le_refl _⟩, ⟨by (with_reducible repeat (first | apply r1_ | apply r2_ | apply r3_)); exact Kd.R_mono HO229.out (fun _ hk => trivial)⟩, ⟨by (with_reducible repeat (first | refine d1_ ?_ _ | refine d2_ ?_ | refine d3_ ?_ _)); exact BK215.out⟩, ⟨by repeat (first | (with_reducible first | exact HB.out | apply b1_ | apply b2_ | apply b3_ | refine b4_ ?_ GE215.out) | exact HB.out)⟩⟩
    rw [if_neg c17] at H
    exact absurd H (by simp)
  rw [if_neg c14] at H
  have c14b0 : (!(a0_3 == 0) || (!(a0_4 == 0))) = false := by simpa using c14
  clear c14
  (first | rw [c14b0] | rw [c14b1] | rw [c14b2] | (simp only [i64_w, i32_w]; rw [c14b0]) | (simp only [i64_w, i32_w]; rw [c14b1]) | skip)
  have H' := am_ H
  clear H
  go_wp2
  go_meet
  case rel => exact ⟨_, (y219), H', ⟨by first | omega | exact Nat.le_refl _⟩, ⟨by (with_reducible repeat (first | apply r1_ | apply r2_ | apply r3_)); exact HO221.out⟩, ⟨by (with_reducible repeat (first | refine d1_ ?_ _ | refine d2_ ?_ | refine d3_ ?_ _)); exact BK215.out⟩, ⟨by repeat (first | (with_reducible first | exact HB.out | apply b1_ | apply b2_ | apply b3_ | refine b4_ ?_ GE215.out) | exact HB.out)⟩⟩
 case rest =>
  clear HC5
  try clear c1
  try clear c2
  try clear p2
  try clear c14
  try clear c14b0
  try clear c14b1
  try clear c14b2
  try clear c17
  try clear c19
  try clear hcz13_0 hcz13_1 hcz13_2 hcz13_3 hcz13_4 hcz13_5 hcz13_6 hcz13_7 hcz13_8 hcz13_9 hfz13_0 hfz13_1 hfz13_2 hfz13_3 hfz13_4 hfz13_5 hfz13_6 hfz13_7 hfz13_8 hfz13_9
  obtain ⟨kq, x3_4, HA, HJ4, HO_3, BK215, HB⟩ := hcut
  cases kq with
  | zero => exact absurd HA.out (by simp [cloisterref26_Tell.j0])
  | succ kj4 =>
   have H := HA.out
   clear HA
   simp only [cloisterref26_Tell.j0] at H
   have HC25 := am_ H
   clear H
   obtain ⟨⟨hcz26_0, hcz26_1, hcz26_2, hcz26_3, hcz26_4, hcz26_5, hcz26_6, hcz26_7, hcz26_8, hcz26_9⟩, hfz26_0, hfz26_1, hfz26_2, hfz26_3, hfz26_4, hfz26_5, hfz26_6, hfz26_7, hfz26_8, hfz26_9⟩ := cloisterref26_Tell.c215 BK215.out
   go_upto_if 32 with (fail)
   go_cut [3] (fun v3 wc => ∃ (kq : Nat) (x3_24 : List ByteArray), Aside0 (cloisterref26_Tell.j1 kq x3_24 a0_0 a0_1 a0_2 a0_3 a0_4 a0_5 l0_6 l0_7 a0_8 a0_9 = some r) ∧ Aside0 (kq ≤ kj4) ∧ Aside0 (Kd.R Kd.string 9 wc w.heap.size (fun _ => True) v3 x3_24) ∧ Aside0 (wc.heap[gb215]? = some (.cells #[.int .i64 a0_0, .int .i64 a0_1, .int .i64 a0_2, .int .i64 a0_3, .int .i64 a0_4, .bool a0_5, (.slice A0_6 l0_6.length c0_6), (.slice A0_7 l0_7.length c0_7), .bool a0_8, .int .i64 a0_9] 41 (0, 0))) ∧ Aside0 (Below w.heap.size w wc))
   case first =>
    have H := HC25.out
    clear HC25
    by_cases c27 : a0_5 = true
    · subst c27
      have H1 : (if x3_4.length < 8796093022208 then (cloisterref26_Tell.j1 kj4 (x3_4 ++ [(⟨#[102, 111, 117, 110, 100]⟩ : ByteArray)]) a0_0 a0_1 a0_2 a0_3 a0_4 true l0_6 l0_7 a0_8 a0_9) else (none)) = some r := by rw [if_pos rfl] at H; exact H
      clear H
      have H := H1
      clear H1
      by_cases c28 : x3_4.length < 8796093022208
      · rw [if_pos c28] at H
        have LMc28 := am_ c28
        clear c28
        obtain ⟨y230, hy230⟩ : ∃ y_ : List ByteArray, y_ = (x3_4 ++ [(⟨#[102, 111, 117, 110, 100]⟩ : ByteArray)]) := ⟨_, rfl⟩
        replace H : (cloisterref26_Tell.j1 kj4 y230 a0_0 a0_1 a0_2 a0_3 a0_4 true l0_6 l0_7 a0_8 a0_9) = some r := by first | (rw [hy230]; with_reducible exact H) | (have H2_ := (Option.bind_some _ _).symm.trans H; rw [hy230]; with_reducible exact H2_) | (have H2_ := (Option.bind_some _ _).symm.trans H; with_reducible exact H2_) | with_reducible exact H | (rw [hy230]; exact H) | exact H
        have Ny230 := am_ hy230
        clear hy230
        have H' := am_ H
        clear H
        go_wp2_with (first | ((with_reducible refine gate_builtin (b := .append) (xs := #[.tmp 33, .tmp 34]) rfl ?_); at_builtin; refine Kd.R_append Kd.string (w0 := w) w.heap.size rfl (.tmp 33) (.tmp 34) 71 9 (.string ⟨#[]⟩) 16 rfl Tryz.underlying71 info9 rfl (by decide) (by omega) u3 x3_4 (⟨#[102, 111, 117, 110, 100]⟩ : ByteArray) [.string (⟨#[102, 111, 117, 110, 100]⟩ : ByteArray)] (fun _ => True) (fun _ => False) rfl rfl ?aP (fun _ hk => hk.elim) ?aF ?aO ?aB ?aS ?aL ?_; (case aP => exact rfl); (case aB => exact (by repeat (first | (with_reducible first | exact HB.out | apply b1_ | apply b2_ | apply b3_ | refine b4_ ?_ GE215.out) | exact HB.out))); (case aF => exact (fun _ _ => trivial)); (case aO => exact (by (with_reducible repeat (first | apply r1_ | apply r2_ | apply r3_)); exact HO_3.out)); (case aS => exact (below_size (by repeat (first | (with_reducible first | exact HB.out | apply b1_ | apply b2_ | apply b3_ | refine b4_ ?_ GE215.out) | exact HB.out)))); (case aL => have := LMc28.out; omega); intro v231 w29 ho hb hg hat; rw [← Ny230.out] at ho; replace BK215 := am_ (blk_grown (g := gb215) (o := .cells #[.int .i64 a0_0, .int .i64 a0_1, .int .i64 a0_2, .int .i64 a0_3, .int .i64 a0_4, .bool true, .slice A0_6 l0_6.length c0_6, .slice A0_7 l0_7.length c0_7, .bool a0_8, .int .i64 a0_9] 41 (0, 0)) (by (with_reducible repeat (first | refine d1_ ?_ _ | refine d2_ ?_ | refine d3_ ?_ _)); exact BK215.out) hg (Kd.R_ne HO_3.out BK215.out (by decide))); replace HB := am_ (hb); have HO232 := am_ (ho); clear HO_3; clear ho hb hg hat))
        go_meet
        case rel => exact ⟨_, (y230), H', ⟨by have := HJ4.out; first | omega | exact Nat.le_refl _⟩, ⟨by (with_reducible repeat (first | apply r1_ | apply r2_ | apply r3_)); exact HO232.out⟩, ⟨by (with_reducible repeat (first | refine d1_ ?_ _ | refine d2_ ?_ | refine d3_ ?_ _)); exact BK215.out⟩, ⟨by repeat (first | (with_reducible first | exact HB.out | apply b1_ | apply b2_ | apply b3_ | refine b4_ ?_ GE215.out) | exact HB.out)⟩⟩
      rw [if_neg c28] at H
      exact absurd H (by simp)
    replace c27 := Bool.eq_false_iff.mpr c27
    subst c27
    have H1 : (cloisterref26_Tell.j1 kj4 x3_4 a0_0 a0_1 a0_2 a0_3 a0_4 false l0_6 l0_7 a0_8 a0_9) = some r := by rw [if_neg (show ¬ (false = true) by decide)] at H; exact H
    clear H
    have H := H1
    clear H1
    have H' := am_ H
    clear H
    go_wp2
    go_meet
    case rel => exact ⟨_, (x3_4), H', ⟨by have := HJ4.out; first | omega | exact Nat.le_refl _⟩, ⟨by (with_reducible repeat (first | apply r1_ | apply r2_ | apply r3_)); exact HO_3.out⟩, ⟨by (with_reducible repeat (first | refine d1_ ?_ _ | refine d2_ ?_ | refine d3_ ?_ _)); exact BK215.out⟩, ⟨by repeat (first | (with_reducible first | exact HB.out | apply b1_ | apply b2_ | apply b3_ | refine b4_ ?_ GE215.out) | exact HB.out)⟩⟩
   case rest =>
    clear HC25
    try clear c1
    try clear c2
    try clear p2
    try clear c14
    try clear c14b0
    try clear c14b1
    try clear c14b2
    try clear c17
    try clear c19
    try clear c27
    try clear c28
    try clear c29
    try clear hcz13_0 hcz13_1 hcz13_2 hcz13_3 hcz13_4 hcz13_5 hcz13_6 hcz13_7 hcz13_8 hcz13_9 hfz13_0 hfz13_1 hfz13_2 hfz13_3 hfz13_4 hfz13_5 hfz13_6 hfz13_7 hfz13_8 hfz13_9
    try clear hcz26_0 hcz26_1 hcz26_2 hcz26_3 hcz26_4 hcz26_5 hcz26_6 hcz26_7 hcz26_8 hcz26_9 hfz26_0 hfz26_1 hfz26_2 hfz26_3 hfz26_4 hfz26_5 hfz26_6 hfz26_7 hfz26_8 hfz26_9
    try clear p2
    obtain ⟨kq, x3_24, HA, HJ24, HO_3, BK215, HB⟩ := hcut
    cases kq with
    | zero => exact absurd HA.out (by simp [cloisterref26_Tell.j1])
    | succ kj24 =>
     have H := HA.out
     clear HA
     simp only [cloisterref26_Tell.j1] at H
     have HC30 := am_ H
     clear H
     obtain ⟨⟨hcz31_0, hcz31_1, hcz31_2, hcz31_3, hcz31_4, hcz31_5, hcz31_6, hcz31_7, hcz31_8, hcz31_9⟩, hfz31_0, hfz31_1, hfz31_2, hfz31_3, hfz31_4, hfz31_5, hfz31_6, hfz31_7, hfz31_8, hfz31_9⟩ := cloisterref26_Tell.c215 BK215.out
     go_upto_if 39 with (fail)
     go_cut [3] (fun v3 wc => ∃ (kq : Nat) (x3_29 : List ByteArray), Aside0 (cloisterref26_Tell.j2 kq x3_29 a0_0 a0_1 a0_2 a0_3 a0_4 a0_5 l0_6 l0_7 a0_8 a0_9 = some r) ∧ Aside0 (kq ≤ kj24) ∧ Aside0 (Kd.R Kd.string 9 wc w.heap.size (fun _ => True) v3 x3_29) ∧ Aside0 (wc.heap[gb215]? = some (.cells #[.int .i64 a0_0, .int .i64 a0_1, .int .i64 a0_2, .int .i64 a0_3, .int .i64 a0_4, .bool a0_5, (.slice A0_6 l0_6.length c0_6), (.slice A0_7 l0_7.length c0_7), .bool a0_8, .int .i64 a0_9] 41 (0, 0))) ∧ Aside0 (Below w.heap.size w wc))
     case first =>
      have H := HC30.out
      clear HC30
      by_cases c32 : (l0_6.length : Int) > 0
      · rw [if_pos c32] at H
        have c32b0 : decide (0 < (l0_6.length : Int)) = true := decide_eq_true c32
        have c32b1 : decide (0 < l0_6.length) = true := decide_eq_true (by omega)
        clear c32
        (first | rw [c32b0] | rw [c32b1] | rw [c32b2] | (simp only [i64_w, i32_w]; rw [c32b0]) | (simp only [i64_w, i32_w]; rw [c32b1]) | skip)
        replace H := Option.bind_eq_some_iff.mp H
        obtain ⟨t233, A330, H⟩ := H
        have A33 := am_ A330
        clear A330
        obtain ⟨y234, hy234⟩ : ∃ y_ : List ByteArray, y_ = (([(⟨#[118, 97, 108, 117, 101]⟩ : ByteArray), t233] : List ByteArray)) := ⟨_, rfl⟩
        replace H : (if x3_24.length + y234.length < 8796093022208 then (cloisterref26_Tell.j2 kj24 (x3_24 ++ y234) a0_0 a0_1 a0_2 a0_3 a0_4 a0_5 l0_6 l0_7 a0_8 a0_9) else (none)) = some r := by first | (rw [hy234]; with_reducible exact H) | (have H2_ := (Option.bind_some _ _).symm.trans H; rw [hy234]; with_reducible exact H2_) | (have H2_ := (Option.bind_some _ _).symm.trans H; with_reducible exact H2_) | with_reducible exact H | (rw [hy234]; exact H) | exact H
        have Ny234 := am_ hy234
        clear hy234
        by_cases c34 : x3_24.length + y234.length < 8796093022208
        · rw [if_pos c34] at H
          have LMc34 := am_ c34
          clear c34
          obtain ⟨y237, hy237⟩ : ∃ y_ : List ByteArray, y_ = (x3_24 ++ y234) := ⟨_, rfl⟩
          replace H : (cloisterref26_Tell.j2 kj24 y237 a0_0 a0_1 a0_2 a0_3 a0_4 a0_5 l0_6 l0_7 a0_8 a0_9) = some r := by first | (rw [hy237]; with_reducible exact H) | (have H2_ := (Option.bind_some _ _).symm.trans H; rw [hy237]; with_reducible exact H2_) | (have H2_ := (Option.bind_some _ _).symm.trans H; with_reducible exact H2_) | with_reducible exact H | (rw [hy237]; exact H) | exact H
          have Ny237 := am_ hy237
          clear hy237
          have H' := am_ H
          clear H
          obtain ⟨⟨hcz35_0, hcz35_1, hcz35_2, hcz35_3, hcz35_4, hcz35_5, hcz35_6, hcz35_7, hcz35_8, hcz35_9⟩, hfz35_0, hfz35_1, hfz35_2, hfz35_3, hfz35_4, hfz35_5, hfz35_6, hfz35_7, hfz35_8, hfz35_9⟩ := cloisterref26_Tell.c215 BK215.out
          have hcv36 := Kd.C_string (P := Tryz.prog) (A := A0_6) (c := c0_6) Tryz.underlying38 Tryz.underlying5 Tryz.underlying9 (Kd.C_below HR0_6.out HB.out)
          try go_wp2_with (first | ((with_reducible refine gate_callee (f := 21) rfl ?_); refine goesL_ (some 44) rfl rfl Tryz.func21 (by kernel_rfl) rfl #[.string (strOfNums l0_6)] rfl (by (try simp only [aT, aK, aL]); first | done | rfl | (simp only [List.length_drop, List.length_take]; rfl)) ?_; (with_reducible refine (cloisterref26_Quote.calls kj24 (strOfNums l0_6) t233 _ ?side1 A33.out).mono ?_); (case side1 => exact sc.Env.below HE.out (by repeat (first | (with_reducible first | exact HB.out | apply b1_ | apply b2_ | apply b3_ | refine b4_ ?_ GE215.out) | exact HB.out))); rintro e w37 ⟨rfl, hb⟩; refine ⟨_, rfl, ?_⟩; replace HO_3 := am_ (Kd.R_below (by (with_reducible repeat (first | apply r1_ | apply r2_ | apply r3_)); exact HO_3.out) hb); replace BK215 := am_ (blk_below (by (with_reducible repeat (first | refine d1_ ?_ _ | refine d2_ ?_ | refine d3_ ?_ _)); exact BK215.out) hb); replace HB := am_ (below_step (by repeat (first | (with_reducible first | exact HB.out | apply b1_ | apply b2_ | apply b3_ | refine b4_ ?_ GE215.out) | exact HB.out)) hb); (try clear hb); (try clear hk)) | ((with_reducible refine gate_dst (N := 45) rfl ?_); refine Kd.R_lit Kd.string _ 9 ?hg (N := 45) ?hd (xs := ([(⟨#[118, 97, 108, 117, 101]⟩ : ByteArray), t233] : List ByteArray)) (inner := [.string (⟨#[118, 97, 108, 117, 101]⟩ : ByteArray), .string t233]) (ok := fun _ => True) (okp := fun _ => True) ?hr ?hp (fun _ hk => hk) trivial (Below.refl _ _) (Nat.le_refl _) (by simp) ?_; (case hd => rfl); (case hg => rfl); (case hr => first | (go_simp; done) | (go_simp; rfl)); (case hp => exact (Reps.one (show Kd.M Kd.string _ _ _ (⟨#[118, 97, 108, 117, 101]⟩ : ByteArray) [.string (⟨#[118, 97, 108, 117, 101]⟩ : ByteArray)] from rfl) (Reps.one (show Kd.M Kd.string _ _ _ t233 [.string t233] from rfl) (Reps.none _ _)))); intro v235 w38 ho39 hb hg_ hnew_; clear hg_ hnew_; (first | rw [← Ny234.out] at ho39 | (simp only [Int.reduceToNat] at ho39; rw [← Ny234.out] at ho39)); have HO236 := am_ (Kd.R_lower (Kd.R_new' ho39 (Kd.R_lt (by (with_reducible repeat (first | apply r1_ | apply r2_ | apply r3_)); exact HO_3.out))) (below_size (by repeat (first | (with_reducible first | exact HB.out | apply b1_ | apply b2_ | apply b3_ | refine b4_ ?_ GE215.out) | exact HB.out)))); replace HO_3 := am_ (Kd.R_elder' (by (with_reducible repeat (first | apply r1_ | apply r2_ | apply r3_)); exact HO_3.out) (Kd.R_base ho39) hb); replace BK215 := am_ (blk_below (by (with_reducible repeat (first | refine d1_ ?_ _ | refine d2_ ?_ | refine d3_ ?_ _)); exact BK215.out) hb); replace HB := am_ (below_step (by repeat (first | (with_reducible first | exact HB.out | apply b1_ | apply b2_ | apply b3_ | refine b4_ ?_ GE215.out) | exact HB.out)) hb); clear hb ho39; obtain ⟨Ao41, co41, eo41⟩ := Kd.R_slice HO236.out; subst eo41) | ((with_reducible refine gate_builtin (b := .append) (xs := #[.tmp 40, .tmp 45]) rfl ?_); at_builtin; refine Kd.R_append_rows Kd.string (w0 := w) w.heap.size rfl (.tmp 40) (.tmp 45) 71 9 (.string ⟨#[]⟩) 16 rfl Tryz.underlying71 info9 rfl (by decide) (by omega) u3 x3_24 y234 _ _ _ (fun k_ => some k_ ≠ (.slice Ao41 y234.length co41 : Value).ownBlock) (fun _ => False) rfl rfl ?aO ?aR (fun _ _ h => h) (fun _ h => h.elim) ?aF ?aB ?aS ?aL ?_; (case aR => repeat (first | exact (Kd.R_reads' HO236.out).2.2 | (with_reducible refine Kd.C_alloc ?_ _) | (with_reducible refine Kd.C_drewN ?_ _) | (with_reducible refine Kd.C_drew ?_))); (case aB => exact (by repeat (first | (with_reducible first | exact HB.out | apply b1_ | apply b2_ | apply b3_ | refine b4_ ?_ GE215.out) | exact HB.out))); (case aF => exact (fun k_ hk => Kd.fresh' (Kd.R_lt (by (with_reducible repeat (first | apply r1_ | apply r2_ | apply r3_)); exact HO236.out)) k_ hk)); (case aO => exact (by (with_reducible repeat (first | apply r1_ | apply r2_ | apply r3_)); exact Kd.R_mono HO_3.out (fun _ hk => hk.2))); (case aS => exact (below_size (by repeat (first | (with_reducible first | exact HB.out | apply b1_ | apply b2_ | apply b3_ | refine b4_ ?_ GE215.out) | exact HB.out)))); (case aL => have := LMc34.out; omega); intro v238 w40 ho hb hg hat; rw [← Ny237.out] at ho; replace BK215 := am_ (blk_grown (g := gb215) (o := .cells #[.int .i64 a0_0, .int .i64 a0_1, .int .i64 a0_2, .int .i64 a0_3, .int .i64 a0_4, .bool a0_5, .slice A0_6 l0_6.length c0_6, .slice A0_7 l0_7.length c0_7, .bool a0_8, .int .i64 a0_9] 41 (0, 0)) (by (with_reducible repeat (first | refine d1_ ?_ _ | refine d2_ ?_ | refine d3_ ?_ _)); exact BK215.out) hg (Kd.R_ne HO_3.out BK215.out (by decide))); replace HO236 := am_ (Kd.R_after (ok := (fun _ => True)) (by (with_reducible repeat (first | apply r1_ | apply r2_ | apply r3_)); exact HO236.out) hg hat); replace HB := am_ (hb); have HO239 := am_ (ho); clear HO_3; clear ho hb hg hat))
          go_meet
          case rel => exact ⟨_, (y237), H', ⟨by have := HJ4.out; have := HJ24.out; first | omega | exact Nat.le_refl _⟩, ⟨by (with_reducible repeat (first | apply r1_ | apply r2_ | apply r3_)); exact Kd.R_mono HO239.out (fun _ hk => trivial)⟩, ⟨by (with_reducible repeat (first | refine d1_ ?_ _ | refine d2_ ?_ | refine d3_ ?_ _)); exact BK215.out⟩, ⟨by repeat (first | (with_reducible first | exact HB.out | apply b1_ | apply b2_ | apply b3_ | refine b4_ ?_ GE215.out) | exact HB.out)⟩⟩
        rw [if_neg c34] at H
        exact absurd H (by simp)
      rw [if_neg c32] at H
      have c32b0 : decide (0 < (l0_6.length : Int)) = false := decide_eq_false c32
      have c32b1 : decide (0 < l0_6.length) = false := decide_eq_false (by omega)
      clear c32
      (first | rw [c32b0] | rw [c32b1] | rw [c32b2] | (simp only [i64_w, i32_w]; rw [c32b0]) | (simp only [i64_w, i32_w]; rw [c32b1]) | skip)
      have H' := am_ H
      clear H
      go_wp2
      go_meet
      case rel => exact ⟨_, (x3_24), H', ⟨by have := HJ4.out; have := HJ24.out; first | omega | exact Nat.le_refl _⟩, ⟨by (with_reducible repeat (first | apply r1_ | apply r2_ | apply r3_)); exact HO_3.out⟩, ⟨by (with_reducible repeat (first | refine d1_ ?_ _ | refine d2_ ?_ | refine d3_ ?_ _)); exact BK215.out⟩, ⟨by repeat (first | (with_reducible first | exact HB.out | apply b1_ | apply b2_ | apply b3_ | refine b4_ ?_ GE215.out) | exact HB.out)⟩⟩
     case rest =>
      clear HC30
      try clear c1
      try clear c2
      try clear p2
      try clear c3
      try clear hcv3
      try clear c14
      try clear c14b0
      try clear c14b1
      try clear c14b2
      try clear c17
      try clear c19
      try clear c21
      try clear c27
      try clear c28
      try clear c29
      try clear c32
      try clear c32b0
      try clear c32b1
      try clear c32b2
      try clear c34
      try clear hcv36
      try clear hcz13_0 hcz13_1 hcz13_2 hcz13_3 hcz13_4 hcz13_5 hcz13_6 hcz13_7 hcz13_8 hcz13_9 hfz13_0 hfz13_1 hfz13_2 hfz13_3 hfz13_4 hfz13_5 hfz13_6 hfz13_7 hfz13_8 hfz13_9
      try clear hcz26_0 hcz26_1 hcz26_2 hcz26_3 hcz26_4 hcz26_5 hcz26_6 hcz26_7 hcz26_8 hcz26_9 hfz26_0 hfz26_1 hfz26_2 hfz26_3 hfz26_4 hfz26_5 hfz26_6 hfz26_7 hfz26_8 hfz26_9
      try clear hcz31_0 hcz31_1 hcz31_2 hcz31_3 hcz31_4 hcz31_5 hcz31_6 hcz31_7 hcz31_8 hcz31_9 hfz31_0 hfz31_1 hfz31_2 hfz31_3 hfz31_4 hfz31_5 hfz31_6 hfz31_7 hfz31_8 hfz31_9
      try clear hcz35_0 hcz35_1 hcz35_2 hcz35_3 hcz35_4 hcz35_5 hcz35_6 hcz35_7 hcz35_8 hcz35_9 hfz35_0 hfz35_1 hfz35_2 hfz35_3 hfz35_4 hfz35_5 hfz35_6 hfz35_7 hfz35_8 hfz35_9
      try clear p2
      obtain ⟨kq, x3_29, HA, HJ29, HO_3, BK215, HB⟩ := hcut
      cases kq with
      | zero => exact absurd HA.out (by simp [cloisterref26_Tell.j2])
      | succ kj29 =>
       have H := HA.out
       clear HA
       simp only [cloisterref26_Tell.j2] at H
       have HC42 := am_ H
       clear H
       obtain ⟨⟨hcz43_0, hcz43_1, hcz43_2, hcz43_3, hcz43_4, hcz43_5, hcz43_6, hcz43_7, hcz43_8, hcz43_9⟩, hfz43_0, hfz43_1, hfz43_2, hfz43_3, hfz43_4, hfz43_5, hfz43_6, hfz43_7, hfz43_8, hfz43_9⟩ := cloisterref26_Tell.c215 BK215.out
       go_upto_if 50 with (fail)
       go_cut [3] (fun v3 wc => ∃ (kq : Nat) (x3_41 : List ByteArray), Aside0 (cloisterref26_Tell.j4 kq x3_41 a0_0 a0_1 a0_2 a0_3 a0_4 a0_5 l0_6 l0_7 a0_8 a0_9 = some r) ∧ Aside0 (kq ≤ kj29) ∧ Aside0 (Kd.R Kd.string 9 wc w.heap.size (fun _ => True) v3 x3_41) ∧ Aside0 (wc.heap[gb215]? = some (.cells #[.int .i64 a0_0, .int .i64 a0_1, .int .i64 a0_2, .int .i64 a0_3, .int .i64 a0_4, .bool a0_5, (.slice A0_6 l0_6.length c0_6), (.slice A0_7 l0_7.length c0_7), .bool a0_8, .int .i64 a0_9] 41 (0, 0))) ∧ Aside0 (Below w.heap.size w wc))
       case first =>
        have H := HC42.out
        clear HC42
        by_cases c44 : (l0_7.length : Int) > 0
        · rw [if_pos c44] at H
          have c44b0 : decide (0 < (l0_7.length : Int)) = true := decide_eq_true c44
          have c44b1 : decide (0 < l0_7.length) = true := decide_eq_true (by omega)
          clear c44
          (first | rw [c44b0] | rw [c44b1] | rw [c44b2] | (simp only [i64_w, i32_w]; rw [c44b0]) | (simp only [i64_w, i32_w]; rw [c44b1]) | skip)
          replace H := Option.bind_eq_some_iff.mp H
          obtain ⟨t240, A450, H⟩ := H
          have A45 := am_ A450
          clear A450
          obtain ⟨y241, hy241⟩ : ∃ y_ : List ByteArray, y_ = (([(⟨#[112, 97, 105, 114, 115]⟩ : ByteArray), t240] : List ByteArray)) := ⟨_, rfl⟩
          replace H : (if x3_29.length + y241.length < 8796093022208 then (cloisterref26_Tell.l0 kj29 (x3_29 ++ y241) l0_7 (l0_7.length : Int) 0 a0_0 a0_1 a0_2 a0_3 a0_4 a0_5 l0_6 l0_7 a0_8 a0_9) else (none)) = some r := by first | (rw [hy241]; with_reducible exact H) | (have H2_ := (Option.bind_some _ _).symm.trans H; rw [hy241]; with_reducible exact H2_) | (have H2_ := (Option.bind_some _ _).symm.trans H; with_reducible exact H2_) | with_reducible exact H | (rw [hy241]; exact H) | exact H
          have Ny241 := am_ hy241
          clear hy241
          by_cases c46 : x3_29.length + y241.length < 8796093022208
          · rw [if_pos c46] at H
            have LMc46 := am_ c46
            clear c46
            obtain ⟨y244, hy244⟩ : ∃ y_ : List ByteArray, y_ = (x3_29 ++ y241) := ⟨_, rfl⟩
            replace H : (cloisterref26_Tell.l0 kj29 y244 l0_7 (l0_7.length : Int) 0 a0_0 a0_1 a0_2 a0_3 a0_4 a0_5 l0_6 l0_7 a0_8 a0_9) = some r := by first | (rw [hy244]; with_reducible exact H) | (have H2_ := (Option.bind_some _ _).symm.trans H; rw [hy244]; with_reducible exact H2_) | (have H2_ := (Option.bind_some _ _).symm.trans H; with_reducible exact H2_) | with_reducible exact H | (rw [hy244]; exact H) | exact H
            have Ny244 := am_ hy244
            clear hy244
            have H' := am_ H
            clear H
            obtain ⟨⟨hcz47_0, hcz47_1, hcz47_2, hcz47_3, hcz47_4, hcz47_5, hcz47_6, hcz47_7, hcz47_8, hcz47_9⟩, hfz47_0, hfz47_1, hfz47_2, hfz47_3, hfz47_4, hfz47_5, hfz47_6, hfz47_7, hfz47_8, hfz47_9⟩ := cloisterref26_Tell.c215 BK215.out
            try go_wp2_with (first | ((with_reducible refine gate_callee (f := 29) rfl ?_); refine goesL_ (some 55) rfl rfl Tryz.func29 (by kernel_rfl) rfl #[.int .i64 (l0_7.length : Int)] rfl (by (try simp only [aT, aK, aL]); first | done | rfl | (simp only [List.length_drop, List.length_take]; rfl)) ?_; (with_reducible refine (strconv_Itoa.calls (l0_7.length : Int) t240 _ ?side1 A45.out).mono ?_); (case side1 => exact sc.Env.below HE.out (by repeat (first | (with_reducible first | exact HB.out | apply b1_ | apply b2_ | apply b3_ | refine b4_ ?_ GE215.out) | exact HB.out))); rintro e w48 ⟨rfl, hb⟩; refine ⟨_, rfl, ?_⟩; replace HO_3 := am_ (Kd.R_below (by (with_reducible repeat (first | apply r1_ | apply r2_ | apply r3_)); exact HO_3.out) hb); replace BK215 := am_ (blk_below (by (with_reducible repeat (first | refine d1_ ?_ _ | refine d2_ ?_ | refine d3_ ?_ _)); exact BK215.out) hb); replace HB := am_ (below_step (by repeat (first | (with_reducible first | exact HB.out | apply b1_ | apply b2_ | apply b3_ | refine b4_ ?_ GE215.out) | exact HB.out)) hb); (try clear hb); (try clear hk)) | ((with_reducible refine gate_dst (N := 56) rfl ?_); refine Kd.R_lit Kd.string _ 9 ?hg (N := 56) ?hd (xs := ([(⟨#[112, 97, 105, 114, 115]⟩ : ByteArray), t240] : List ByteArray)) (inner := [.string (⟨#[112, 97, 105, 114, 115]⟩ : ByteArray), .string t240]) (ok := fun _ => True) (okp := fun _ => True) ?hr ?hp (fun _ hk => hk) trivial (Below.refl _ _) (Nat.le_refl _) (by simp) ?_; (case hd => rfl); (case hg => rfl); (case hr => first | (go_simp; done) | (go_simp; rfl)); (case hp => exact (Reps.one (show Kd.M Kd.string _ _ _ (⟨#[112, 97, 105, 114, 115]⟩ : ByteArray) [.string (⟨#[112, 97, 105, 114, 115]⟩ : ByteArray)] from rfl) (Reps.one (show Kd.M Kd.string _ _ _ t240 [.string t240] from rfl) (Reps.none _ _)))); intro v242 w49 ho50 hb hg_ hnew_; clear hg_ hnew_; (first | rw [← Ny241.out] at ho50 | (simp only [Int.reduceToNat] at ho50; rw [← Ny241.out] at ho50)); have HO243 := am_ (Kd.R_lower (Kd.R_new' ho50 (Kd.R_lt (by (with_reducible repeat (first | apply r1_ | apply r2_ | apply r3_)); exact HO_3.out))) (below_size (by repeat (first | (with_reducible first | exact HB.out | apply b1_ | apply b2_ | apply b3_ | refine b4_ ?_ GE215.out) | exact HB.out)))); replace HO_3 := am_ (Kd.R_elder' (by (with_reducible repeat (first | apply r1_ | apply r2_ | apply r3_)); exact HO_3.out) (Kd.R_base ho50) hb); replace BK215 := am_ (blk_below (by (with_reducible repeat (first | refine d1_ ?_ _ | refine d2_ ?_ | refine d3_ ?_ _)); exact BK215.out) hb); replace HB := am_ (below_step (by repeat (first | (with_reducible first | exact HB.out | apply b1_ | apply b2_ | apply b3_ | refine b4_ ?_ GE215.out) | exact HB.out)) hb); clear hb ho50; obtain ⟨Ao52, co52, eo52⟩ := Kd.R_slice HO243.out; subst eo52) | ((with_reducible refine gate_builtin (b := .append) (xs := #[.tmp 51, .tmp 56]) rfl ?_); at_builtin; refine Kd.R_append_rows Kd.string (w0 := w) w.heap.size rfl (.tmp 51) (.tmp 56) 71 9 (.string ⟨#[]⟩) 16 rfl Tryz.underlying71 info9 rfl (by decide) (by omega) u3 x3_29 y241 _ _ _ (fun k_ => some k_ ≠ (.slice Ao52 y241.length co52 : Value).ownBlock) (fun _ => False) rfl rfl ?aO ?aR (fun _ _ h => h) (fun _ h => h.elim) ?aF ?aB ?aS ?aL ?_; (case aR => repeat (first | exact (Kd.R_reads' HO243.out).2.2 | (with_reducible refine Kd.C_alloc ?_ _) | (with_reducible refine Kd.C_drewN ?_ _) | (with_reducible refine Kd.C_drew ?_))); (case aB => exact (by repeat (first | (with_reducible first | exact HB.out | apply b1_ | apply b2_ | apply b3_ | refine b4_ ?_ GE215.out) | exact HB.out))); (case aF => exact (fun k_ hk => Kd.fresh' (Kd.R_lt (by (with_reducible repeat (first | apply r1_ | apply r2_ | apply r3_)); exact HO243.out)) k_ hk)); (case aO => exact (by (with_reducible repeat (first | apply r1_ | apply r2_ | apply r3_)); exact Kd.R_mono HO_3.out (fun _ hk => hk.2))); (case aS => exact (below_size (by repeat (first | (with_reducible first | exact HB.out | apply b1_ | apply b2_ | apply b3_ | refine b4_ ?_ GE215.out) | exact HB.out)))); (case aL => have := LMc46.out; omega); intro v245 w51 ho hb hg hat; rw [← Ny244.out] at ho; replace BK215 := am_ (blk_grown (g := gb215) (o := .cells #[.int .i64 a0_0, .int .i64 a0_1, .int .i64 a0_2, .int .i64 a0_3, .int .i64 a0_4, .bool a0_5, .slice A0_6 l0_6.length c0_6, .slice A0_7 l0_7.length c0_7, .bool a0_8, .int .i64 a0_9] 41 (0, 0)) (by (with_reducible repeat (first | refine d1_ ?_ _ | refine d2_ ?_ | refine d3_ ?_ _)); exact BK215.out) hg (Kd.R_ne HO_3.out BK215.out (by decide))); replace HO243 := am_ (Kd.R_after (ok := (fun _ => True)) (by (with_reducible repeat (first | apply r1_ | apply r2_ | apply r3_)); exact HO243.out) hg hat); replace HB := am_ (hb); have HO246 := am_ (ho); clear HO_3; clear ho hb hg hat; have hcz53_0 : w51.cell? ⟨gb215, 0, none⟩ = some (.int .i64 a0_0) := (blk_cell BK215.out 0).trans rfl; have hcz53_1 : w51.cell? ⟨gb215, 1, none⟩ = some (.int .i64 a0_1) := (blk_cell BK215.out 1).trans rfl; have hcz53_2 : w51.cell? ⟨gb215, 2, none⟩ = some (.int .i64 a0_2) := (blk_cell BK215.out 2).trans rfl; have hcz53_3 : w51.cell? ⟨gb215, 3, none⟩ = some (.int .i64 a0_3) := (blk_cell BK215.out 3).trans rfl; have hcz53_4 : w51.cell? ⟨gb215, 4, none⟩ = some (.int .i64 a0_4) := (blk_cell BK215.out 4).trans rfl; have hcz53_5 : w51.cell? ⟨gb215, 5, none⟩ = some (.bool a0_5) := (blk_cell BK215.out 5).trans rfl; have hcz53_6 : w51.cell? ⟨gb215, 6, none⟩ = some (.slice A0_6 l0_6.length c0_6) := (blk_cell BK215.out 6).trans rfl; have hcz53_7 : w51.cell? ⟨gb215, 7, none⟩ = some (.slice A0_7 l0_7.length c0_7) := (blk_cell BK215.out 7).trans rfl; have hcz53_8 : w51.cell? ⟨gb215, 8, none⟩ = some (.bool a0_8) := (blk_cell BK215.out 8).trans rfl; have hcz53_9 : w51.cell? ⟨gb215, 9, none⟩ = some (.int .i64 a0_9) := (blk_cell BK215.out 9).trans rfl; have hfz53_0 := blk_frozen BK215.out 0; have hfz53_1 := blk_frozen BK215.out 1; have hfz53_2 := blk_frozen BK215.out 2; have hfz53_3 := blk_frozen BK215.out 3; have hfz53_4 := blk_frozen BK215.out 4; have hfz53_5 := blk_frozen BK215.out 5; have hfz53_6 := blk_frozen BK215.out 6; have hfz53_7 := blk_frozen BK215.out 7; have hfz53_8 := blk_frozen BK215.out 8; have hfz53_9 := blk_frozen BK215.out 9))
            go_loopg [3, 61] kj29 (fun kq v3 v61 w' => ∃ (x3_4 : List ByteArray) (x61_4 : Int), v61 = .int .i64 x61_4 ∧ Aside0 (cloisterref26_Tell.l0 kq x3_4 l0_7 (l0_7.length : Int) x61_4 a0_0 a0_1 a0_2 a0_3 a0_4 a0_5 l0_6 l0_7 a0_8 a0_9 = some r) ∧ Aside0 (kq ≤ kj29) ∧ Aside0 (Kd.R Kd.string 9 w' w.heap.size (fun _ => True) v3 x3_4) ∧ Aside0 (w'.heap[gb215]? = some (.cells #[.int .i64 a0_0, .int .i64 a0_1, .int .i64 a0_2, .int .i64 a0_3, .int .i64 a0_4, .bool a0_5, (.slice A0_6 l0_6.length c0_6), (.slice A0_7 l0_7.length c0_7), .bool a0_8, .int .i64 a0_9] 41 (0, 0))) ∧ Aside0 (Below w.heap.size w w'))
            case atStart => exact ⟨(y244), (0), (by first | rfl | (simp; done) | (simp [*]; done)), H', ⟨Nat.le_refl _⟩, ⟨by (with_reducible repeat (first | apply r1_ | apply r2_ | apply r3_)); exact Kd.R_mono HO246.out (fun _ hk => trivial)⟩, ⟨by (with_reducible repeat (first | refine d1_ ?_ _ | refine d2_ ?_ | refine d3_ ?_ _)); exact BK215.out⟩, ⟨by repeat (first | (with_reducible first | exact HB.out | apply b1_ | apply b2_ | apply b3_ | refine b4_ ?_ GE215.out) | exact HB.out)⟩⟩
            case round =>
             clear H'
             try clear c1
             try clear c2
             try clear p2
             try clear c3
             try clear hcv3
             try clear c4
             try clear c14
             try clear c14b0
             try clear c14b1
             try clear c14b2
             try clear c17
             try clear c19
             try clear c21
             try clear c27
             try clear c28
             try clear c29
             try clear c32
             try clear c32b0
             try clear c32b1
             try clear c32b2
             try clear c34
             try clear hcv36
             try clear c44
             try clear c44b0
             try clear c44b1
             try clear c44b2
             try clear c46
             try clear hcz13_0 hcz13_1 hcz13_2 hcz13_3 hcz13_4 hcz13_5 hcz13_6 hcz13_7 hcz13_8 hcz13_9 hfz13_0 hfz13_1 hfz13_2 hfz13_3 hfz13_4 hfz13_5 hfz13_6 hfz13_7 hfz13_8 hfz13_9
             try clear hcz26_0 hcz26_1 hcz26_2 hcz26_3 hcz26_4 hcz26_5 hcz26_6 hcz26_7 hcz26_8 hcz26_9 hfz26_0 hfz26_1 hfz26_2 hfz26_3 hfz26_4 hfz26_5 hfz26_6 hfz26_7 hfz26_8 hfz26_9
             try clear hcz31_0 hcz31_1 hcz31_2 hcz31_3 hcz31_4 hcz31_5 hcz31_6 hcz31_7 hcz31_8 hcz31_9 hfz31_0 hfz31_1 hfz31_2 hfz31_3 hfz31_4 hfz31_5 hfz31_6 hfz31_7 hfz31_8 hfz31_9
             try clear hcz35_0 hcz35_1 hcz35_2 hcz35_3 hcz35_4 hcz35_5 hcz35_6 hcz35_7 hcz35_8 hcz35_9 hfz35_0 hfz35_1 hfz35_2 hfz35_3 hfz35_4 hfz35_5 hfz35_6 hfz35_7 hfz35_8 hfz35_9
             try clear hcz43_0 hcz43_1 hcz43_2 hcz43_3 hcz43_4 hcz43_5 hcz43_6 hcz43_7 hcz43_8 hcz43_9 hfz43_0 hfz43_1 hfz43_2 hfz43_3 hfz43_4 hfz43_5 hfz43_6 hfz43_7 hfz43_8 hfz43_9
             try clear hcz47_0 hcz47_1 hcz47_2 hcz47_3 hcz47_4 hcz47_5 hcz47_6 hcz47_7 hcz47_8 hcz47_9 hfz47_0 hfz47_1 hfz47_2 hfz47_3 hfz47_4 hfz47_5 hfz47_6 hfz47_7 hfz47_8 hfz47_9
             try clear hcz53_0 hcz53_1 hcz53_2 hcz53_3 hcz53_4 hcz53_5 hcz53_6 hcz53_7 hcz53_8 hcz53_9 hfz53_0 hfz53_1 hfz53_2 hfz53_3 hfz53_4 hfz53_5 hfz53_6 hfz53_7 hfz53_8 hfz53_9
             try clear p2
             obtain ⟨x3_4, x61_4, rfl, HA, HK4, HO_3, BK215, HB⟩ := hrel
             cases gk with
             | zero => exact absurd HA.out (by simp [cloisterref26_Tell.l0])
             | succ k4 =>
              have H := HA.out
              clear HA
              simp only [cloisterref26_Tell.l0] at H
              by_cases c54 : x61_4 < (l0_7.length : Int)
              · rw [if_pos c54] at H
                have c54b0 : decide (x61_4 < (l0_7.length : Int)) = true := decide_eq_true c54
                clear c54
                by_cases c55 : 0 ≤ x61_4
                · rw [if_pos c55] at H
                  have c55b0 : decide (0 ≤ x61_4) = true := decide_eq_true c55
                  clear c55
                  by_cases c56 : x61_4 < (l0_7.length : Int)
                  · rw [if_pos c56] at H
                    have c56b0 : decide (x61_4 < (l0_7.length : Int)) = true := decide_eq_true c56
                    clear c56
                    replace H := Option.bind_eq_some_iff.mp H
                    obtain ⟨t249, A570, H⟩ := H
                    have A57 := am_ A570
                    clear A570
                    replace H := Option.bind_eq_some_iff.mp H
                    obtain ⟨t250, A580, H⟩ := H
                    have A58 := am_ A580
                    clear A580
                    obtain ⟨y251, hy251⟩ : ∃ y_ : List ByteArray, y_ = (([t249, t250] : List ByteArray)) := ⟨_, rfl⟩
                    replace H : (if x3_4.length + y251.length < 8796093022208 then (cloisterref26_Tell.l0 k4 (x3_4 ++ y251) l0_7 (l0_7.length : Int) (wrap64 (x61_4 + 1)) a0_0 a0_1 a0_2 a0_3 a0_4 a0_5 l0_6 l0_7 a0_8 a0_9) else (none)) = some r := by first | (rw [hy251]; with_reducible exact H) | (have H2_ := (Option.bind_some _ _).symm.trans H; rw [hy251]; with_reducible exact H2_) | (have H2_ := (Option.bind_some _ _).symm.trans H; with_reducible exact H2_) | with_reducible exact H | (rw [hy251]; exact H) | exact H
                    have Ny251 := am_ hy251
                    clear hy251
                    by_cases c59 : x3_4.length + y251.length < 8796093022208
                    · rw [if_pos c59] at H
                      have LMc59 := am_ c59
                      clear c59
                      obtain ⟨y254, hy254⟩ : ∃ y_ : List ByteArray, y_ = (x3_4 ++ y251) := ⟨_, rfl⟩
                      replace H : (cloisterref26_Tell.l0 k4 y254 l0_7 (l0_7.length : Int) (wrap64 (x61_4 + 1)) a0_0 a0_1 a0_2 a0_3 a0_4 a0_5 l0_6 l0_7 a0_8 a0_9) = some r := by first | (rw [hy254]; with_reducible exact H) | (have H2_ := (Option.bind_some _ _).symm.trans H; rw [hy254]; with_reducible exact H2_) | (have H2_ := (Option.bind_some _ _).symm.trans H; with_reducible exact H2_) | with_reducible exact H | (rw [hy254]; exact H) | exact H
                      have Ny254 := am_ hy254
                      clear hy254
                      have H' := am_ H
                      clear H
                      have p247 : 0 ≤ (x61_4 : Int) := of_decide_eq_true (by first | (with_reducible assumption) | assumption)
                      have q247 : x61_4 < (l0_7.length : Int) := of_decide_eq_true (by first | (with_reducible assumption) | assumption)
                      obtain ⟨ad247, A247_1, c247_1, e247, hx247_0, hx247_1, hl247_1, hi247_1⟩ := at_T62 HR0_7.out x61_4 p247 q247
                      cases e247
                      replace hx247_0 := (HB.out.cell (World.block_lt_of_cell? w _ hx247_0)).trans hx247_0
                      replace hx247_1 := (HB.out.cell (World.block_lt_of_cell? w _ hx247_1)).trans hx247_1
                      have HR247_1 := am_ hi247_1
                      have HC247_1 := am_ hl247_1
                      clear hi247_1 hl247_1
                      replace p247 := eq_true p247
                      replace q247 := eq_true q247
                      try go_wp2_with (first | ((with_reducible refine gate_dst (N := 5) rfl ?_); refine box_event ?hg (N := 5) ?hd (cs := #[.string (⟨#[]⟩ : ByteArray), .slice none 0 0]) (t := 62) ?hr ?_; (case hd => rfl); (case hg => rfl); (case hr => first | (go_simp; done) | (go_simp; rfl)); intro gb248 hg w60 hbox hb; replace HO_3 := am_ (Kd.R_below (by (with_reducible repeat (first | apply r1_ | apply r2_ | apply r3_)); exact HO_3.out) hb); have BK248 := am_ (hbox); have GW248 := am_ ((by rw [hg]; exact (below_size (by repeat (first | (with_reducible first | exact HB.out | apply b1_ | apply b2_ | apply b3_ | refine b4_ ?_ GE215.out) | exact HB.out))) : w.heap.size ≤ gb248)); have GE248 := am_ ((by rw [hg]; exact (below_size (by repeat (first | (with_reducible first | exact HB.out | apply b1_ | apply b2_ | apply b3_ | refine b4_ ?_ GE215.out) | exact HB.out))) : w.heap.size ≤ gb248)); replace HB := am_ (below_step (by repeat (first | (with_reducible first | exact HB.out | apply b1_ | apply b2_ | apply b3_ | refine b4_ ?_ GE215.out) | exact HB.out)) hb); have NB215_248 := am_ ((by rw [hg]; exact Nat.ne_of_lt (blk_lt (by (with_reducible repeat (first | refine d1_ ?_ _ | refine d2_ ?_ | refine d3_ ?_ _)); exact BK215.out)) : gb215 ≠ gb248)); have NB248_215 := am_ ((by rw [hg]; exact Nat.ne_of_gt (blk_lt (by (with_reducible repeat (first | refine d1_ ?_ _ | refine d2_ ?_ | refine d3_ ?_ _)); exact BK215.out)) : gb248 ≠ gb215)); replace BK215 := am_ (blk_below (by (with_reducible repeat (first | refine d1_ ?_ _ | refine d2_ ?_ | refine d3_ ?_ _)); exact BK215.out) hb); clear hb hbox hg; have hnb61 := NB248_215.out; have hnc61 := NB215_248.out; have hcz62_0 : w60.cell? ⟨gb248, 0, none⟩ = some (.string (⟨#[]⟩ : ByteArray)) := (blk_cell BK248.out 0).trans rfl; have hcz62_1 : w60.cell? ⟨gb248, 1, none⟩ = some (.slice none 0 0) := (blk_cell BK248.out 1).trans rfl; have hfz62_0 := blk_frozen BK248.out 0; have hfz62_1 := blk_frozen BK248.out 1; obtain ⟨Ao63, co63, eo63⟩ := Kd.R_slice HO_3.out; subst eo63))
                      have n0_ : Aside0 (Kd.R Kd.string 9 ((w60.setCell ⟨gb248, 0, none⟩ (.string ((rd_T62 l0_7 x61_4).f0))).setCell ⟨gb248, 1, none⟩ (.slice A247_1 ((rd_T62 l0_7 x61_4).f1).length c247_1)) w.heap.size (fun _ => True) (.slice Ao63 x3_4.length co63) x3_4) := ⟨by (with_reducible repeat (first | apply r1_ | apply r2_ | apply r3_)); exact Kd.R_mono (Kd.R_far (p := ⟨gb248, 1, none⟩) (Kd.R_far (p := ⟨gb248, 0, none⟩) (Kd.R_types HO_3.out BK248.out (by decide)) (fun _ hk => hk.2) (.string ((rd_T62 l0_7 x61_4).f0))) (fun _ hk => hk.2) (.slice A247_1 ((rd_T62 l0_7 x61_4).f1).length c247_1)) (fun _ hk => trivial)⟩
                      have n1_ : Aside0 (((w60.setCell ⟨gb248, 0, none⟩ (.string ((rd_T62 l0_7 x61_4).f0))).setCell ⟨gb248, 1, none⟩ (.slice A247_1 ((rd_T62 l0_7 x61_4).f1).length c247_1)).heap[gb215]? = some (.cells #[.int .i64 a0_0, .int .i64 a0_1, .int .i64 a0_2, .int .i64 a0_3, .int .i64 a0_4, .bool a0_5, .slice A0_6 l0_6.length c0_6, .slice (some ad247) l0_7.length c0_7, .bool a0_8, .int .i64 a0_9] 41 (0, 0))) := ⟨by (with_reducible repeat (first | refine d1_ ?_ _ | refine d2_ ?_ | refine d3_ ?_ _)); refine blk_far ?_ NB215_248.out _; (with_reducible repeat (first | refine d1_ ?_ _ | refine d2_ ?_ | refine d3_ ?_ _)); refine blk_far ?_ NB215_248.out _; (with_reducible repeat (first | refine d1_ ?_ _ | refine d2_ ?_ | refine d3_ ?_ _)); exact BK215.out⟩
                      have n2_ : Aside0 (((w60.setCell ⟨gb248, 0, none⟩ (.string ((rd_T62 l0_7 x61_4).f0))).setCell ⟨gb248, 1, none⟩ (.slice A247_1 ((rd_T62 l0_7 x61_4).f1).length c247_1)).heap[gb248]? = some (.cells #[.string ((rd_T62 l0_7 x61_4).f0), .slice A247_1 ((rd_T62 l0_7 x61_4).f1).length c247_1] 62 (0, 0))) := ⟨by (with_reducible repeat (first | refine d1_ ?_ _ | refine d2_ ?_ | refine d3_ ?_ _)); refine blk_put (cs := #[.string ((rd_T62 l0_7 x61_4).f0), .slice none 0 0]) ?_ 1 _ rfl; (with_reducible repeat (first | refine d1_ ?_ _ | refine d2_ ?_ | refine d3_ ?_ _)); refine blk_put (cs := #[.string (⟨#[]⟩ : ByteArray), .slice none 0 0]) ?_ 0 _ rfl; (with_reducible repeat (first | refine d1_ ?_ _ | refine d2_ ?_ | refine d3_ ?_ _)); exact BK248.out⟩
                      have n3_ : Aside0 (Below w.heap.size w ((w60.setCell ⟨gb248, 0, none⟩ (.string ((rd_T62 l0_7 x61_4).f0))).setCell ⟨gb248, 1, none⟩ (.slice A247_1 ((rd_T62 l0_7 x61_4).f1).length c247_1))) := ⟨by repeat (first | (with_reducible first | exact HB.out | apply b1_ | apply b2_ | apply b3_ | refine b4_ ?_ GE215.out | refine b4_ ?_ GE248.out) | exact HB.out)⟩
                      (try clear HO_3)
                      (try clear BK215)
                      (try clear BK248)
                      (try clear HB)
                      generalize ((w60.setCell ⟨gb248, 0, none⟩ (.string ((rd_T62 l0_7 x61_4).f0))).setCell ⟨gb248, 1, none⟩ (.slice A247_1 ((rd_T62 l0_7 x61_4).f1).length c247_1)) = w64 at n0_ n1_ n2_ n3_ ⊢
                      have HO_3 := n0_
                      have BK215 := n1_
                      have BK248 := n2_
                      have HB := n3_
                      clear n0_ n1_ n2_ n3_
                      replace HO_3 := am_ (r3_ HO_3.out)
                      replace BK215 := am_ (d2_ BK215.out)
                      replace BK248 := am_ (d2_ BK248.out)
                      replace HB := am_ (b3_ HB.out)
                      refine start_ (n := 11) (S := fun w' => w'.cell? ⟨gb248, 0, none⟩ = some (.string ((rd_T62 l0_7 x61_4).f0)) ∧ w'.cell? ⟨gb248, 1, none⟩ = some (.slice A247_1 ((rd_T62 l0_7 x61_4).f1).length c247_1) ∧ (convert 38 9 (.slice A247_1 ((rd_T62 l0_7 x61_4).f1).length c247_1)).run Tryz.prog w' = .ok (.string (strOfNums ((rd_T62 l0_7 x61_4).f1))) w') (ds := []) #[false, false, false, false, false, false, false, false, false, false, false] (by kernel_rfl) rfl rfl ⟨(blk_cell BK248.out 0).trans rfl, (blk_cell BK248.out 1).trans rfl, Kd.C_string (P := Tryz.prog) (A := A247_1) (c := c247_1) Tryz.underlying38 Tryz.underlying5 Tryz.underlying9 (Kd.C_below HR247_1.out HB.out)⟩ (fun hHeld => ?_); refine with_tabW cloisterref26_Tell.tab13 cloisterref26_Tell.bits13 (fun HT_ HW_ => ?_)
                      generalize w64.drew = w65 at HO_3 BK215 BK248 HB hHeld ⊢
                      refine pu_ 0 65 (bs_ 11 1) rfl rfl (any_of HT_.out (by kernel_rfl)) rfl (by intro w'; go_simp; with_reducible rfl) (by simp only [Act.put, aS, aZ, aC, i64_w, i32_w]; rfl) (fun _ _ _ h => h) ?_
                      refine pu_ 1 66 (bs_ 11 3) rfl rfl (any_of HT_.out (by kernel_rfl)) rfl (by intro w'; go_simp; with_reducible rfl) (by simp only [Act.put, aS, aZ, aC, i64_w, i32_w]; rfl) (fun _ _ _ h => h) ?_
                      refine pu_ 4 69 (bs_ 11 19) rfl rfl (any_of HT_.out (by kernel_rfl)) rfl (by intro w'; go_simp; with_reducible rfl) (by simp only [Act.put, aS, aZ, aC, i64_w, i32_w]; rfl) (fun _ _ _ h => h) ?_
                      refine ta_ 2 67 (bs_ 11 23) rfl rfl (take_ofW HT_.out HW_.out (by kernel_rfl)) rfl (by rintro w' ⟨s0, s1, s2⟩; go_simp; with_reducible rfl) hHeld (by simp only [Act.put, aS, aZ, aC, i64_w, i32_w]; rfl) (fun _ _ _ h => h) ?_
                      refine ta_ 5 70 (bs_ 11 55) rfl rfl (take_ofW HT_.out HW_.out (by kernel_rfl)) rfl (by rintro w' ⟨s0, s1, s2⟩; go_simp; with_reducible rfl) hHeld (by simp only [Act.put, aS, aZ, aC, i64_w, i32_w]; rfl) (fun _ _ _ h => h) ?_
                      refine ta_ 6 71 (bs_ 11 119) rfl rfl (take_ofW HT_.out HW_.out (by kernel_rfl)) rfl (by rintro w' ⟨s0, s1, s2⟩; go_simp; with_reducible rfl) hHeld (by simp only [Act.put, aS, aZ, aC, i64_w, i32_w]; rfl) (fun _ _ _ h => h) ?_
                      refine one_ (i := 3) (N := some 68) (bs_ 11 127) rfl rfl (one_of HT_.out (by kernel_rfl)) (by decide) (fun K hK => ?_)
                      refine goes_ Tryz.func21 (by kernel_rfl) rfl #[.string ((rd_T62 l0_7 x61_4).f0)] (by rfl) rfl rfl (by (try simp only [aT, aK, aL]); first | done | rfl | (simp only [List.length_drop, List.length_take]; rfl)) ?_
                      with_reducible refine (cloisterref26_Quote.calls k4 ((rd_T62 l0_7 x61_4).f0) t249 _ ?side1 A57.out).mono ?_
                      (case side1 => exact sc.Env.below HE.out (by repeat (first | (with_reducible first | exact HB.out | apply b1_ | apply b2_ | apply b3_ | refine b4_ ?_ GE215.out | refine b4_ ?_ GE248.out) | exact HB.out)))
                      rintro e w66 ⟨rfl, hb⟩
                      refine ⟨_, rfl, ?_⟩
                      replace HO_3 := am_ (Kd.R_below (by (with_reducible repeat (first | apply r1_ | apply r2_ | apply r3_)); exact HO_3.out) hb)
                      replace BK215 := am_ (blk_below (by (with_reducible repeat (first | refine d1_ ?_ _ | refine d2_ ?_ | refine d3_ ?_ _)); exact BK215.out) hb)
                      replace BK248 := am_ (blk_below (by (with_reducible repeat (first | refine d1_ ?_ _ | refine d2_ ?_ | refine d3_ ?_ _)); exact BK248.out) hb)
                      replace HB := am_ (below_step (by repeat (first | (with_reducible first | exact HB.out | apply b1_ | apply b2_ | apply b3_ | refine b4_ ?_ GE215.out | refine b4_ ?_ GE248.out) | exact HB.out)) hb)
                      (try clear hb)
                      (try clear hk)
                      refine hK.out _ _ ⟨(blk_cell BK248.out 0).trans rfl, (blk_cell BK248.out 1).trans rfl, Kd.C_string (P := Tryz.prog) (A := A247_1) (c := c247_1) Tryz.underlying38 Tryz.underlying5 Tryz.underlying9 (Kd.C_below HR247_1.out HB.out)⟩ (fun hHeld => ?_)
                      clear hK K
                      refine no_ (by simp only [Act.put, aS, aZ, aC, i64_w, i32_w]; rfl) ?_
                      refine one_ (i := 7) (N := some 72) (bs_ 11 255) rfl rfl (one_of HT_.out (by kernel_rfl)) (by decide) (fun K hK => ?_)
                      refine goes_ Tryz.func21 (by kernel_rfl) rfl #[.string (strOfNums ((rd_T62 l0_7 x61_4).f1))] (by rfl) rfl rfl (by (try simp only [aT, aK, aL]); first | done | rfl | (simp only [List.length_drop, List.length_take]; rfl)) ?_
                      with_reducible refine (cloisterref26_Quote.calls k4 (strOfNums ((rd_T62 l0_7 x61_4).f1)) t250 _ ?side1 A58.out).mono ?_
                      (case side1 => exact sc.Env.below HE.out (by repeat (first | (with_reducible first | exact HB.out | apply b1_ | apply b2_ | apply b3_ | refine b4_ ?_ GE215.out | refine b4_ ?_ GE248.out) | exact HB.out)))
                      rintro e w68 ⟨rfl, hb⟩
                      refine ⟨_, rfl, ?_⟩
                      replace HO_3 := am_ (Kd.R_below (by (with_reducible repeat (first | apply r1_ | apply r2_ | apply r3_)); exact HO_3.out) hb)
                      replace BK215 := am_ (blk_below (by (with_reducible repeat (first | refine d1_ ?_ _ | refine d2_ ?_ | refine d3_ ?_ _)); exact BK215.out) hb)
                      replace BK248 := am_ (blk_below (by (with_reducible repeat (first | refine d1_ ?_ _ | refine d2_ ?_ | refine d3_ ?_ _)); exact BK248.out) hb)
                      replace HB := am_ (below_step (by repeat (first | (with_reducible first | exact HB.out | apply b1_ | apply b2_ | apply b3_ | refine b4_ ?_ GE215.out | refine b4_ ?_ GE248.out) | exact HB.out)) hb)
                      (try clear hb)
                      (try clear hk)
                      refine hK.out _ _ ⟨(blk_cell BK248.out 0).trans rfl, (blk_cell BK248.out 1).trans rfl, Kd.C_string (P := Tryz.prog) (A := A247_1) (c := c247_1) Tryz.underlying38 Tryz.underlying5 Tryz.underlying9 (Kd.C_below HR247_1.out HB.out)⟩ (fun hHeld => ?_)
                      clear hK K
                      refine no_ (by simp only [Act.put, aS, aZ, aC, i64_w, i32_w]; rfl) ?_
                      refine one_ (i := 8) (N := some 73) (bs_ 11 511) rfl rfl (one_of HT_.out (by kernel_rfl)) (by decide) (fun K hK => ?_)
                      refine Kd.R_lit_step Kd.string _ 9 ?hg (N := 73) ?hd (xs := ([t249, t250] : List ByteArray)) (inner := [.string t249, .string t250]) (ok := fun _ => True) (okp := fun _ => True) ?hr ?hp (fun _ hk => hk) trivial (Below.refl _ _) (Nat.le_refl _) (by simp) ?_; (case hd => rfl); (case hg => rfl); (case hr => first | (go_simp; done) | (go_simp; rfl)); (case hp => exact (Reps.one (show Kd.M Kd.string _ _ _ t249 [.string t249] from rfl) (Reps.one (show Kd.M Kd.string _ _ _ t250 [.string t250] from rfl) (Reps.none _ _))))
                      intro v252 w69 ho70 hb hg_ hnew_
                      clear hg_ hnew_
                      (first | rw [← Ny251.out] at ho70 | (simp only [Int.reduceToNat] at ho70; rw [← Ny251.out] at ho70))
                      have HO253 := am_ (Kd.R_lower (Kd.R_new' ho70 (Kd.R_lt (by (with_reducible repeat (first | apply r1_ | apply r2_ | apply r3_)); exact HO_3.out))) (below_size (by repeat (first | (with_reducible first | exact HB.out | apply b1_ | apply b2_ | apply b3_ | refine b4_ ?_ GE215.out | refine b4_ ?_ GE248.out) | exact HB.out))))
                      replace HO_3 := am_ (Kd.R_elder' (by (with_reducible repeat (first | apply r1_ | apply r2_ | apply r3_)); exact HO_3.out) (Kd.R_base ho70) hb)
                      replace BK215 := am_ (blk_below (by (with_reducible repeat (first | refine d1_ ?_ _ | refine d2_ ?_ | refine d3_ ?_ _)); exact BK215.out) hb)
                      replace BK248 := am_ (blk_below (by (with_reducible repeat (first | refine d1_ ?_ _ | refine d2_ ?_ | refine d3_ ?_ _)); exact BK248.out) hb)
                      replace HB := am_ (below_step (by repeat (first | (with_reducible first | exact HB.out | apply b1_ | apply b2_ | apply b3_ | refine b4_ ?_ GE215.out | refine b4_ ?_ GE248.out) | exact HB.out)) hb)
                      clear hb ho70
                      obtain ⟨Ao72, co72, eo72⟩ := Kd.R_slice HO253.out
                      (first | subst eo72 | (injection eo72 with f1_ f2_ f3_; have f4_ := f1_.symm; have f5_ := f3_.symm; clear f1_ f2_ f3_; subst f4_; subst f5_))
                      refine hK.out _ _ ⟨(blk_cell BK248.out 0).trans rfl, (blk_cell BK248.out 1).trans rfl, Kd.C_string (P := Tryz.prog) (A := A247_1) (c := c247_1) Tryz.underlying38 Tryz.underlying5 Tryz.underlying9 (Kd.C_below HR247_1.out HB.out)⟩ (fun hHeld => ?_)
                      clear hK K
                      refine no_ (by simp only [Act.put, aS, aZ, aC, i64_w, i32_w]; rfl) ?_
                      refine one_ (i := 9) (N := some 74) (bs_ 11 1023) rfl rfl (one_of HT_.out (by kernel_rfl)) (by decide) (fun K hK => ?_)
                      refine Kd.R_append_rows_step Kd.string (w0 := w) w.heap.size (by rfl) (.tmp 65) (.tmp 73) 71 9 (.string ⟨#[]⟩) 16 rfl Tryz.underlying71 info9 rfl (by decide) (by omega) (.slice Ao63 x3_4.length co63) x3_4 y251 _ _ _ (fun k_ => some k_ ≠ (.slice Ao72 y251.length co72 : Value).ownBlock) (fun _ => False) rfl rfl ?aO ?aR (fun _ _ h => h) (fun _ h => h.elim) ?aF ?aB ?aS ?aL ?_
                      (case aR => repeat (first | exact (Kd.R_reads' HO253.out).2.2 | (with_reducible refine Kd.C_alloc ?_ _) | (with_reducible refine Kd.C_drewN ?_ _) | (with_reducible refine Kd.C_drew ?_)))
                      (case aB => exact (by repeat (first | (with_reducible first | exact HB.out | apply b1_ | apply b2_ | apply b3_ | refine b4_ ?_ GE215.out | refine b4_ ?_ GE248.out) | exact HB.out)))
                      (case aF => exact (fun k_ hk => Kd.fresh' (Kd.R_lt (by (with_reducible repeat (first | apply r1_ | apply r2_ | apply r3_)); exact HO253.out)) k_ hk))
                      (case aO => exact (by (with_reducible repeat (first | apply r1_ | apply r2_ | apply r3_)); exact Kd.R_mono HO_3.out (fun _ hk => hk.2)))
                      (case aS => exact (below_size (by repeat (first | (with_reducible first | exact HB.out | apply b1_ | apply b2_ | apply b3_ | refine b4_ ?_ GE215.out | refine b4_ ?_ GE248.out) | exact HB.out))))
                      (case aL => have := LMc59.out; omega)
                      intro v255 w71 ho hb hg hat
                      rw [← Ny254.out] at ho
                      replace BK215 := am_ (blk_grown (g := gb215) (o := .cells #[.int .i64 a0_0, .int .i64 a0_1, .int .i64 a0_2, .int .i64 a0_3, .int .i64 a0_4, .bool a0_5, .slice A0_6 l0_6.length c0_6, .slice (some ad247) l0_7.length c0_7, .bool a0_8, .int .i64 a0_9] 41 (0, 0)) (by (with_reducible repeat (first | refine d1_ ?_ _ | refine d2_ ?_ | refine d3_ ?_ _)); exact BK215.out) hg (Kd.R_ne HO_3.out BK215.out (by decide)))
                      replace BK248 := am_ (blk_grown (g := gb248) (o := .cells #[.string ((rd_T62 l0_7 x61_4).f0), .slice A247_1 ((rd_T62 l0_7 x61_4).f1).length c247_1] 62 (0, 0)) (by (with_reducible repeat (first | refine d1_ ?_ _ | refine d2_ ?_ | refine d3_ ?_ _)); exact BK248.out) hg (Kd.R_ne HO_3.out BK248.out (by decide)))
                      replace HO253 := am_ (Kd.R_after (ok := (fun _ => True)) (by (with_reducible repeat (first | apply r1_ | apply r2_ | apply r3_)); exact HO253.out) hg hat)
                      replace HB := am_ (hb)
                      have HO256 := am_ (ho)
                      clear HO_3
                      clear ho hb hg hat
                      refine hK.out _ _ ⟨(blk_cell BK248.out 0).trans rfl, (blk_cell BK248.out 1).trans rfl, Kd.C_string (P := Tryz.prog) (A := A247_1) (c := c247_1) Tryz.underlying38 Tryz.underlying5 Tryz.underlying9 (Kd.C_below HR247_1.out HB.out)⟩ (fun hHeld => ?_)
                      clear hK K
                      refine no_ (by simp only [Act.put, aS, aZ, aC, i64_w, i32_w]; rfl) ?_
                      refine pu_ 10 3 (bs_ 11 2047) rfl rfl (any_of HT_.out (by kernel_rfl)) rfl (by intro w'; go_simp; with_reducible rfl) (by simp only [Act.put, aS, aZ, aC, i64_w, i32_w]; rfl) (fun _ _ _ h => h) ?_
                      refine done_ (done_of HT_.out (by kernel_rfl)) ?_
                      try go_wp2
                      go_roundg k4
                      case measure => have := HJ4.out; have := HJ24.out; have := HJ29.out; have := HK4.out; omega
                      case rel => exact ⟨(y254), (wrap64 (x61_4 + 1)), (by first | rfl | (simp; done) | (simp [*]; done)), H', ⟨by have := HJ4.out; have := HJ24.out; have := HJ29.out; have := HK4.out; omega⟩, ⟨by (with_reducible repeat (first | apply r1_ | apply r2_ | apply r3_)); exact Kd.R_mono HO256.out (fun _ hk => trivial)⟩, ⟨by (with_reducible repeat (first | refine d1_ ?_ _ | refine d2_ ?_ | refine d3_ ?_ _)); exact BK215.out⟩, ⟨by repeat (first | (with_reducible first | exact HB.out | apply b1_ | apply b2_ | apply b3_ | refine b4_ ?_ GE215.out | refine b4_ ?_ GE248.out) | exact HB.out)⟩⟩
                    rw [if_neg c59] at H
                    exact absurd H (by simp)
                  rw [if_neg c56] at H
                  exact absurd H (by simp)
                rw [if_neg c55] at H
                exact absurd H (by simp)
              rw [if_neg c54] at H
              have c54b0 : decide (x61_4 < (l0_7.length : Int)) = false := decide_eq_false c54
              clear c54
              have H' := am_ H
              clear H
              go_wp2
              go_meet
              case rel => exact ⟨_, (x3_4), H', ⟨by have := HJ4.out; have := HJ24.out; have := HJ29.out; have := HK4.out; first | omega | exact Nat.le_refl _⟩, ⟨by (with_reducible repeat (first | apply r1_ | apply r2_ | apply r3_)); exact HO_3.out⟩, ⟨by (with_reducible repeat (first | refine d1_ ?_ _ | refine d2_ ?_ | refine d3_ ?_ _)); exact BK215.out⟩, ⟨by repeat (first | (with_reducible first | exact HB.out | apply b1_ | apply b2_ | apply b3_ | refine b4_ ?_ GE215.out) | exact HB.out)⟩⟩
          rw [if_neg c46] at H
          exact absurd H (by simp)
        rw [if_neg c44] at H
        have c44b0 : decide (0 < (l0_7.length : Int)) = false := decide_eq_false c44
        have c44b1 : decide (0 < l0_7.length) = false := decide_eq_false (by omega)
        clear c44
        (first | rw [c44b0] | rw [c44b1] | rw [c44b2] | (simp only [i64_w, i32_w]; rw [c44b0]) | (simp only [i64_w, i32_w]; rw [c44b1]) | skip)
        have H' := am_ H
        clear H
        go_wp2
        go_meet
        case rel => exact ⟨_, (x3_29), H', ⟨by have := HJ4.out; have := HJ24.out; have := HJ29.out; first | omega | exact Nat.le_refl _⟩, ⟨by (with_reducible repeat (first | apply r1_ | apply r2_ | apply r3_)); exact HO_3.out⟩, ⟨by (with_reducible repeat (first | refine d1_ ?_ _ | refine d2_ ?_ | refine d3_ ?_ _)); exact BK215.out⟩, ⟨by repeat (first | (with_reducible first | exact HB.out | apply b1_ | apply b2_ | apply b3_ | refine b4_ ?_ GE215.out) | exact HB.out)⟩⟩
       case rest =>
        clear HC42
        try clear c1
        try clear c2
        try clear p2
        try clear q2
        try clear hx2
        try clear c3
        try clear hcv3
        try clear c4
        try clear c5
        try clear c6
        try clear p6
        try clear c14
        try clear c14b0
        try clear c14b1
        try clear c14b2
        try clear c17
        try clear c19
        try clear c21
        try clear c24
        try clear p24
        try clear q24
        try clear hx24
        try clear c27
        try clear c28
        try clear c29
        try clear c32
        try clear c32b0
        try clear c32b1
        try clear c32b2
        try clear c34
        try clear hcv36
        try clear c44
        try clear c44b0
        try clear c44b1
        try clear c44b2
        try clear c46
        try clear c54
        try clear c54b0
        try clear c55
        try clear c55b0
        try clear c56
        try clear c56b0
        try clear c59
        try clear c61
        try clear p64
        try clear hcz13_0 hcz13_1 hcz13_2 hcz13_3 hcz13_4 hcz13_5 hcz13_6 hcz13_7 hcz13_8 hcz13_9 hfz13_0 hfz13_1 hfz13_2 hfz13_3 hfz13_4 hfz13_5 hfz13_6 hfz13_7 hfz13_8 hfz13_9
        try clear hcz26_0 hcz26_1 hcz26_2 hcz26_3 hcz26_4 hcz26_5 hcz26_6 hcz26_7 hcz26_8 hcz26_9 hfz26_0 hfz26_1 hfz26_2 hfz26_3 hfz26_4 hfz26_5 hfz26_6 hfz26_7 hfz26_8 hfz26_9
        try clear hcz31_0 hcz31_1 hcz31_2 hcz31_3 hcz31_4 hcz31_5 hcz31_6 hcz31_7 hcz31_8 hcz31_9 hfz31_0 hfz31_1 hfz31_2 hfz31_3 hfz31_4 hfz31_5 hfz31_6 hfz31_7 hfz31_8 hfz31_9
        try clear hcz35_0 hcz35_1 hcz35_2 hcz35_3 hcz35_4 hcz35_5 hcz35_6 hcz35_7 hcz35_8 hcz35_9 hfz35_0 hfz35_1 hfz35_2 hfz35_3 hfz35_4 hfz35_5 hfz35_6 hfz35_7 hfz35_8 hfz35_9
        try clear hcz43_0 hcz43_1 hcz43_2 hcz43_3 hcz43_4 hcz43_5 hcz43_6 hcz43_7 hcz43_8 hcz43_9 hfz43_0 hfz43_1 hfz43_2 hfz43_3 hfz43_4 hfz43_5 hfz43_6 hfz43_7 hfz43_8 hfz43_9
        try clear hcz47_0 hcz47_1 hcz47_2 hcz47_3 hcz47_4 hcz47_5 hcz47_6 hcz47_7 hcz47_8 hcz47_9 hfz47_0 hfz47_1 hfz47_2 hfz47_3 hfz47_4 hfz47_5 hfz47_6 hfz47_7 hfz47_8 hfz47_9
        try clear hcz53_0 hcz53_1 hcz53_2 hcz53_3 hcz53_4 hcz53_5 hcz53_6 hcz53_7 hcz53_8 hcz53_9 hfz53_0 hfz53_1 hfz53_2 hfz53_3 hfz53_4 hfz53_5 hfz53_6 hfz53_7 hfz53_8 hfz53_9
        try clear hcz62_0 hcz62_1 hfz62_0 hfz62_1
        try clear hx247_0
        try clear hx247_1
        try clear p2
        try clear p247
        try clear q247
        obtain ⟨kq, x3_41, HA, HJ41, HO_3, BK215, HB⟩ := hcut
        cases kq with
        | zero => exact absurd HA.out (by simp [cloisterref26_Tell.j4])
        | succ kj41 =>
         have H := HA.out
         clear HA
         simp only [cloisterref26_Tell.j4] at H
         have HC73 := am_ H
         clear H
         obtain ⟨⟨hcz74_0, hcz74_1, hcz74_2, hcz74_3, hcz74_4, hcz74_5, hcz74_6, hcz74_7, hcz74_8, hcz74_9⟩, hfz74_0, hfz74_1, hfz74_2, hfz74_3, hfz74_4, hfz74_5, hfz74_6, hfz74_7, hfz74_8, hfz74_9⟩ := cloisterref26_Tell.c215 BK215.out
         go_upto_if 77 with (fail)
         go_cut [3] (fun v3 wc => ∃ (kq : Nat) (x3_72 : List ByteArray), Aside0 (cloisterref26_Tell.j5 kq x3_72 a0_0 a0_1 a0_2 a0_3 a0_4 a0_5 l0_6 l0_7 a0_8 a0_9 = some r) ∧ Aside0 (kq ≤ kj41) ∧ Aside0 (Kd.R Kd.string 9 wc w.heap.size (fun _ => True) v3 x3_72) ∧ Aside0 (wc.heap[gb215]? = some (.cells #[.int .i64 a0_0, .int .i64 a0_1, .int .i64 a0_2, .int .i64 a0_3, .int .i64 a0_4, .bool a0_5, (.slice A0_6 l0_6.length c0_6), (.slice A0_7 l0_7.length c0_7), .bool a0_8, .int .i64 a0_9] 41 (0, 0))) ∧ Aside0 (Below w.heap.size w wc))
         case first =>
          have H := HC73.out
          clear HC73
          by_cases c75 : a0_8 = true
          · subst c75
            have H1 : (if x3_41.length < 8796093022208 then (cloisterref26_Tell.j5 kj41 (x3_41 ++ [(⟨#[109, 111, 114, 101]⟩ : ByteArray)]) a0_0 a0_1 a0_2 a0_3 a0_4 a0_5 l0_6 l0_7 true a0_9) else (none)) = some r := by rw [if_pos rfl] at H; exact H
            clear H
            have H := H1
            clear H1
            by_cases c76 : x3_41.length < 8796093022208
            · rw [if_pos c76] at H
              have LMc76 := am_ c76
              clear c76
              obtain ⟨y257, hy257⟩ : ∃ y_ : List ByteArray, y_ = (x3_41 ++ [(⟨#[109, 111, 114, 101]⟩ : ByteArray)]) := ⟨_, rfl⟩
              replace H : (cloisterref26_Tell.j5 kj41 y257 a0_0 a0_1 a0_2 a0_3 a0_4 a0_5 l0_6 l0_7 true a0_9) = some r := by first | (rw [hy257]; with_reducible exact H) | (have H2_ := (Option.bind_some _ _).symm.trans H; rw [hy257]; with_reducible exact H2_) | (have H2_ := (Option.bind_some _ _).symm.trans H; with_reducible exact H2_) | with_reducible exact H | (rw [hy257]; exact H) | exact H
              have Ny257 := am_ hy257
              clear hy257
              have H' := am_ H
              clear H
              go_wp2_with (first | ((with_reducible refine gate_builtin (b := .append) (xs := #[.tmp 78, .tmp 79]) rfl ?_); at_builtin; refine Kd.R_append Kd.string (w0 := w) w.heap.size rfl (.tmp 78) (.tmp 79) 71 9 (.string ⟨#[]⟩) 16 rfl Tryz.underlying71 info9 rfl (by decide) (by omega) u3 x3_41 (⟨#[109, 111, 114, 101]⟩ : ByteArray) [.string (⟨#[109, 111, 114, 101]⟩ : ByteArray)] (fun _ => True) (fun _ => False) rfl rfl ?aP (fun _ hk => hk.elim) ?aF ?aO ?aB ?aS ?aL ?_; (case aP => exact rfl); (case aB => exact (by repeat (first | (with_reducible first | exact HB.out | apply b1_ | apply b2_ | apply b3_ | refine b4_ ?_ GE215.out) | exact HB.out))); (case aF => exact (fun _ _ => trivial)); (case aO => exact (by (with_reducible repeat (first | apply r1_ | apply r2_ | apply r3_)); exact HO_3.out)); (case aS => exact (below_size (by repeat (first | (with_reducible first | exact HB.out | apply b1_ | apply b2_ | apply b3_ | refine b4_ ?_ GE215.out) | exact HB.out)))); (case aL => have := LMc76.out; omega); intro v258 w77 ho hb hg hat; rw [← Ny257.out] at ho; replace BK215 := am_ (blk_grown (g := gb215) (o := .cells #[.int .i64 a0_0, .int .i64 a0_1, .int .i64 a0_2, .int .i64 a0_3, .int .i64 a0_4, .bool a0_5, .slice A0_6 l0_6.length c0_6, .slice A0_7 l0_7.length c0_7, .bool true, .int .i64 a0_9] 41 (0, 0)) (by (with_reducible repeat (first | refine d1_ ?_ _ | refine d2_ ?_ | refine d3_ ?_ _)); exact BK215.out) hg (Kd.R_ne HO_3.out BK215.out (by decide))); replace HB := am_ (hb); have HO259 := am_ (ho); clear HO_3; clear ho hb hg hat))
              go_meet
              case rel => exact ⟨_, (y257), H', ⟨by have := HJ4.out; have := HJ24.out; have := HJ29.out; have := HJ41.out; first | omega | exact Nat.le_refl _⟩, ⟨by (with_reducible repeat (first | apply r1_ | apply r2_ | apply r3_)); exact HO259.out⟩, ⟨by (with_reducible repeat (first | refine d1_ ?_ _ | refine d2_ ?_ | refine d3_ ?_ _)); exact BK215.out⟩, ⟨by repeat (first | (with_reducible first | exact HB.out | apply b1_ | apply b2_ | apply b3_ | refine b4_ ?_ GE215.out) | exact HB.out)⟩⟩
            rw [if_neg c76] at H
            exact absurd H (by simp)
          replace c75 := Bool.eq_false_iff.mpr c75
          subst c75
          have H1 : (cloisterref26_Tell.j5 kj41 x3_41 a0_0 a0_1 a0_2 a0_3 a0_4 a0_5 l0_6 l0_7 false a0_9) = some r := by rw [if_neg (show ¬ (false = true) by decide)] at H; exact H
          clear H
          have H := H1
          clear H1
          have H' := am_ H
          clear H
          go_wp2
          go_meet
          case rel => exact ⟨_, (x3_41), H', ⟨by have := HJ4.out; have := HJ24.out; have := HJ29.out; have := HJ41.out; first | omega | exact Nat.le_refl _⟩, ⟨by (with_reducible repeat (first | apply r1_ | apply r2_ | apply r3_)); exact HO_3.out⟩, ⟨by (with_reducible repeat (first | refine d1_ ?_ _ | refine d2_ ?_ | refine d3_ ?_ _)); exact BK215.out⟩, ⟨by repeat (first | (with_reducible first | exact HB.out | apply b1_ | apply b2_ | apply b3_ | refine b4_ ?_ GE215.out) | exact HB.out)⟩⟩
         case rest =>
          clear HC73
          try clear c1
          try clear c2
          try clear p2
          try clear q2
          try clear hx2
          try clear c3
          try clear hcv3
          try clear c4
          try clear c5
          try clear c6
          try clear p6
          try clear c7
          try clear c14
          try clear c14b0
          try clear c14b1
          try clear c14b2
          try clear c17
          try clear c19
          try clear c21
          try clear c24
          try clear p24
          try clear q24
          try clear hx24
          try clear c27
          try clear c28
          try clear c29
          try clear c32
          try clear c32b0
          try clear c32b1
          try clear c32b2
          try clear c34
          try clear hcv36
          try clear c44
          try clear c44b0
          try clear c44b1
          try clear c44b2
          try clear c46
          try clear c54
          try clear c54b0
          try clear c55
          try clear c55b0
          try clear c56
          try clear c56b0
          try clear c59
          try clear c61
          try clear p64
          try clear c75
          try clear c76
          try clear hcz13_0 hcz13_1 hcz13_2 hcz13_3 hcz13_4 hcz13_5 hcz13_6 hcz13_7 hcz13_8 hcz13_9 hfz13_0 hfz13_1 hfz13_2 hfz13_3 hfz13_4 hfz13_5 hfz13_6 hfz13_7 hfz13_8 hfz13_9
          try clear hcz26_0 hcz26_1 hcz26_2 hcz26_3 hcz26_4 hcz26_5 hcz26_6 hcz26_7 hcz26_8 hcz26_9 hfz26_0 hfz26_1 hfz26_2 hfz26_3 hfz26_4 hfz26_5 hfz26_6 hfz26_7 hfz26_8 hfz26_9
          try clear hcz31_0 hcz31_1 hcz31_2 hcz31_3 hcz31_4 hcz31_5 hcz31_6 hcz31_7 hcz31_8 hcz31_9 hfz31_0 hfz31_1 hfz31_2 hfz31_3 hfz31_4 hfz31_5 hfz31_6 hfz31_7 hfz31_8 hfz31_9
          try clear hcz35_0 hcz35_1 hcz35_2 hcz35_3 hcz35_4 hcz35_5 hcz35_6 hcz35_7 hcz35_8 hcz35_9 hfz35_0 hfz35_1 hfz35_2 hfz35_3 hfz35_4 hfz35_5 hfz35_6 hfz35_7 hfz35_8 hfz35_9
          try clear hcz43_0 hcz43_1 hcz43_2 hcz43_3 hcz43_4 hcz43_5 hcz43_6 hcz43_7 hcz43_8 hcz43_9 hfz43_0 hfz43_1 hfz43_2 hfz43_3 hfz43_4 hfz43_5 hfz43_6 hfz43_7 hfz43_8 hfz43_9
          try clear hcz47_0 hcz47_1 hcz47_2 hcz47_3 hcz47_4 hcz47_5 hcz47_6 hcz47_7 hcz47_8 hcz47_9 hfz47_0 hfz47_1 hfz47_2 hfz47_3 hfz47_4 hfz47_5 hfz47_6 hfz47_7 hfz47_8 hfz47_9
          try clear hcz53_0 hcz53_1 hcz53_2 hcz53_3 hcz53_4 hcz53_5 hcz53_6 hcz53_7 hcz53_8 hcz53_9 hfz53_0 hfz53_1 hfz53_2 hfz53_3 hfz53_4 hfz53_5 hfz53_6 hfz53_7 hfz53_8 hfz53_9
          try clear hcz62_0 hcz62_1 hfz62_0 hfz62_1
          try clear hcz74_0 hcz74_1 hcz74_2 hcz74_3 hcz74_4 hcz74_5 hcz74_6 hcz74_7 hcz74_8 hcz74_9 hfz74_0 hfz74_1 hfz74_2 hfz74_3 hfz74_4 hfz74_5 hfz74_6 hfz74_7 hfz74_8 hfz74_9
          try clear hx247_0
          try clear hx247_1
          try clear p2
          try clear p24
          try clear p247
          try clear p6
          try clear p64
          try clear q2
          try clear q24
          try clear q247
          obtain ⟨kq, x3_72, HA, HJ72, HO_3, BK215, HB⟩ := hcut
          cases kq with
          | zero => exact absurd HA.out (by simp [cloisterref26_Tell.j5])
          | succ kj72 =>
           have H := HA.out
           clear HA
           simp only [cloisterref26_Tell.j5] at H
           by_cases c78 : a0_9 = 0
           · rw [if_pos c78] at H
             have c78b0 : (a0_9 == 0) = true := beq_iff_eq.mpr c78
             have c78b1 : (a0_9 != 0) = false := bne_eq_false_iff_eq.mpr c78
             clear c78
             replace H := Option.bind_eq_some_iff.mp H
             obtain ⟨t260, A790, H⟩ := H
             have A79 := am_ A790
             clear A790
             obtain rfl := Option.some.inj H
             obtain ⟨⟨hcz80_0, hcz80_1, hcz80_2, hcz80_3, hcz80_4, hcz80_5, hcz80_6, hcz80_7, hcz80_8, hcz80_9⟩, hfz80_0, hfz80_1, hfz80_2, hfz80_3, hfz80_4, hfz80_5, hfz80_6, hfz80_7, hfz80_8, hfz80_9⟩ := cloisterref26_Tell.c215 BK215.out
             obtain ⟨Ao81, co81, eo81⟩ := Kd.R_slice HO_3.out
             subst eo81
             go_wp2_with (first | ((with_reducible refine gate_callee (f := 28) rfl ?_); refine goesL_ (some 91) rfl rfl Tryz.func28 (by kernel_rfl) rfl #[.slice Ao81 x3_72.length co81] rfl (by (try simp only [aT, aK, aL]); first | done | rfl | (simp only [List.length_drop, List.length_take]; rfl)) ?_; (with_reducible refine (cloisterref26_line.calls kj72 _ _ x3_72 t260 _ ?side1 ?side2 A79.out).mono ?_); (case side1 => repeat (first | exact (Kd.R_reads' HO_3.out).2.2 | (with_reducible refine Kd.C_alloc ?_ _) | (with_reducible refine Kd.C_drewN ?_ _) | (with_reducible refine Kd.C_drew ?_))); (case side2 => exact (Kd.R_reads' HO_3.out).2.1); rintro e w' ⟨rfl, ⟨nd, rfl⟩⟩; refine ⟨_, rfl, ?_⟩))
             go_ret
             exact ⟨by first | rfl | (simp [errW_none, errW_some] <;> rfl) | (simp [*, errW_none, errW_some] <;> rfl), by repeat (first | (with_reducible first | exact HB.out | apply b1_ | apply b2_ | apply b3_ | refine b4_ ?_ GE215.out) | exact HB.out)⟩
           rw [if_neg c78] at H
           have c78b0 : (a0_9 == 0) = false := beq_eq_false_iff_ne.mpr c78
           have c78b1 : (a0_9 != 0) = true := bne_iff_ne.mpr c78
           replace H := Option.bind_eq_some_iff.mp H
           obtain ⟨t261, A820, H⟩ := H
           have A82 := am_ A820
           clear A820
           obtain ⟨y262, hy262⟩ : ∃ y_ : List ByteArray, y_ = (([(⟨#[115, 116, 97, 109, 112]⟩ : ByteArray), t261] : List ByteArray)) := ⟨_, rfl⟩
           replace H : (if x3_72.length + y262.length < 8796093022208 then ((cloisterref26_line.f kj72 (x3_72 ++ y262)).bind fun t268 => (some t268)) else (none)) = some r := by first | (rw [hy262]; with_reducible exact H) | (have H2_ := (Option.bind_some _ _).symm.trans H; rw [hy262]; with_reducible exact H2_) | (have H2_ := (Option.bind_some _ _).symm.trans H; with_reducible exact H2_) | with_reducible exact H | (rw [hy262]; exact H) | exact H
           have Ny262 := am_ hy262
           clear hy262
           by_cases c83 : x3_72.length + y262.length < 8796093022208
           · rw [if_pos c83] at H
             have LMc83 := am_ c83
             clear c83
             obtain ⟨y265, hy265⟩ : ∃ y_ : List ByteArray, y_ = (x3_72 ++ y262) := ⟨_, rfl⟩
             replace H : ((cloisterref26_line.f kj72 y265).bind fun t268 => (some t268)) = some r := by first | (rw [hy265]; with_reducible exact H) | (have H2_ := (Option.bind_some _ _).symm.trans H; rw [hy265]; with_reducible exact H2_) | (have H2_ := (Option.bind_some _ _).symm.trans H; with_reducible exact H2_) | with_reducible exact H | (rw [hy265]; exact H) | exact H
             have Ny265 := am_ hy265
             clear hy265
             replace H := Option.bind_eq_some_iff.mp H
             obtain ⟨t268, A840, H⟩ := H
             have A84 := am_ A840
             clear A840
             obtain rfl := Option.some.inj H
             obtain ⟨⟨hcz85_0, hcz85_1, hcz85_2, hcz85_3, hcz85_4, hcz85_5, hcz85_6, hcz85_7, hcz85_8, hcz85_9⟩, hfz85_0, hfz85_1, hfz85_2, hfz85_3, hfz85_4, hfz85_5, hfz85_6, hfz85_7, hfz85_8, hfz85_9⟩ := cloisterref26_Tell.c215 BK215.out
             try go_wp2_with (first | ((with_reducible refine gate_callee (f := 29) rfl ?_); refine goesL_ (some 87) rfl rfl Tryz.func29 (by kernel_rfl) rfl #[.int .i64 a0_9] rfl (by (try simp only [aT, aK, aL]); first | done | rfl | (simp only [List.length_drop, List.length_take]; rfl)) ?_; (with_reducible refine (strconv_Itoa.calls a0_9 t261 _ ?side1 A82.out).mono ?_); (case side1 => exact sc.Env.below HE.out (by repeat (first | (with_reducible first | exact HB.out | apply b1_ | apply b2_ | apply b3_ | refine b4_ ?_ GE215.out) | exact HB.out))); rintro e w86 ⟨rfl, hb⟩; refine ⟨_, rfl, ?_⟩; replace HO_3 := am_ (Kd.R_below (by (with_reducible repeat (first | apply r1_ | apply r2_ | apply r3_)); exact HO_3.out) hb); replace BK215 := am_ (blk_below (by (with_reducible repeat (first | refine d1_ ?_ _ | refine d2_ ?_ | refine d3_ ?_ _)); exact BK215.out) hb); replace HB := am_ (below_step (by repeat (first | (with_reducible first | exact HB.out | apply b1_ | apply b2_ | apply b3_ | refine b4_ ?_ GE215.out) | exact HB.out)) hb); (try clear hb); (try clear hk)) | ((with_reducible refine gate_dst (N := 88) rfl ?_); refine Kd.R_lit Kd.string _ 9 ?hg (N := 88) ?hd (xs := ([(⟨#[115, 116, 97, 109, 112]⟩ : ByteArray), t261] : List ByteArray)) (inner := [.string (⟨#[115, 116, 97, 109, 112]⟩ : ByteArray), .string t261]) (ok := fun _ => True) (okp := fun _ => True) ?hr ?hp (fun _ hk => hk) trivial (Below.refl _ _) (Nat.le_refl _) (by simp) ?_; (case hd => rfl); (case hg => rfl); (case hr => first | (go_simp; done) | (go_simp; rfl)); (case hp => exact (Reps.one (show Kd.M Kd.string _ _ _ (⟨#[115, 116, 97, 109, 112]⟩ : ByteArray) [.string (⟨#[115, 116, 97, 109, 112]⟩ : ByteArray)] from rfl) (Reps.one (show Kd.M Kd.string _ _ _ t261 [.string t261] from rfl) (Reps.none _ _)))); intro v263 w87 ho88 hb hg_ hnew_; clear hg_ hnew_; (first | rw [← Ny262.out] at ho88 | (simp only [Int.reduceToNat] at ho88; rw [← Ny262.out] at ho88)); have HO264 := am_ (Kd.R_lower (Kd.R_new' ho88 (Kd.R_lt (by (with_reducible repeat (first | apply r1_ | apply r2_ | apply r3_)); exact HO_3.out))) (below_size (by repeat (first | (with_reducible first | exact HB.out | apply b1_ | apply b2_ | apply b3_ | refine b4_ ?_ GE215.out) | exact HB.out)))); replace HO_3 := am_ (Kd.R_elder' (by (with_reducible repeat (first | apply r1_ | apply r2_ | apply r3_)); exact HO_3.out) (Kd.R_base ho88) hb); replace BK215 := am_ (blk_below (by (with_reducible repeat (first | refine d1_ ?_ _ | refine d2_ ?_ | refine d3_ ?_ _)); exact BK215.out) hb); replace HB := am_ (below_step (by repeat (first | (with_reducible first | exact HB.out | apply b1_ | apply b2_ | apply b3_ | refine b4_ ?_ GE215.out) | exact HB.out)) hb); clear hb ho88; obtain ⟨Ao90, co90, eo90⟩ := Kd.R_slice HO264.out; subst eo90) | ((with_reducible refine gate_builtin (b := .append) (xs := #[.tmp 84, .tmp 88]) rfl ?_); at_builtin; refine Kd.R_append_rows Kd.string (w0 := w) w.heap.size rfl (.tmp 84) (.tmp 88) 71 9 (.string ⟨#[]⟩) 16 rfl Tryz.underlying71 info9 rfl (by decide) (by omega) u3 x3_72 y262 _ _ _ (fun k_ => some k_ ≠ (.slice Ao90 y262.length co90 : Value).ownBlock) (fun _ => False) rfl rfl ?aO ?aR (fun _ _ h => h) (fun _ h => h.elim) ?aF ?aB ?aS ?aL ?_; (case aR => repeat (first | exact (Kd.R_reads' HO264.out).2.2 | (with_reducible refine Kd.C_alloc ?_ _) | (with_reducible refine Kd.C_drewN ?_ _) | (with_reducible refine Kd.C_drew ?_))); (case aB => exact (by repeat (first | (with_reducible first | exact HB.out | apply b1_ | apply b2_ | apply b3_ | refine b4_ ?_ GE215.out) | exact HB.out))); (case aF => exact (fun k_ hk => Kd.fresh' (Kd.R_lt (by (with_reducible repeat (first | apply r1_ | apply r2_ | apply r3_)); exact HO264.out)) k_ hk)); (case aO => exact (by (with_reducible repeat (first | apply r1_ | apply r2_ | apply r3_)); exact Kd.R_mono HO_3.out (fun _ hk => hk.2))); (case aS => exact (below_size (by repeat (first | (with_reducible first | exact HB.out | apply b1_ | apply b2_ | apply b3_ | refine b4_ ?_ GE215.out) | exact HB.out)))); (case aL => have := LMc83.out; omega); intro v266 w89 ho hb hg hat; rw [← Ny265.out] at ho; replace BK215 := am_ (blk_grown (g := gb215) (o := .cells #[.int .i64 a0_0, .int .i64 a0_1, .int .i64 a0_2, .int .i64 a0_3, .int .i64 a0_4, .bool a0_5, .slice A0_6 l0_6.length c0_6, .slice A0_7 l0_7.length c0_7, .bool a0_8, .int .i64 a0_9] 41 (0, 0)) (by (with_reducible repeat (first | refine d1_ ?_ _ | refine d2_ ?_ | refine d3_ ?_ _)); exact BK215.out) hg (Kd.R_ne HO_3.out BK215.out (by decide))); replace HO264 := am_ (Kd.R_after (ok := (fun _ => True)) (by (with_reducible repeat (first | apply r1_ | apply r2_ | apply r3_)); exact HO264.out) hg hat); replace HB := am_ (hb); have HO267 := am_ (ho); clear HO_3; clear ho hb hg hat; obtain ⟨Ao91, co91, eo91⟩ := Kd.R_slice HO267.out; subst eo91) | ((with_reducible refine gate_callee (f := 28) rfl ?_); refine goesL_ (some 91) rfl rfl Tryz.func28 (by kernel_rfl) rfl #[.slice Ao91 y265.length co91] rfl (by (try simp only [aT, aK, aL]); first | done | rfl | (simp only [List.length_drop, List.length_take]; rfl)) ?_; (with_reducible refine (cloisterref26_line.calls kj72 _ _ y265 t268 _ ?side1 ?side2 A84.out).mono ?_); (case side1 => repeat (first | exact (Kd.R_reads' HO267.out).2.2 | (with_reducible refine Kd.C_alloc ?_ _) | (with_reducible refine Kd.C_drewN ?_ _) | (with_reducible refine Kd.C_drew ?_))); (case side2 => exact (Kd.R_reads' HO267.out).2.1); rintro e w' ⟨rfl, ⟨nd, rfl⟩⟩; refine ⟨_, rfl, ?_⟩))
             go_ret
             exact ⟨by first | rfl | (simp [errW_none, errW_some] <;> rfl) | (simp [*, errW_none, errW_some] <;> rfl), by repeat (first | (with_reducible first | exact HB.out | apply b1_ | apply b2_ | apply b3_ | refine b4_ ?_ GE215.out) | exact HB.out)⟩
           rw [if_neg c83] at H
           exact absurd H (by simp)
end Go.Proofs.YtndbbgihpoiojaaGreatDoor.Q
namespace Go.Proofs.YtndbbgihpoiojaaGreatDoor.Q
open Go.RowKit Go.Proofs.YtndbbgihpoiojaaGreatDoorW.PrintWords Go.Proofs.YtndbbgihpoiojaaGreatDoorW.PrintLast
def nums8 (l : List UInt8) : List Int := l.map fun b => (b.toNat : Int)
theorem nums8_append (a b : List UInt8) : nums8 (a ++ b) = nums8 a ++ nums8 b := List.map_append
theorem nums8_length (a : List UInt8) : (nums8 a).length = a.length := List.length_map ..
theorem strOf_nums8 (l : List UInt8) : strOfNums (nums8 l) = ⟨l.toArray⟩ := by
 unfold strOfNums nums8
 rw [List.map_map]
 congr 2
 conv => rhs; rw [← List.map_id l]
 apply List.map_congr_left
 intro b _
 simp
theorem bytesOf_nums8 (s : ByteArray) : bytesOf s = nums8 s.data.toList := rfl
theorem bt_nat (s : ByteArray) (i : Nat) (h : i < s.data.toList.length) : bt s (i : Int) = ((s.data.toList[i]).toNat : Int) := by
 have hs : i < s.size := by rw [← data_length]; exact h
 have := bt_at s (i : Int) (by simpa using hs)
 rw [← this]
 simp
 rfl
theorem bt_lit (l : List UInt8) (i : Nat) (h : i < l.length) : bt ⟨l.toArray⟩ (i : Int) = (l[i].toNat : Int) := bt_nat ⟨l.toArray⟩ i h
theorem w64 {x : Int} (h0 : -9223372036854775808 ≤ x) (h1 : x ≤ 9223372036854775807) : wrap64 x = x := by unfold wrap64; omega
theorem ba_ext {a b : ByteArray} (h : a.data.toList = b.data.toList) : a = b := by
 obtain ⟨⟨l⟩⟩ := a
 obtain ⟨⟨m⟩⟩ := b
 have h' : l = m := h
 subst h'
 rfl
theorem ba_eta (a : ByteArray) : (⟨a.data.toList.toArray⟩ : ByteArray) = a := ba_ext rfl
theorem toList_data (a : ByteArray) : a.toList = a.data.toList := sc.bytes_list a
theorem size_mk (l : List UInt8) : (⟨l.toArray⟩ : ByteArray).size = l.length := by simp [ByteArray.size]
theorem extract_data (s : ByteArray) (a b : Nat) : (s.extract a b).data.toList = (s.data.toList.drop a).take (b - a) := by
 simp [ByteArray.data_extract, List.take_drop]
end Go.Proofs.YtndbbgihpoiojaaGreatDoor.Q
