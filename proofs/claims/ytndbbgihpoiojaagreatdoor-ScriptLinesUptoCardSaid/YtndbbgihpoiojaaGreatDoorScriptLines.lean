/- Script: the law ScriptLines: its second form's card. Called with two answers: true; they read as they did (where what it reads is of bulk at most 1048576). -/
import Derived.Test.YtndbbgihpoiojaaGreatDoorScriptLines5
set_option linter.unusedVariables false
set_option linter.unusedSimpArgs false
set_option maxRecDepth 100000
set_option maxHeartbeats 8000000
namespace Go.Proofs.YtndbbgihpoiojaaGreatDoor.Q
open Go.RowKit Go.Proofs.YtndbbgihpoiojaaGreatDoorW.PrintWords Go.Proofs.YtndbbgihpoiojaaGreatDoorW.PrintLast Go.Proofs.YtndbbgihpoiojaaGreatDoorW.PrintMore
attribute [local go_sem] max2_int min2_int max_two min_two max_three min_three max_four min_four   -- for this text's walks alone
attribute [local go_sem high] eqA37
mutual
def cloisterlaw26_ScriptLines.j0 : Nat → ByteArray → ByteArray → Bool → Int → Int → Int → Int → Int → Bool → List Int → List (S62) → Bool → Int → Int → Int → Int → Int → Int → Bool → List Int → List (S62) → Bool → Int → Option (Bool)
 | 0, _, _, _, _, _, _, _, _, _, _, _, _, _, _, _, _, _, _, _, _, _, _, _ => none
 | k + 1, x5, x6, x7, x578000, x578001, x578002, x578003, x578004, x578005, x578006, x578007, x578008, x578009, x579000, x579001, x579002, x579003, x579004, x579005, x579006, x579007, x579008, x579009 => cloisterlaw26_ScriptLines.l0 k x5 x6 x7 (mn (x578007.length : Int) (x579007.length : Int)) 0 x578000 x578001 x578002 x578003 x578004 x578005 x578006 x578007 x578008 x578009 x579000 x579001 x579002 x579003 x579004 x579005 x579006 x579007 x579008 x579009
def cloisterlaw26_ScriptLines.l0 : Nat → ByteArray → ByteArray → Bool → Int → Int → Int → Int → Int → Int → Int → Bool → List Int → List (S62) → Bool → Int → Int → Int → Int → Int → Int → Bool → List Int → List (S62) → Bool → Int → Option (Bool)
 | 0, _, _, _, _, _, _, _, _, _, _, _, _, _, _, _, _, _, _, _, _, _, _, _, _, _ => none
 | k + 1, x5, x6, x7, x83, x84, x578000, x578001, x578002, x578003, x578004, x578005, x578006, x578007, x578008, x578009, x579000, x579001, x579002, x579003, x579004, x579005, x579006, x579007, x579008, x579009 => if x84 < x83 then (if x7 = true then (if 0 ≤ x84 then (if x84 < (x578007.length : Int) then (if x84 < (x579007.length : Int) then (if ((rd_T62 x578007 x84).f0).toList = ((rd_T62 x579007 x84).f0).toList then ((slices_Equal_byte_byte.f k ((rd_T62 x578007 x84).f1) ((rd_T62 x579007 x84).f1)).bind fun t586 => (cloisterlaw26_ScriptLines.l0 k x5 x6 t586 x83 (wrap64 (x84 + 1)) x578000 x578001 x578002 x578003 x578004 x578005 x578006 x578007 x578008 x578009 x579000 x579001 x579002 x579003 x579004 x579005 x579006 x579007 x579008 x579009)) else (cloisterlaw26_ScriptLines.l0 k x5 x6 false x83 (wrap64 (x84 + 1)) x578000 x578001 x578002 x578003 x578004 x578005 x578006 x578007 x578008 x578009 x579000 x579001 x579002 x579003 x579004 x579005 x579006 x579007 x579008 x579009)) else (none)) else (none)) else (none)) else (cloisterlaw26_ScriptLines.l0 k x5 x6 false x83 (wrap64 (x84 + 1)) x578000 x578001 x578002 x578003 x578004 x578005 x578006 x578007 x578008 x578009 x579000 x579001 x579002 x579003 x579004 x579005 x579006 x579007 x579008 x579009)) else (cloisterlaw26_ScriptLines.l1 k x5 x6 x7 (x5.size : Int) 0)
def cloisterlaw26_ScriptLines.l1 : Nat → ByteArray → ByteArray → Bool → Int → Int → Option (Bool)
 | 0, _, _, _, _, _ => none
 | k + 1, x5, x6, x7, x120, x121 => if x121 < x120 then (if 0 ≤ x121 then (if x121 < (x5.size : Int) then (if (bt x5 x121) = 10 then (some false) else (cloisterlaw26_ScriptLines.l1 k x5 x6 x7 x120 (wrap64 (x121 + 1)))) else (none)) else (none)) else (if ((x5.toList == x6.toList) == x7) = true then ((cloisterlaw26_scriptFixed.f).bind fun t587 => (some t587)) else (some false))
end
def cloisterlaw26_ScriptLines.f (k : Nat) (a0_0 : Int) (a0_1 : Int) (a0_2 : Int) (a0_3 : Int) (a0_4 : Int) (a0_5 : Bool) (l0_6 : List Int) (l0_7 : List (S62)) (a0_8 : Bool) (a0_9 : Int) (a1_0 : Int) (a1_1 : Int) (a1_2 : Int) (a1_3 : Int) (a1_4 : Int) (a1_5 : Bool) (l1_6 : List Int) (l1_7 : List (S62)) (a1_8 : Bool) (a1_9 : Int) : Option (Bool) := (script_Tell.f k a0_0 a0_1 a0_2 a0_3 a0_4 a0_5 l0_6 l0_7 a0_8 a0_9).bind fun t579 => ((script_Tell.f k a1_0 a1_1 a1_2 a1_3 a1_4 a1_5 l1_6 l1_7 a1_8 a1_9).bind fun t580 => (if a0_0 = a1_0 then (if a0_1 = a1_1 then (if a0_2 = a1_2 then (if (a0_3 == a1_3 && (a0_4 == a1_4)) = true then (if (a0_5 == a1_5) = true then ((slices_Equal_byte_byte.f k l0_6 l1_6).bind fun t581 => (if t581 = true then (if (a0_8 == a1_8) = true then (if a0_9 = a1_9 then (cloisterlaw26_ScriptLines.j0 k t579 t580 ((l0_7.length : Int) == (l1_7.length : Int)) a0_0 a0_1 a0_2 a0_3 a0_4 a0_5 l0_6 l0_7 a0_8 a0_9 a1_0 a1_1 a1_2 a1_3 a1_4 a1_5 l1_6 l1_7 a1_8 a1_9) else (cloisterlaw26_ScriptLines.j0 k t579 t580 false a0_0 a0_1 a0_2 a0_3 a0_4 a0_5 l0_6 l0_7 a0_8 a0_9 a1_0 a1_1 a1_2 a1_3 a1_4 a1_5 l1_6 l1_7 a1_8 a1_9)) else (cloisterlaw26_ScriptLines.j0 k t579 t580 false a0_0 a0_1 a0_2 a0_3 a0_4 a0_5 l0_6 l0_7 a0_8 a0_9 a1_0 a1_1 a1_2 a1_3 a1_4 a1_5 l1_6 l1_7 a1_8 a1_9)) else (cloisterlaw26_ScriptLines.j0 k t579 t580 false a0_0 a0_1 a0_2 a0_3 a0_4 a0_5 l0_6 l0_7 a0_8 a0_9 a1_0 a1_1 a1_2 a1_3 a1_4 a1_5 l1_6 l1_7 a1_8 a1_9))) else (cloisterlaw26_ScriptLines.j0 k t579 t580 false a0_0 a0_1 a0_2 a0_3 a0_4 a0_5 l0_6 l0_7 a0_8 a0_9 a1_0 a1_1 a1_2 a1_3 a1_4 a1_5 l1_6 l1_7 a1_8 a1_9)) else (cloisterlaw26_ScriptLines.j0 k t579 t580 false a0_0 a0_1 a0_2 a0_3 a0_4 a0_5 l0_6 l0_7 a0_8 a0_9 a1_0 a1_1 a1_2 a1_3 a1_4 a1_5 l1_6 l1_7 a1_8 a1_9)) else (cloisterlaw26_ScriptLines.j0 k t579 t580 false a0_0 a0_1 a0_2 a0_3 a0_4 a0_5 l0_6 l0_7 a0_8 a0_9 a1_0 a1_1 a1_2 a1_3 a1_4 a1_5 l1_6 l1_7 a1_8 a1_9)) else (cloisterlaw26_ScriptLines.j0 k t579 t580 false a0_0 a0_1 a0_2 a0_3 a0_4 a0_5 l0_6 l0_7 a0_8 a0_9 a1_0 a1_1 a1_2 a1_3 a1_4 a1_5 l1_6 l1_7 a1_8 a1_9)) else (cloisterlaw26_ScriptLines.j0 k t579 t580 false a0_0 a0_1 a0_2 a0_3 a0_4 a0_5 l0_6 l0_7 a0_8 a0_9 a1_0 a1_1 a1_2 a1_3 a1_4 a1_5 l1_6 l1_7 a1_8 a1_9)))
def cloisterlaw26_ScriptLines.T6 : Bool × List (List Nat × List Nat) := (true, [([], []), ([0], [0]), ([1], [1]), ([2, 1], [1, 2]), ([1], [1]), ([3, 4, 1], [1, 3, 4]), ([5, 1], [1, 5]), ([6, 1], [1, 6]), ([1], [1]), ([8, 1], [1, 8]), ([1], [1]), ([9, 10, 1], [1, 9, 10]), ([11, 1], [1, 11]), ([12, 1], [1, 12]), ([7, 13, 1], [1, 7, 13]), ([1, 14], [1, 14]), ([15, 1], [15]), ([16], [16]), ([17, 16], [16, 17]), ([16], [16]), ([18, 19, 16], [16, 18, 19]), ([20, 16], [16, 20]), ([21, 16], [16, 21]), ([16], [16]), ([23, 16], [16, 23]), ([16], [16]), ([24, 25, 16], [16, 24, 25]), ([26, 16], [16, 26]), ([27, 16], [16, 27]), ([22, 28, 16, 16], [16, 22, 28]), ([16, 29], [16, 29]), ([30, 29, 0, 1, 2, 3, 4, 5, 6, 7, 8, 9, 10, 11, 12, 13, 14, 15, 16, 17, 18, 19, 20, 21, 22, 23, 24, 25, 26, 27, 28, 29, 30], [0, 30])])
def cloisterlaw26_ScriptLines.B6 : List Nat := [0, 1, 3, 7, 3, 31, 63, 127, 3, 259, 3, 1795, 3843, 7939, 16383, 32767, 65535, 131071, 262143, 131071, 1048575, 2097151, 4194303, 131071, 8519679, 131071, 58851327, 125960191, 260177919, 536870911, 1073741823, 2147483647]
theorem cloisterlaw26_ScriptLines.tab6 : rtab .any (opsOf Tryz.f12 6) = cloisterlaw26_ScriptLines.T6 := by kernel_rfl
theorem cloisterlaw26_ScriptLines.bits6 : waitsOk cloisterlaw26_ScriptLines.T6.2 cloisterlaw26_ScriptLines.B6 = true := by kernel_rfl
theorem cloisterlaw26_ScriptLines.c577 {w : World} {g : Nat} {a0_0 : Int} {a0_1 : Int} {a0_2 : Int} {a0_3 : Int} {a0_4 : Int} {a0_5 : Bool} {A0_6 : Option Addr} {c0_6 : Nat} {l0_6 : List Int} {A0_7 : Option Addr} {c0_7 : Nat} {l0_7 : List (S62)} {a0_8 : Bool} {a0_9 : Int} (h : w.heap[g]? = some (.cells #[.int .i64 a0_0, .int .i64 a0_1, .int .i64 a0_2, .int .i64 a0_3, .int .i64 a0_4, .bool a0_5, .slice A0_6 l0_6.length c0_6, .slice A0_7 l0_7.length c0_7, .bool a0_8, .int .i64 a0_9] 41 (0, 0))) : (w.cell? ⟨g, 0, none⟩ = some (.int .i64 a0_0) ∧ w.cell? ⟨g, 1, none⟩ = some (.int .i64 a0_1) ∧ w.cell? ⟨g, 2, none⟩ = some (.int .i64 a0_2) ∧ w.cell? ⟨g, 3, none⟩ = some (.int .i64 a0_3) ∧ w.cell? ⟨g, 4, none⟩ = some (.int .i64 a0_4) ∧ w.cell? ⟨g, 5, none⟩ = some (.bool a0_5) ∧ w.cell? ⟨g, 6, none⟩ = some (.slice A0_6 l0_6.length c0_6) ∧ w.cell? ⟨g, 7, none⟩ = some (.slice A0_7 l0_7.length c0_7) ∧ w.cell? ⟨g, 8, none⟩ = some (.bool a0_8) ∧ w.cell? ⟨g, 9, none⟩ = some (.int .i64 a0_9)) ∧ w.frozen? ⟨g, 0, none⟩ = false ∧ w.frozen? ⟨g, 1, none⟩ = false ∧ w.frozen? ⟨g, 2, none⟩ = false ∧ w.frozen? ⟨g, 3, none⟩ = false ∧ w.frozen? ⟨g, 4, none⟩ = false ∧ w.frozen? ⟨g, 5, none⟩ = false ∧ w.frozen? ⟨g, 6, none⟩ = false ∧ w.frozen? ⟨g, 7, none⟩ = false ∧ w.frozen? ⟨g, 8, none⟩ = false ∧ w.frozen? ⟨g, 9, none⟩ = false := ⟨(c10_ h), blk_frozen h 0, blk_frozen h 1, blk_frozen h 2, blk_frozen h 3, blk_frozen h 4, blk_frozen h 5, blk_frozen h 6, blk_frozen h 7, blk_frozen h 8, blk_frozen h 9⟩
theorem cloisterlaw26_ScriptLines.calls (k : Nat) (a0_0 : Int) (a0_1 : Int) (a0_2 : Int) (a0_3 : Int) (a0_4 : Int) (a0_5 : Bool) (A0_6 : Option Addr) (c0_6 : Nat) (l0_6 : List Int) (A0_7 : Option Addr) (c0_7 : Nat) (l0_7 : List (S62)) (a0_8 : Bool) (a0_9 : Int) (a1_0 : Int) (a1_1 : Int) (a1_2 : Int) (a1_3 : Int) (a1_4 : Int) (a1_5 : Bool) (A1_6 : Option Addr) (c1_6 : Nat) (l1_6 : List Int) (A1_7 : Option Addr) (c1_7 : Nat) (l1_7 : List (S62)) (a1_8 : Bool) (a1_9 : Int) (r : Bool) (w : World) (hr0_6 : Kd.C (Kd.int .u8) w A0_6 l0_6.length l0_6) (hc0_6 : l0_6.length ≤ c0_6) (hr0_7 : Kd.C k62 w A0_7 l0_7.length l0_7) (hc0_7 : l0_7.length ≤ c0_7) (hr1_6 : Kd.C (Kd.int .u8) w A1_6 l1_6.length l1_6) (hc1_6 : l1_6.length ≤ c1_6) (hr1_7 : Kd.C k62 w A1_7 l1_7.length l1_7) (hc1_7 : l1_7.length ≤ c1_7) (hE : sc.Env w) (h : cloisterlaw26_ScriptLines.f k a0_0 a0_1 a0_2 a0_3 a0_4 a0_5 l0_6 l0_7 a0_8 a0_9 a1_0 a1_1 a1_2 a1_3 a1_4 a1_5 l1_6 l1_7 a1_8 a1_9 = some r) :
 Calls Tryz.prog 12 #[.agg #[.int .i64 a0_0, .int .i64 a0_1, .int .i64 a0_2, .int .i64 a0_3, .int .i64 a0_4, .bool a0_5, .slice A0_6 l0_6.length c0_6, .slice A0_7 l0_7.length c0_7, .bool a0_8, .int .i64 a0_9], .agg #[.int .i64 a1_0, .int .i64 a1_1, .int .i64 a1_2, .int .i64 a1_3, .int .i64 a1_4, .bool a1_5, .slice A1_6 l1_6.length c1_6, .slice A1_7 l1_7.length c1_7, .bool a1_8, .int .i64 a1_9]] w fun e w' => e = .returned (.bool r) ∧ Below w.heap.size w w' := by
 have hu41 := Tryz.underlying41
 have hu37 := Tryz.underlying37
 have HR0_6 := am_ hr0_6
 have HC0_6 := am_ hc0_6
 clear hr0_6 hc0_6
 have HR0_7 := am_ hr0_7
 have HC0_7 := am_ hc0_7
 clear hr0_7 hc0_7
 have HR1_6 := am_ hr1_6
 have HC1_6 := am_ hc1_6
 clear hr1_6 hc1_6
 have HR1_7 := am_ hr1_7
 have HC1_7 := am_ hc1_7
 clear hr1_7 hc1_7
 have HE := am_ hE
 clear hE
 have HB := am_ (Below.refl w.heap.size w)
 have H : ((script_Tell.f k a0_0 a0_1 a0_2 a0_3 a0_4 a0_5 l0_6 l0_7 a0_8 a0_9).bind fun t579 => ((script_Tell.f k a1_0 a1_1 a1_2 a1_3 a1_4 a1_5 l1_6 l1_7 a1_8 a1_9).bind fun t580 => (if a0_0 = a1_0 then (if a0_1 = a1_1 then (if a0_2 = a1_2 then (if (a0_3 == a1_3 && (a0_4 == a1_4)) = true then (if (a0_5 == a1_5) = true then ((slices_Equal_byte_byte.f k l0_6 l1_6).bind fun t581 => (if t581 = true then (if (a0_8 == a1_8) = true then (if a0_9 = a1_9 then (cloisterlaw26_ScriptLines.j0 k t579 t580 ((l0_7.length : Int) == (l1_7.length : Int)) a0_0 a0_1 a0_2 a0_3 a0_4 a0_5 l0_6 l0_7 a0_8 a0_9 a1_0 a1_1 a1_2 a1_3 a1_4 a1_5 l1_6 l1_7 a1_8 a1_9) else (cloisterlaw26_ScriptLines.j0 k t579 t580 false a0_0 a0_1 a0_2 a0_3 a0_4 a0_5 l0_6 l0_7 a0_8 a0_9 a1_0 a1_1 a1_2 a1_3 a1_4 a1_5 l1_6 l1_7 a1_8 a1_9)) else (cloisterlaw26_ScriptLines.j0 k t579 t580 false a0_0 a0_1 a0_2 a0_3 a0_4 a0_5 l0_6 l0_7 a0_8 a0_9 a1_0 a1_1 a1_2 a1_3 a1_4 a1_5 l1_6 l1_7 a1_8 a1_9)) else (cloisterlaw26_ScriptLines.j0 k t579 t580 false a0_0 a0_1 a0_2 a0_3 a0_4 a0_5 l0_6 l0_7 a0_8 a0_9 a1_0 a1_1 a1_2 a1_3 a1_4 a1_5 l1_6 l1_7 a1_8 a1_9))) else (cloisterlaw26_ScriptLines.j0 k t579 t580 false a0_0 a0_1 a0_2 a0_3 a0_4 a0_5 l0_6 l0_7 a0_8 a0_9 a1_0 a1_1 a1_2 a1_3 a1_4 a1_5 l1_6 l1_7 a1_8 a1_9)) else (cloisterlaw26_ScriptLines.j0 k t579 t580 false a0_0 a0_1 a0_2 a0_3 a0_4 a0_5 l0_6 l0_7 a0_8 a0_9 a1_0 a1_1 a1_2 a1_3 a1_4 a1_5 l1_6 l1_7 a1_8 a1_9)) else (cloisterlaw26_ScriptLines.j0 k t579 t580 false a0_0 a0_1 a0_2 a0_3 a0_4 a0_5 l0_6 l0_7 a0_8 a0_9 a1_0 a1_1 a1_2 a1_3 a1_4 a1_5 l1_6 l1_7 a1_8 a1_9)) else (cloisterlaw26_ScriptLines.j0 k t579 t580 false a0_0 a0_1 a0_2 a0_3 a0_4 a0_5 l0_6 l0_7 a0_8 a0_9 a1_0 a1_1 a1_2 a1_3 a1_4 a1_5 l1_6 l1_7 a1_8 a1_9)) else (cloisterlaw26_ScriptLines.j0 k t579 t580 false a0_0 a0_1 a0_2 a0_3 a0_4 a0_5 l0_6 l0_7 a0_8 a0_9 a1_0 a1_1 a1_2 a1_3 a1_4 a1_5 l1_6 l1_7 a1_8 a1_9)))) = some r := h
 clear h
 replace H := Option.bind_eq_some_iff.mp H
 obtain ⟨t579, A30, H⟩ := H
 have A3 := am_ A30
 clear A30
 replace H := Option.bind_eq_some_iff.mp H
 obtain ⟨t580, A40, H⟩ := H
 have A4 := am_ A40
 clear A40
 have HC5 := am_ H
 clear H
 go_enter Tryz.func12, Tryz.ntmps12
 try go_wp2_with (first | ((with_reducible refine gate_dst (N := 2) rfl ?_); (try (refine gate_guard (by rfl) ?_; dsimp only)); refine box_event ?hg (N := 2) ?hd (cs := #[.int .i64 a0_0, .int .i64 a0_1, .int .i64 a0_2, .int .i64 a0_3, .int .i64 a0_4, .bool a0_5, .slice A0_6 l0_6.length c0_6, .slice A0_7 l0_7.length c0_7, .bool a0_8, .int .i64 a0_9]) (t := 41) ?hr ?_; (case hd => rfl); (case hg => rfl); (case hr => first | (go_simp; done) | (go_simp; rfl)); intro gb577 hg w6 hbox hb; have BK577 := am_ (hbox); have GW577 := am_ ((by rw [hg]; exact (below_size (by repeat (first | (with_reducible first | exact HB.out | apply b1_ | apply b2_ | apply b3_) | exact HB.out))) : w.heap.size ≤ gb577)); have GE577 := am_ ((by rw [hg]; exact (below_size (by repeat (first | (with_reducible first | exact HB.out | apply b1_ | apply b2_ | apply b3_) | exact HB.out))) : w.heap.size ≤ gb577)); replace HB := am_ (below_step (by repeat (first | (with_reducible first | exact HB.out | apply b1_ | apply b2_ | apply b3_) | exact HB.out)) hb); clear hb hbox hg) | ((with_reducible refine gate_dst (N := 3) rfl ?_); (try (refine gate_guard (by rfl) ?_; dsimp only)); refine box_event ?hg (N := 3) ?hd (cs := #[.int .i64 a1_0, .int .i64 a1_1, .int .i64 a1_2, .int .i64 a1_3, .int .i64 a1_4, .bool a1_5, .slice A1_6 l1_6.length c1_6, .slice A1_7 l1_7.length c1_7, .bool a1_8, .int .i64 a1_9]) (t := 41) ?hr ?_; (case hd => rfl); (case hg => rfl); (case hr => first | (go_simp; done) | (go_simp; rfl)); intro gb578 hg w7 hbox hb; have BK578 := am_ (hbox); have GW578 := am_ ((by rw [hg]; exact (below_size (by repeat (first | (with_reducible first | exact HB.out | apply b1_ | apply b2_ | apply b3_ | refine b4_ ?_ GE577.out) | exact HB.out))) : w.heap.size ≤ gb578)); have GE578 := am_ ((by rw [hg]; exact (below_size (by repeat (first | (with_reducible first | exact HB.out | apply b1_ | apply b2_ | apply b3_ | refine b4_ ?_ GE577.out) | exact HB.out))) : w.heap.size ≤ gb578)); replace HB := am_ (below_step (by repeat (first | (with_reducible first | exact HB.out | apply b1_ | apply b2_ | apply b3_ | refine b4_ ?_ GE577.out) | exact HB.out)) hb); have NB577_578 := am_ ((by rw [hg]; exact Nat.ne_of_lt (blk_lt (by (with_reducible repeat (first | refine d1_ ?_ _ | refine d2_ ?_ | refine d3_ ?_ _)); exact BK577.out)) : gb577 ≠ gb578)); have NB578_577 := am_ ((by rw [hg]; exact Nat.ne_of_gt (blk_lt (by (with_reducible repeat (first | refine d1_ ?_ _ | refine d2_ ?_ | refine d3_ ?_ _)); exact BK577.out)) : gb578 ≠ gb577)); replace BK577 := am_ (blk_below (by (with_reducible repeat (first | refine d1_ ?_ _ | refine d2_ ?_ | refine d3_ ?_ _)); exact BK577.out) hb); clear hb hbox hg))
 replace BK577 := am_ (d2_ BK577.out)
 replace BK578 := am_ (d2_ BK578.out)
 replace HB := am_ (b3_ HB.out)
 refine start_ (n := 6) (S := fun w' => w'.cell? ⟨gb577, 0, none⟩ = some (.int .i64 a0_0) ∧ w'.cell? ⟨gb577, 1, none⟩ = some (.int .i64 a0_1) ∧ w'.cell? ⟨gb577, 2, none⟩ = some (.int .i64 a0_2) ∧ w'.cell? ⟨gb577, 3, none⟩ = some (.int .i64 a0_3) ∧ w'.cell? ⟨gb577, 4, none⟩ = some (.int .i64 a0_4) ∧ w'.cell? ⟨gb577, 5, none⟩ = some (.bool a0_5) ∧ w'.cell? ⟨gb577, 6, none⟩ = some (.slice A0_6 l0_6.length c0_6) ∧ w'.cell? ⟨gb577, 7, none⟩ = some (.slice A0_7 l0_7.length c0_7) ∧ w'.cell? ⟨gb577, 8, none⟩ = some (.bool a0_8) ∧ w'.cell? ⟨gb577, 9, none⟩ = some (.int .i64 a0_9) ∧ w'.cell? ⟨gb578, 0, none⟩ = some (.int .i64 a1_0) ∧ w'.cell? ⟨gb578, 1, none⟩ = some (.int .i64 a1_1) ∧ w'.cell? ⟨gb578, 2, none⟩ = some (.int .i64 a1_2) ∧ w'.cell? ⟨gb578, 3, none⟩ = some (.int .i64 a1_3) ∧ w'.cell? ⟨gb578, 4, none⟩ = some (.int .i64 a1_4) ∧ w'.cell? ⟨gb578, 5, none⟩ = some (.bool a1_5) ∧ w'.cell? ⟨gb578, 6, none⟩ = some (.slice A1_6 l1_6.length c1_6) ∧ w'.cell? ⟨gb578, 7, none⟩ = some (.slice A1_7 l1_7.length c1_7) ∧ w'.cell? ⟨gb578, 8, none⟩ = some (.bool a1_8) ∧ w'.cell? ⟨gb578, 9, none⟩ = some (.int .i64 a1_9)) (ds := []) #[false, false, false, false, false, false] (by kernel_rfl) rfl rfl ⟨(blk_cell BK577.out 0).trans rfl, (blk_cell BK577.out 1).trans rfl, (blk_cell BK577.out 2).trans rfl, (blk_cell BK577.out 3).trans rfl, (blk_cell BK577.out 4).trans rfl, (blk_cell BK577.out 5).trans rfl, (blk_cell BK577.out 6).trans rfl, (blk_cell BK577.out 7).trans rfl, (blk_cell BK577.out 8).trans rfl, (blk_cell BK577.out 9).trans rfl, c10_ BK578.out⟩ (fun hHeld => ?_)
 generalize w7.drew = w8 at BK577 BK578 HB hHeld ⊢
 refine ta_ 0 10 (bs_ 6 1) rfl rfl (by kernel_rfl) rfl (by rintro w' ⟨s0, s1, s2, s3, s4, s5, s6, s7, s8, s9, s10, s11, s12, s13, s14, s15, s16, s17, s18, s19⟩; go_simp; with_reducible rfl) hHeld (by simp only [Act.put, aS, aZ, aC, i64_w, i32_w]; rfl) (fun _ _ _ h => h) ?_
 refine ta_ 2 12 (bs_ 6 5) rfl rfl (by kernel_rfl) rfl (by rintro w' ⟨s0, s1, s2, s3, s4, s5, s6, s7, s8, s9, s10, s11, s12, s13, s14, s15, s16, s17, s18, s19⟩; go_simp; with_reducible rfl) hHeld (by simp only [Act.put, aS, aZ, aC, i64_w, i32_w]; rfl) (fun _ _ _ h => h) ?_
 refine one_ (i := 1) (N := some 11) (bs_ 6 7) rfl rfl (by kernel_rfl) (by decide) (fun K hK => ?_)
 refine goes_ Tryz.func18 (by kernel_rfl) rfl #[.agg #[.int .i64 a0_0, .int .i64 a0_1, .int .i64 a0_2, .int .i64 a0_3, .int .i64 a0_4, .bool a0_5, .slice A0_6 l0_6.length c0_6, .slice A0_7 l0_7.length c0_7, .bool a0_8, .int .i64 a0_9]] (by rfl) rfl rfl (by (try simp only [aT, aK, aL]); first | done | rfl | (simp only [List.length_drop, List.length_take]; rfl)) ?_
 with_reducible refine (script_Tell.calls k a0_0 a0_1 a0_2 a0_3 a0_4 a0_5 _ _ l0_6 _ _ l0_7 a0_8 a0_9 t579 _ ?side1 ?side2 ?side3 ?side4 ?side5 A3.out).mono ?_
 (case side1 => repeat (first | exact (Kd.C_below HR0_6.out HB.out) | (with_reducible refine Kd.C_alloc ?_ _) | (with_reducible refine Kd.C_drewN ?_ _) | (with_reducible refine Kd.C_drew ?_)))
 (case side2 => exact HC0_6.out)
 (case side3 => repeat (first | exact (Kd.C_below HR0_7.out HB.out) | (with_reducible refine Kd.C_alloc ?_ _) | (with_reducible refine Kd.C_drewN ?_ _) | (with_reducible refine Kd.C_drew ?_)))
 (case side4 => exact HC0_7.out)
 (case side5 => exact sc.Env.below HE.out (by repeat (first | (with_reducible first | exact HB.out | apply b1_ | apply b2_ | apply b3_ | refine b4_ ?_ GE577.out | refine b4_ ?_ GE578.out) | exact HB.out)))
 rintro e w9 ⟨rfl, hb⟩
 refine ⟨_, rfl, ?_⟩
 replace BK577 := am_ (blk_below (by (with_reducible repeat (first | refine d1_ ?_ _ | refine d2_ ?_ | refine d3_ ?_ _)); exact BK577.out) hb)
 replace BK578 := am_ (blk_below (by (with_reducible repeat (first | refine d1_ ?_ _ | refine d2_ ?_ | refine d3_ ?_ _)); exact BK578.out) hb)
 replace HB := am_ (below_step (by repeat (first | (with_reducible first | exact HB.out | apply b1_ | apply b2_ | apply b3_ | refine b4_ ?_ GE577.out | refine b4_ ?_ GE578.out) | exact HB.out)) hb)
 (try clear hb)
 refine hK.out _ _ ⟨(blk_cell BK577.out 0).trans rfl, (blk_cell BK577.out 1).trans rfl, (blk_cell BK577.out 2).trans rfl, (blk_cell BK577.out 3).trans rfl, (blk_cell BK577.out 4).trans rfl, (blk_cell BK577.out 5).trans rfl, (blk_cell BK577.out 6).trans rfl, (blk_cell BK577.out 7).trans rfl, (blk_cell BK577.out 8).trans rfl, (blk_cell BK577.out 9).trans rfl, c10_ BK578.out⟩ (fun hHeld => ?_)
 clear hK K
 refine no_ (by simp only [Act.put, aS, aZ, aC, i64_w, i32_w]; rfl) ?_
 refine one_ (i := 3) (N := some 13) (bs_ 6 15) rfl rfl (by kernel_rfl) (by decide) (fun K hK => ?_)
 refine goes_ Tryz.func18 (by kernel_rfl) rfl #[.agg #[.int .i64 a1_0, .int .i64 a1_1, .int .i64 a1_2, .int .i64 a1_3, .int .i64 a1_4, .bool a1_5, .slice A1_6 l1_6.length c1_6, .slice A1_7 l1_7.length c1_7, .bool a1_8, .int .i64 a1_9]] (by rfl) rfl rfl (by (try simp only [aT, aK, aL]); first | done | rfl | (simp only [List.length_drop, List.length_take]; rfl)) ?_
 with_reducible refine (script_Tell.calls k a1_0 a1_1 a1_2 a1_3 a1_4 a1_5 _ _ l1_6 _ _ l1_7 a1_8 a1_9 t580 _ ?side1 ?side2 ?side3 ?side4 ?side5 A4.out).mono ?_
 (case side1 => repeat (first | exact (Kd.C_below HR1_6.out HB.out) | (with_reducible refine Kd.C_alloc ?_ _) | (with_reducible refine Kd.C_drewN ?_ _) | (with_reducible refine Kd.C_drew ?_)))
 (case side2 => exact HC1_6.out)
 (case side3 => repeat (first | exact (Kd.C_below HR1_7.out HB.out) | (with_reducible refine Kd.C_alloc ?_ _) | (with_reducible refine Kd.C_drewN ?_ _) | (with_reducible refine Kd.C_drew ?_)))
 (case side4 => exact HC1_7.out)
 (case side5 => exact sc.Env.below HE.out (by repeat (first | (with_reducible first | exact HB.out | apply b1_ | apply b2_ | apply b3_ | refine b4_ ?_ GE577.out | refine b4_ ?_ GE578.out) | exact HB.out)))
 rintro e w10 ⟨rfl, hb⟩
 refine ⟨_, rfl, ?_⟩
 replace BK577 := am_ (blk_below (by (with_reducible repeat (first | refine d1_ ?_ _ | refine d2_ ?_ | refine d3_ ?_ _)); exact BK577.out) hb)
 replace BK578 := am_ (blk_below (by (with_reducible repeat (first | refine d1_ ?_ _ | refine d2_ ?_ | refine d3_ ?_ _)); exact BK578.out) hb)
 replace HB := am_ (below_step (by repeat (first | (with_reducible first | exact HB.out | apply b1_ | apply b2_ | apply b3_ | refine b4_ ?_ GE577.out | refine b4_ ?_ GE578.out) | exact HB.out)) hb)
 (try clear hb)
 refine hK.out _ _ ⟨(blk_cell BK577.out 0).trans rfl, (blk_cell BK577.out 1).trans rfl, (blk_cell BK577.out 2).trans rfl, (blk_cell BK577.out 3).trans rfl, (blk_cell BK577.out 4).trans rfl, (blk_cell BK577.out 5).trans rfl, (blk_cell BK577.out 6).trans rfl, (blk_cell BK577.out 7).trans rfl, (blk_cell BK577.out 8).trans rfl, (blk_cell BK577.out 9).trans rfl, c10_ BK578.out⟩ (fun hHeld => ?_)
 clear hK K
 refine no_ (by simp only [Act.put, aS, aZ, aC, i64_w, i32_w]; rfl) ?_
 refine pu_ 4 5 (bs_ 6 31) rfl rfl (by kernel_rfl) rfl (by intro w'; go_simp; with_reducible rfl) (by simp only [Act.put, aS, aZ, aC, i64_w, i32_w]; rfl) (fun _ _ _ h => h) ?_
 refine pu_ 5 6 (bs_ 6 63) rfl rfl (by kernel_rfl) rfl (by intro w'; go_simp; with_reducible rfl) (by simp only [Act.put, aS, aZ, aC, i64_w, i32_w]; rfl) (fun _ _ _ h => h) ?_
 refine done_ (by kernel_rfl) ?_
 go_upto_region 2 with (fail)
 go_cut [7] (fun v7 wc => ∃ (kq : Nat) (x7_4 : Bool), v7 = .bool x7_4 ∧ Aside0 (cloisterlaw26_ScriptLines.j0 kq t579 t580 x7_4 a0_0 a0_1 a0_2 a0_3 a0_4 a0_5 l0_6 l0_7 a0_8 a0_9 a1_0 a1_1 a1_2 a1_3 a1_4 a1_5 l1_6 l1_7 a1_8 a1_9 = some r) ∧ Aside0 (kq ≤ k) ∧ Aside0 (wc.heap[gb577]? = some (.cells #[.int .i64 a0_0, .int .i64 a0_1, .int .i64 a0_2, .int .i64 a0_3, .int .i64 a0_4, .bool a0_5, (.slice A0_6 l0_6.length c0_6), (.slice A0_7 l0_7.length c0_7), .bool a0_8, .int .i64 a0_9] 41 (0, 0))) ∧ Aside0 (wc.heap[gb578]? = some (.cells #[.int .i64 a1_0, .int .i64 a1_1, .int .i64 a1_2, .int .i64 a1_3, .int .i64 a1_4, .bool a1_5, (.slice A1_6 l1_6.length c1_6), (.slice A1_7 l1_7.length c1_7), .bool a1_8, .int .i64 a1_9] 41 (0, 0))) ∧ Aside0 (Below w.heap.size w wc))
 case first =>
  have H := HC5.out
  clear HC5
  by_cases c11 : a0_0 = a1_0
  · rw [if_pos c11] at H
    have c11b0 : (a0_0 == a1_0) = true := beq_iff_eq.mpr c11
    have c11b1 : (a0_0 != a1_0) = false := bne_eq_false_iff_eq.mpr c11
    clear c11
    (first | rw [c11b0] | rw [c11b1] | rw [c11b2] | (simp only [i64_w, i32_w]; rw [c11b0]) | (simp only [i64_w, i32_w]; rw [c11b1]) | skip)
    by_cases c12 : a0_1 = a1_1
    · rw [if_pos c12] at H
      have c12b0 : (a0_1 == a1_1) = true := beq_iff_eq.mpr c12
      have c12b1 : (a0_1 != a1_1) = false := bne_eq_false_iff_eq.mpr c12
      clear c12
      by_cases c13 : a0_2 = a1_2
      · rw [if_pos c13] at H
        have c13b0 : (a0_2 == a1_2) = true := beq_iff_eq.mpr c13
        have c13b1 : (a0_2 != a1_2) = false := bne_eq_false_iff_eq.mpr c13
        clear c13
        by_cases c14 : (a0_3 == a1_3 && (a0_4 == a1_4)) = true
        · rw [if_pos c14] at H
          have c14b0 : (a0_3 == a1_3 && (a0_4 == a1_4)) = true := c14
          (try (have c14b1 : decide (a0_3 = a1_3 && (a0_4 == a1_4)) = true := by simpa using c14))
          (try (have c14b2 : (a0_3 == a1_3 && (a0_4 == a1_4)) = true := by simpa using c14))
          clear c14
          by_cases c15 : (a0_5 == a1_5) = true
          · rw [if_pos c15] at H
            have c15b0 : (a0_5 == a1_5) = true := c15
            (try (have c15b1 : decide (a0_5 = a1_5) = true := by simpa using c15))
            (try (have c15b2 : (a0_5 == a1_5) = true := by simpa using c15))
            clear c15
            replace H := Option.bind_eq_some_iff.mp H
            obtain ⟨t581, A160, H⟩ := H
            have A16 := am_ A160
            clear A160
            by_cases c17 : t581 = true
            · subst c17
              have H1 : (if (a0_8 == a1_8) = true then (if a0_9 = a1_9 then (cloisterlaw26_ScriptLines.j0 k t579 t580 ((l0_7.length : Int) == (l1_7.length : Int)) a0_0 a0_1 a0_2 a0_3 a0_4 a0_5 l0_6 l0_7 a0_8 a0_9 a1_0 a1_1 a1_2 a1_3 a1_4 a1_5 l1_6 l1_7 a1_8 a1_9) else (cloisterlaw26_ScriptLines.j0 k t579 t580 false a0_0 a0_1 a0_2 a0_3 a0_4 a0_5 l0_6 l0_7 a0_8 a0_9 a1_0 a1_1 a1_2 a1_3 a1_4 a1_5 l1_6 l1_7 a1_8 a1_9)) else (cloisterlaw26_ScriptLines.j0 k t579 t580 false a0_0 a0_1 a0_2 a0_3 a0_4 a0_5 l0_6 l0_7 a0_8 a0_9 a1_0 a1_1 a1_2 a1_3 a1_4 a1_5 l1_6 l1_7 a1_8 a1_9)) = some r := by rw [if_pos rfl] at H; exact H
              clear H
              have H := H1
              clear H1
              by_cases c18 : (a0_8 == a1_8) = true
              · rw [if_pos c18] at H
                have c18b0 : (a0_8 == a1_8) = true := c18
                (try (have c18b1 : decide (a0_8 = a1_8) = true := by simpa using c18))
                (try (have c18b2 : (a0_8 == a1_8) = true := by simpa using c18))
                clear c18
                by_cases c19 : a0_9 = a1_9
                · rw [if_pos c19] at H
                  have c19b0 : (a0_9 == a1_9) = true := beq_iff_eq.mpr c19
                  have c19b1 : (a0_9 != a1_9) = false := bne_eq_false_iff_eq.mpr c19
                  clear c19
                  have H' := am_ H
                  clear H
                  have hnb20 := NB577_578.out
                  have hnc20 := NB578_577.out
                  obtain ⟨⟨hcz21_0, hcz21_1, hcz21_2, hcz21_3, hcz21_4, hcz21_5, hcz21_6, hcz21_7, hcz21_8, hcz21_9⟩, hfz21_0, hfz21_1, hfz21_2, hfz21_3, hfz21_4, hfz21_5, hfz21_6, hfz21_7, hfz21_8, hfz21_9⟩ := cloisterlaw26_ScriptLines.c577 BK577.out
                  have hcz22_0 : w10.cell? ⟨gb578, 0, none⟩ = some (.int .i64 a1_0) := (blk_cell BK578.out 0).trans rfl
                  have hcz22_1 : w10.cell? ⟨gb578, 1, none⟩ = some (.int .i64 a1_1) := (blk_cell BK578.out 1).trans rfl
                  have hcz22_2 : w10.cell? ⟨gb578, 2, none⟩ = some (.int .i64 a1_2) := (blk_cell BK578.out 2).trans rfl
                  have hcz22_3 : w10.cell? ⟨gb578, 3, none⟩ = some (.int .i64 a1_3) := (blk_cell BK578.out 3).trans rfl
                  have hcz22_4 : w10.cell? ⟨gb578, 4, none⟩ = some (.int .i64 a1_4) := (blk_cell BK578.out 4).trans rfl
                  have hcz22_5 : w10.cell? ⟨gb578, 5, none⟩ = some (.bool a1_5) := (blk_cell BK578.out 5).trans rfl
                  have hcz22_6 : w10.cell? ⟨gb578, 6, none⟩ = some (.slice A1_6 l1_6.length c1_6) := (blk_cell BK578.out 6).trans rfl
                  have hcz22_7 : w10.cell? ⟨gb578, 7, none⟩ = some (.slice A1_7 l1_7.length c1_7) := (blk_cell BK578.out 7).trans rfl
                  have hcz22_8 : w10.cell? ⟨gb578, 8, none⟩ = some (.bool a1_8) := (blk_cell BK578.out 8).trans rfl
                  have hcz22_9 : w10.cell? ⟨gb578, 9, none⟩ = some (.int .i64 a1_9) := (blk_cell BK578.out 9).trans rfl
                  have hfz22_0 := blk_frozen BK578.out 0
                  have hfz22_1 := blk_frozen BK578.out 1
                  have hfz22_2 := blk_frozen BK578.out 2
                  have hfz22_3 := blk_frozen BK578.out 3
                  have hfz22_4 := blk_frozen BK578.out 4
                  have hfz22_5 := blk_frozen BK578.out 5
                  have hfz22_6 := blk_frozen BK578.out 6
                  have hfz22_7 := blk_frozen BK578.out 7
                  have hfz22_8 := blk_frozen BK578.out 8
                  have hfz22_9 := blk_frozen BK578.out 9
                  go_wp2_with (first | (go_at_call 26; (with_reducible refine (slices_Equal_byte_byte.calls k _ _ l0_6 _ _ l1_6 true _ ?side1 ?side2 ?side3 ?side4 A16.out).mono ?_); (case side1 => repeat (first | exact (Kd.C_below HR0_6.out HB.out) | (with_reducible refine Kd.C_alloc ?_ _) | (with_reducible refine Kd.C_drewN ?_ _) | (with_reducible refine Kd.C_drew ?_))); (case side2 => exact HC0_6.out); (case side3 => repeat (first | exact (Kd.C_below HR1_6.out HB.out) | (with_reducible refine Kd.C_alloc ?_ _) | (with_reducible refine Kd.C_drewN ?_ _) | (with_reducible refine Kd.C_drew ?_))); (case side4 => exact HC1_6.out); rintro e w' ⟨rfl, ⟨nd, rfl⟩⟩))
                  go_meet
                  case rel => exact ⟨_, (((l0_7.length : Int) == (l1_7.length : Int))), (by first | rfl | (simp; done) | (simp [*]; done)), H', ⟨by first | omega | exact Nat.le_refl _⟩, ⟨by (with_reducible repeat (first | refine d1_ ?_ _ | refine d2_ ?_ | refine d3_ ?_ _)); exact BK577.out⟩, ⟨by (with_reducible repeat (first | refine d1_ ?_ _ | refine d2_ ?_ | refine d3_ ?_ _)); exact BK578.out⟩, ⟨by repeat (first | (with_reducible first | exact HB.out | apply b1_ | apply b2_ | apply b3_ | refine b4_ ?_ GE577.out | refine b4_ ?_ GE578.out) | exact HB.out)⟩⟩
                rw [if_neg c19] at H
                have c19b0 : (a0_9 == a1_9) = false := beq_eq_false_iff_ne.mpr c19
                have c19b1 : (a0_9 != a1_9) = true := bne_iff_ne.mpr c19
                have H' := am_ H
                clear H
                have hnb23 := NB577_578.out
                have hnc23 := NB578_577.out
                obtain ⟨⟨hcz24_0, hcz24_1, hcz24_2, hcz24_3, hcz24_4, hcz24_5, hcz24_6, hcz24_7, hcz24_8, hcz24_9⟩, hfz24_0, hfz24_1, hfz24_2, hfz24_3, hfz24_4, hfz24_5, hfz24_6, hfz24_7, hfz24_8, hfz24_9⟩ := cloisterlaw26_ScriptLines.c577 BK577.out
                have hcz25_0 : w10.cell? ⟨gb578, 0, none⟩ = some (.int .i64 a1_0) := (blk_cell BK578.out 0).trans rfl
                have hcz25_1 : w10.cell? ⟨gb578, 1, none⟩ = some (.int .i64 a1_1) := (blk_cell BK578.out 1).trans rfl
                have hcz25_2 : w10.cell? ⟨gb578, 2, none⟩ = some (.int .i64 a1_2) := (blk_cell BK578.out 2).trans rfl
                have hcz25_3 : w10.cell? ⟨gb578, 3, none⟩ = some (.int .i64 a1_3) := (blk_cell BK578.out 3).trans rfl
                have hcz25_4 : w10.cell? ⟨gb578, 4, none⟩ = some (.int .i64 a1_4) := (blk_cell BK578.out 4).trans rfl
                have hcz25_5 : w10.cell? ⟨gb578, 5, none⟩ = some (.bool a1_5) := (blk_cell BK578.out 5).trans rfl
                have hcz25_6 : w10.cell? ⟨gb578, 6, none⟩ = some (.slice A1_6 l1_6.length c1_6) := (blk_cell BK578.out 6).trans rfl
                have hcz25_7 : w10.cell? ⟨gb578, 7, none⟩ = some (.slice A1_7 l1_7.length c1_7) := (blk_cell BK578.out 7).trans rfl
                have hcz25_8 : w10.cell? ⟨gb578, 8, none⟩ = some (.bool a1_8) := (blk_cell BK578.out 8).trans rfl
                have hcz25_9 : w10.cell? ⟨gb578, 9, none⟩ = some (.int .i64 a1_9) := (blk_cell BK578.out 9).trans rfl
                have hfz25_0 := blk_frozen BK578.out 0
                have hfz25_1 := blk_frozen BK578.out 1
                have hfz25_2 := blk_frozen BK578.out 2
                have hfz25_3 := blk_frozen BK578.out 3
                have hfz25_4 := blk_frozen BK578.out 4
                have hfz25_5 := blk_frozen BK578.out 5
                have hfz25_6 := blk_frozen BK578.out 6
                have hfz25_7 := blk_frozen BK578.out 7
                have hfz25_8 := blk_frozen BK578.out 8
                have hfz25_9 := blk_frozen BK578.out 9
                go_wp2_with (first | (go_at_call 26; (with_reducible refine (slices_Equal_byte_byte.calls k _ _ l0_6 _ _ l1_6 true _ ?side1 ?side2 ?side3 ?side4 A16.out).mono ?_); (case side1 => repeat (first | exact (Kd.C_below HR0_6.out HB.out) | (with_reducible refine Kd.C_alloc ?_ _) | (with_reducible refine Kd.C_drewN ?_ _) | (with_reducible refine Kd.C_drew ?_))); (case side2 => exact HC0_6.out); (case side3 => repeat (first | exact (Kd.C_below HR1_6.out HB.out) | (with_reducible refine Kd.C_alloc ?_ _) | (with_reducible refine Kd.C_drewN ?_ _) | (with_reducible refine Kd.C_drew ?_))); (case side4 => exact HC1_6.out); rintro e w' ⟨rfl, ⟨nd, rfl⟩⟩))
                go_meet
                case rel => exact ⟨_, (false), (by first | rfl | (simp; done) | (simp [*]; done)), H', ⟨by first | omega | exact Nat.le_refl _⟩, ⟨by (with_reducible repeat (first | refine d1_ ?_ _ | refine d2_ ?_ | refine d3_ ?_ _)); exact BK577.out⟩, ⟨by (with_reducible repeat (first | refine d1_ ?_ _ | refine d2_ ?_ | refine d3_ ?_ _)); exact BK578.out⟩, ⟨by repeat (first | (with_reducible first | exact HB.out | apply b1_ | apply b2_ | apply b3_ | refine b4_ ?_ GE577.out | refine b4_ ?_ GE578.out) | exact HB.out)⟩⟩
              rw [if_neg c18] at H
              have c18b0 : (a0_8 == a1_8) = false := by simpa using c18
              (try (have c18b1 : decide (a0_8 = a1_8) = false := by simpa using c18))
              (try (have c18b2 : (a0_8 == a1_8) = false := by simpa using c18))
              (try (have c18b3 : ¬ (a0_8 = a1_8) := by simpa using c18))
              clear c18
              have H' := am_ H
              clear H
              have hnb26 := NB577_578.out
              have hnc26 := NB578_577.out
              obtain ⟨⟨hcz27_0, hcz27_1, hcz27_2, hcz27_3, hcz27_4, hcz27_5, hcz27_6, hcz27_7, hcz27_8, hcz27_9⟩, hfz27_0, hfz27_1, hfz27_2, hfz27_3, hfz27_4, hfz27_5, hfz27_6, hfz27_7, hfz27_8, hfz27_9⟩ := cloisterlaw26_ScriptLines.c577 BK577.out
              have hcz28_0 : w10.cell? ⟨gb578, 0, none⟩ = some (.int .i64 a1_0) := (blk_cell BK578.out 0).trans rfl
              have hcz28_1 : w10.cell? ⟨gb578, 1, none⟩ = some (.int .i64 a1_1) := (blk_cell BK578.out 1).trans rfl
              have hcz28_2 : w10.cell? ⟨gb578, 2, none⟩ = some (.int .i64 a1_2) := (blk_cell BK578.out 2).trans rfl
              have hcz28_3 : w10.cell? ⟨gb578, 3, none⟩ = some (.int .i64 a1_3) := (blk_cell BK578.out 3).trans rfl
              have hcz28_4 : w10.cell? ⟨gb578, 4, none⟩ = some (.int .i64 a1_4) := (blk_cell BK578.out 4).trans rfl
              have hcz28_5 : w10.cell? ⟨gb578, 5, none⟩ = some (.bool a1_5) := (blk_cell BK578.out 5).trans rfl
              have hcz28_6 : w10.cell? ⟨gb578, 6, none⟩ = some (.slice A1_6 l1_6.length c1_6) := (blk_cell BK578.out 6).trans rfl
              have hcz28_7 : w10.cell? ⟨gb578, 7, none⟩ = some (.slice A1_7 l1_7.length c1_7) := (blk_cell BK578.out 7).trans rfl
              have hcz28_8 : w10.cell? ⟨gb578, 8, none⟩ = some (.bool a1_8) := (blk_cell BK578.out 8).trans rfl
              have hcz28_9 : w10.cell? ⟨gb578, 9, none⟩ = some (.int .i64 a1_9) := (blk_cell BK578.out 9).trans rfl
              have hfz28_0 := blk_frozen BK578.out 0
              have hfz28_1 := blk_frozen BK578.out 1
              have hfz28_2 := blk_frozen BK578.out 2
              have hfz28_3 := blk_frozen BK578.out 3
              have hfz28_4 := blk_frozen BK578.out 4
              have hfz28_5 := blk_frozen BK578.out 5
              have hfz28_6 := blk_frozen BK578.out 6
              have hfz28_7 := blk_frozen BK578.out 7
              have hfz28_8 := blk_frozen BK578.out 8
              have hfz28_9 := blk_frozen BK578.out 9
              go_wp2_with (first | (go_at_call 26; (with_reducible refine (slices_Equal_byte_byte.calls k _ _ l0_6 _ _ l1_6 true _ ?side1 ?side2 ?side3 ?side4 A16.out).mono ?_); (case side1 => repeat (first | exact (Kd.C_below HR0_6.out HB.out) | (with_reducible refine Kd.C_alloc ?_ _) | (with_reducible refine Kd.C_drewN ?_ _) | (with_reducible refine Kd.C_drew ?_))); (case side2 => exact HC0_6.out); (case side3 => repeat (first | exact (Kd.C_below HR1_6.out HB.out) | (with_reducible refine Kd.C_alloc ?_ _) | (with_reducible refine Kd.C_drewN ?_ _) | (with_reducible refine Kd.C_drew ?_))); (case side4 => exact HC1_6.out); rintro e w' ⟨rfl, ⟨nd, rfl⟩⟩))
              go_meet
              case rel => exact ⟨_, (false), (by first | rfl | (simp; done) | (simp [*]; done)), H', ⟨by first | omega | exact Nat.le_refl _⟩, ⟨by (with_reducible repeat (first | refine d1_ ?_ _ | refine d2_ ?_ | refine d3_ ?_ _)); exact BK577.out⟩, ⟨by (with_reducible repeat (first | refine d1_ ?_ _ | refine d2_ ?_ | refine d3_ ?_ _)); exact BK578.out⟩, ⟨by repeat (first | (with_reducible first | exact HB.out | apply b1_ | apply b2_ | apply b3_ | refine b4_ ?_ GE577.out | refine b4_ ?_ GE578.out) | exact HB.out)⟩⟩
            replace c17 := Bool.eq_false_iff.mpr c17
            subst c17
            have H1 : (cloisterlaw26_ScriptLines.j0 k t579 t580 false a0_0 a0_1 a0_2 a0_3 a0_4 a0_5 l0_6 l0_7 a0_8 a0_9 a1_0 a1_1 a1_2 a1_3 a1_4 a1_5 l1_6 l1_7 a1_8 a1_9) = some r := by rw [if_neg (show ¬ (false = true) by decide)] at H; exact H
            clear H
            have H := H1
            clear H1
            have H' := am_ H
            clear H
            have hnb29 := NB577_578.out
            have hnc29 := NB578_577.out
            obtain ⟨⟨hcz30_0, hcz30_1, hcz30_2, hcz30_3, hcz30_4, hcz30_5, hcz30_6, hcz30_7, hcz30_8, hcz30_9⟩, hfz30_0, hfz30_1, hfz30_2, hfz30_3, hfz30_4, hfz30_5, hfz30_6, hfz30_7, hfz30_8, hfz30_9⟩ := cloisterlaw26_ScriptLines.c577 BK577.out
            have hcz31_0 : w10.cell? ⟨gb578, 0, none⟩ = some (.int .i64 a1_0) := (blk_cell BK578.out 0).trans rfl
            have hcz31_1 : w10.cell? ⟨gb578, 1, none⟩ = some (.int .i64 a1_1) := (blk_cell BK578.out 1).trans rfl
            have hcz31_2 : w10.cell? ⟨gb578, 2, none⟩ = some (.int .i64 a1_2) := (blk_cell BK578.out 2).trans rfl
            have hcz31_3 : w10.cell? ⟨gb578, 3, none⟩ = some (.int .i64 a1_3) := (blk_cell BK578.out 3).trans rfl
            have hcz31_4 : w10.cell? ⟨gb578, 4, none⟩ = some (.int .i64 a1_4) := (blk_cell BK578.out 4).trans rfl
            have hcz31_5 : w10.cell? ⟨gb578, 5, none⟩ = some (.bool a1_5) := (blk_cell BK578.out 5).trans rfl
            have hcz31_6 : w10.cell? ⟨gb578, 6, none⟩ = some (.slice A1_6 l1_6.length c1_6) := (blk_cell BK578.out 6).trans rfl
            have hcz31_7 : w10.cell? ⟨gb578, 7, none⟩ = some (.slice A1_7 l1_7.length c1_7) := (blk_cell BK578.out 7).trans rfl
            have hcz31_8 : w10.cell? ⟨gb578, 8, none⟩ = some (.bool a1_8) := (blk_cell BK578.out 8).trans rfl
            have hcz31_9 : w10.cell? ⟨gb578, 9, none⟩ = some (.int .i64 a1_9) := (blk_cell BK578.out 9).trans rfl
            have hfz31_0 := blk_frozen BK578.out 0
            have hfz31_1 := blk_frozen BK578.out 1
            have hfz31_2 := blk_frozen BK578.out 2
            have hfz31_3 := blk_frozen BK578.out 3
            have hfz31_4 := blk_frozen BK578.out 4
            have hfz31_5 := blk_frozen BK578.out 5
            have hfz31_6 := blk_frozen BK578.out 6
            have hfz31_7 := blk_frozen BK578.out 7
            have hfz31_8 := blk_frozen BK578.out 8
            have hfz31_9 := blk_frozen BK578.out 9
            go_wp2_with (first | (go_at_call 26; (with_reducible refine (slices_Equal_byte_byte.calls k _ _ l0_6 _ _ l1_6 false _ ?side1 ?side2 ?side3 ?side4 A16.out).mono ?_); (case side1 => repeat (first | exact (Kd.C_below HR0_6.out HB.out) | (with_reducible refine Kd.C_alloc ?_ _) | (with_reducible refine Kd.C_drewN ?_ _) | (with_reducible refine Kd.C_drew ?_))); (case side2 => exact HC0_6.out); (case side3 => repeat (first | exact (Kd.C_below HR1_6.out HB.out) | (with_reducible refine Kd.C_alloc ?_ _) | (with_reducible refine Kd.C_drewN ?_ _) | (with_reducible refine Kd.C_drew ?_))); (case side4 => exact HC1_6.out); rintro e w' ⟨rfl, ⟨nd, rfl⟩⟩))
            go_meet
            case rel => exact ⟨_, (false), (by first | rfl | (simp; done) | (simp [*]; done)), H', ⟨by first | omega | exact Nat.le_refl _⟩, ⟨by (with_reducible repeat (first | refine d1_ ?_ _ | refine d2_ ?_ | refine d3_ ?_ _)); exact BK577.out⟩, ⟨by (with_reducible repeat (first | refine d1_ ?_ _ | refine d2_ ?_ | refine d3_ ?_ _)); exact BK578.out⟩, ⟨by repeat (first | (with_reducible first | exact HB.out | apply b1_ | apply b2_ | apply b3_ | refine b4_ ?_ GE577.out | refine b4_ ?_ GE578.out) | exact HB.out)⟩⟩
          rw [if_neg c15] at H
          have c15b0 : (a0_5 == a1_5) = false := by simpa using c15
          (try (have c15b1 : decide (a0_5 = a1_5) = false := by simpa using c15))
          (try (have c15b2 : (a0_5 == a1_5) = false := by simpa using c15))
          (try (have c15b3 : ¬ (a0_5 = a1_5) := by simpa using c15))
          clear c15
          have H' := am_ H
          clear H
          have hnb32 := NB577_578.out
          have hnc32 := NB578_577.out
          obtain ⟨⟨hcz33_0, hcz33_1, hcz33_2, hcz33_3, hcz33_4, hcz33_5, hcz33_6, hcz33_7, hcz33_8, hcz33_9⟩, hfz33_0, hfz33_1, hfz33_2, hfz33_3, hfz33_4, hfz33_5, hfz33_6, hfz33_7, hfz33_8, hfz33_9⟩ := cloisterlaw26_ScriptLines.c577 BK577.out
          have hcz34_0 : w10.cell? ⟨gb578, 0, none⟩ = some (.int .i64 a1_0) := (blk_cell BK578.out 0).trans rfl
          have hcz34_1 : w10.cell? ⟨gb578, 1, none⟩ = some (.int .i64 a1_1) := (blk_cell BK578.out 1).trans rfl
          have hcz34_2 : w10.cell? ⟨gb578, 2, none⟩ = some (.int .i64 a1_2) := (blk_cell BK578.out 2).trans rfl
          have hcz34_3 : w10.cell? ⟨gb578, 3, none⟩ = some (.int .i64 a1_3) := (blk_cell BK578.out 3).trans rfl
          have hcz34_4 : w10.cell? ⟨gb578, 4, none⟩ = some (.int .i64 a1_4) := (blk_cell BK578.out 4).trans rfl
          have hcz34_5 : w10.cell? ⟨gb578, 5, none⟩ = some (.bool a1_5) := (blk_cell BK578.out 5).trans rfl
          have hcz34_6 : w10.cell? ⟨gb578, 6, none⟩ = some (.slice A1_6 l1_6.length c1_6) := (blk_cell BK578.out 6).trans rfl
          have hcz34_7 : w10.cell? ⟨gb578, 7, none⟩ = some (.slice A1_7 l1_7.length c1_7) := (blk_cell BK578.out 7).trans rfl
          have hcz34_8 : w10.cell? ⟨gb578, 8, none⟩ = some (.bool a1_8) := (blk_cell BK578.out 8).trans rfl
          have hcz34_9 : w10.cell? ⟨gb578, 9, none⟩ = some (.int .i64 a1_9) := (blk_cell BK578.out 9).trans rfl
          have hfz34_0 := blk_frozen BK578.out 0
          have hfz34_1 := blk_frozen BK578.out 1
          have hfz34_2 := blk_frozen BK578.out 2
          have hfz34_3 := blk_frozen BK578.out 3
          have hfz34_4 := blk_frozen BK578.out 4
          have hfz34_5 := blk_frozen BK578.out 5
          have hfz34_6 := blk_frozen BK578.out 6
          have hfz34_7 := blk_frozen BK578.out 7
          have hfz34_8 := blk_frozen BK578.out 8
          have hfz34_9 := blk_frozen BK578.out 9
          go_wp2
          go_meet
          case rel => exact ⟨_, (false), (by first | rfl | (simp; done) | (simp [*]; done)), H', ⟨by first | omega | exact Nat.le_refl _⟩, ⟨by (with_reducible repeat (first | refine d1_ ?_ _ | refine d2_ ?_ | refine d3_ ?_ _)); exact BK577.out⟩, ⟨by (with_reducible repeat (first | refine d1_ ?_ _ | refine d2_ ?_ | refine d3_ ?_ _)); exact BK578.out⟩, ⟨by repeat (first | (with_reducible first | exact HB.out | apply b1_ | apply b2_ | apply b3_ | refine b4_ ?_ GE577.out | refine b4_ ?_ GE578.out) | exact HB.out)⟩⟩
        rw [if_neg c14] at H
        have c14b0 : (a0_3 == a1_3 && (a0_4 == a1_4)) = false := by simpa using c14
        (try (have c14b1 : decide (a0_3 = a1_3 && (a0_4 == a1_4)) = false := by simpa using c14))
        (try (have c14b2 : (a0_3 == a1_3 && (a0_4 == a1_4)) = false := by simpa using c14))
        (try (have c14b3 : ¬ (a0_3 = a1_3 && (a0_4 == a1_4)) := by simpa using c14))
        clear c14
        have H' := am_ H
        clear H
        have hnb35 := NB577_578.out
        have hnc35 := NB578_577.out
        obtain ⟨⟨hcz36_0, hcz36_1, hcz36_2, hcz36_3, hcz36_4, hcz36_5, hcz36_6, hcz36_7, hcz36_8, hcz36_9⟩, hfz36_0, hfz36_1, hfz36_2, hfz36_3, hfz36_4, hfz36_5, hfz36_6, hfz36_7, hfz36_8, hfz36_9⟩ := cloisterlaw26_ScriptLines.c577 BK577.out
        have hcz37_0 : w10.cell? ⟨gb578, 0, none⟩ = some (.int .i64 a1_0) := (blk_cell BK578.out 0).trans rfl
        have hcz37_1 : w10.cell? ⟨gb578, 1, none⟩ = some (.int .i64 a1_1) := (blk_cell BK578.out 1).trans rfl
        have hcz37_2 : w10.cell? ⟨gb578, 2, none⟩ = some (.int .i64 a1_2) := (blk_cell BK578.out 2).trans rfl
        have hcz37_3 : w10.cell? ⟨gb578, 3, none⟩ = some (.int .i64 a1_3) := (blk_cell BK578.out 3).trans rfl
        have hcz37_4 : w10.cell? ⟨gb578, 4, none⟩ = some (.int .i64 a1_4) := (blk_cell BK578.out 4).trans rfl
        have hcz37_5 : w10.cell? ⟨gb578, 5, none⟩ = some (.bool a1_5) := (blk_cell BK578.out 5).trans rfl
        have hcz37_6 : w10.cell? ⟨gb578, 6, none⟩ = some (.slice A1_6 l1_6.length c1_6) := (blk_cell BK578.out 6).trans rfl
        have hcz37_7 : w10.cell? ⟨gb578, 7, none⟩ = some (.slice A1_7 l1_7.length c1_7) := (blk_cell BK578.out 7).trans rfl
        have hcz37_8 : w10.cell? ⟨gb578, 8, none⟩ = some (.bool a1_8) := (blk_cell BK578.out 8).trans rfl
        have hcz37_9 : w10.cell? ⟨gb578, 9, none⟩ = some (.int .i64 a1_9) := (blk_cell BK578.out 9).trans rfl
        have hfz37_0 := blk_frozen BK578.out 0
        have hfz37_1 := blk_frozen BK578.out 1
        have hfz37_2 := blk_frozen BK578.out 2
        have hfz37_3 := blk_frozen BK578.out 3
        have hfz37_4 := blk_frozen BK578.out 4
        have hfz37_5 := blk_frozen BK578.out 5
        have hfz37_6 := blk_frozen BK578.out 6
        have hfz37_7 := blk_frozen BK578.out 7
        have hfz37_8 := blk_frozen BK578.out 8
        have hfz37_9 := blk_frozen BK578.out 9
        go_wp2
        go_meet
        case rel => exact ⟨_, (false), (by first | rfl | (simp; done) | (simp [*]; done)), H', ⟨by first | omega | exact Nat.le_refl _⟩, ⟨by (with_reducible repeat (first | refine d1_ ?_ _ | refine d2_ ?_ | refine d3_ ?_ _)); exact BK577.out⟩, ⟨by (with_reducible repeat (first | refine d1_ ?_ _ | refine d2_ ?_ | refine d3_ ?_ _)); exact BK578.out⟩, ⟨by repeat (first | (with_reducible first | exact HB.out | apply b1_ | apply b2_ | apply b3_ | refine b4_ ?_ GE577.out | refine b4_ ?_ GE578.out) | exact HB.out)⟩⟩
      rw [if_neg c13] at H
      have c13b0 : (a0_2 == a1_2) = false := beq_eq_false_iff_ne.mpr c13
      have c13b1 : (a0_2 != a1_2) = true := bne_iff_ne.mpr c13
      have H' := am_ H
      clear H
      have hnb38 := NB577_578.out
      have hnc38 := NB578_577.out
      obtain ⟨⟨hcz39_0, hcz39_1, hcz39_2, hcz39_3, hcz39_4, hcz39_5, hcz39_6, hcz39_7, hcz39_8, hcz39_9⟩, hfz39_0, hfz39_1, hfz39_2, hfz39_3, hfz39_4, hfz39_5, hfz39_6, hfz39_7, hfz39_8, hfz39_9⟩ := cloisterlaw26_ScriptLines.c577 BK577.out
      have hcz40_0 : w10.cell? ⟨gb578, 0, none⟩ = some (.int .i64 a1_0) := (blk_cell BK578.out 0).trans rfl
      have hcz40_1 : w10.cell? ⟨gb578, 1, none⟩ = some (.int .i64 a1_1) := (blk_cell BK578.out 1).trans rfl
      have hcz40_2 : w10.cell? ⟨gb578, 2, none⟩ = some (.int .i64 a1_2) := (blk_cell BK578.out 2).trans rfl
      have hcz40_3 : w10.cell? ⟨gb578, 3, none⟩ = some (.int .i64 a1_3) := (blk_cell BK578.out 3).trans rfl
      have hcz40_4 : w10.cell? ⟨gb578, 4, none⟩ = some (.int .i64 a1_4) := (blk_cell BK578.out 4).trans rfl
      have hcz40_5 : w10.cell? ⟨gb578, 5, none⟩ = some (.bool a1_5) := (blk_cell BK578.out 5).trans rfl
      have hcz40_6 : w10.cell? ⟨gb578, 6, none⟩ = some (.slice A1_6 l1_6.length c1_6) := (blk_cell BK578.out 6).trans rfl
      have hcz40_7 : w10.cell? ⟨gb578, 7, none⟩ = some (.slice A1_7 l1_7.length c1_7) := (blk_cell BK578.out 7).trans rfl
      have hcz40_8 : w10.cell? ⟨gb578, 8, none⟩ = some (.bool a1_8) := (blk_cell BK578.out 8).trans rfl
      have hcz40_9 : w10.cell? ⟨gb578, 9, none⟩ = some (.int .i64 a1_9) := (blk_cell BK578.out 9).trans rfl
      have hfz40_0 := blk_frozen BK578.out 0
      have hfz40_1 := blk_frozen BK578.out 1
      have hfz40_2 := blk_frozen BK578.out 2
      have hfz40_3 := blk_frozen BK578.out 3
      have hfz40_4 := blk_frozen BK578.out 4
      have hfz40_5 := blk_frozen BK578.out 5
      have hfz40_6 := blk_frozen BK578.out 6
      have hfz40_7 := blk_frozen BK578.out 7
      have hfz40_8 := blk_frozen BK578.out 8
      have hfz40_9 := blk_frozen BK578.out 9
      go_wp2
      go_meet
      case rel => exact ⟨_, (false), (by first | rfl | (simp; done) | (simp [*]; done)), H', ⟨by first | omega | exact Nat.le_refl _⟩, ⟨by (with_reducible repeat (first | refine d1_ ?_ _ | refine d2_ ?_ | refine d3_ ?_ _)); exact BK577.out⟩, ⟨by (with_reducible repeat (first | refine d1_ ?_ _ | refine d2_ ?_ | refine d3_ ?_ _)); exact BK578.out⟩, ⟨by repeat (first | (with_reducible first | exact HB.out | apply b1_ | apply b2_ | apply b3_ | refine b4_ ?_ GE577.out | refine b4_ ?_ GE578.out) | exact HB.out)⟩⟩
    rw [if_neg c12] at H
    have c12b0 : (a0_1 == a1_1) = false := beq_eq_false_iff_ne.mpr c12
    have c12b1 : (a0_1 != a1_1) = true := bne_iff_ne.mpr c12
    have H' := am_ H
    clear H
    have hnb41 := NB577_578.out
    have hnc41 := NB578_577.out
    obtain ⟨⟨hcz42_0, hcz42_1, hcz42_2, hcz42_3, hcz42_4, hcz42_5, hcz42_6, hcz42_7, hcz42_8, hcz42_9⟩, hfz42_0, hfz42_1, hfz42_2, hfz42_3, hfz42_4, hfz42_5, hfz42_6, hfz42_7, hfz42_8, hfz42_9⟩ := cloisterlaw26_ScriptLines.c577 BK577.out
    have hcz43_0 : w10.cell? ⟨gb578, 0, none⟩ = some (.int .i64 a1_0) := (blk_cell BK578.out 0).trans rfl
    have hcz43_1 : w10.cell? ⟨gb578, 1, none⟩ = some (.int .i64 a1_1) := (blk_cell BK578.out 1).trans rfl
    have hcz43_2 : w10.cell? ⟨gb578, 2, none⟩ = some (.int .i64 a1_2) := (blk_cell BK578.out 2).trans rfl
    have hcz43_3 : w10.cell? ⟨gb578, 3, none⟩ = some (.int .i64 a1_3) := (blk_cell BK578.out 3).trans rfl
    have hcz43_4 : w10.cell? ⟨gb578, 4, none⟩ = some (.int .i64 a1_4) := (blk_cell BK578.out 4).trans rfl
    have hcz43_5 : w10.cell? ⟨gb578, 5, none⟩ = some (.bool a1_5) := (blk_cell BK578.out 5).trans rfl
    have hcz43_6 : w10.cell? ⟨gb578, 6, none⟩ = some (.slice A1_6 l1_6.length c1_6) := (blk_cell BK578.out 6).trans rfl
    have hcz43_7 : w10.cell? ⟨gb578, 7, none⟩ = some (.slice A1_7 l1_7.length c1_7) := (blk_cell BK578.out 7).trans rfl
    have hcz43_8 : w10.cell? ⟨gb578, 8, none⟩ = some (.bool a1_8) := (blk_cell BK578.out 8).trans rfl
    have hcz43_9 : w10.cell? ⟨gb578, 9, none⟩ = some (.int .i64 a1_9) := (blk_cell BK578.out 9).trans rfl
    have hfz43_0 := blk_frozen BK578.out 0
    have hfz43_1 := blk_frozen BK578.out 1
    have hfz43_2 := blk_frozen BK578.out 2
    have hfz43_3 := blk_frozen BK578.out 3
    have hfz43_4 := blk_frozen BK578.out 4
    have hfz43_5 := blk_frozen BK578.out 5
    have hfz43_6 := blk_frozen BK578.out 6
    have hfz43_7 := blk_frozen BK578.out 7
    have hfz43_8 := blk_frozen BK578.out 8
    have hfz43_9 := blk_frozen BK578.out 9
    go_wp2
    go_meet
    case rel => exact ⟨_, (false), (by first | rfl | (simp; done) | (simp [*]; done)), H', ⟨by first | omega | exact Nat.le_refl _⟩, ⟨by (with_reducible repeat (first | refine d1_ ?_ _ | refine d2_ ?_ | refine d3_ ?_ _)); exact BK577.out⟩, ⟨by (with_reducible repeat (first | refine d1_ ?_ _ | refine d2_ ?_ | refine d3_ ?_ _)); exact BK578.out⟩, ⟨by repeat (first | (with_reducible first | exact HB.out | apply b1_ | apply b2_ | apply b3_ | refine b4_ ?_ GE577.out | refine b4_ ?_ GE578.out) | exact HB.out)⟩⟩
  rw [if_neg c11] at H
  have c11b0 : (a0_0 == a1_0) = false := beq_eq_false_iff_ne.mpr c11
  have c11b1 : (a0_0 != a1_0) = true := bne_iff_ne.mpr c11
  (first | rw [c11b0] | rw [c11b1] | rw [c11b2] | (simp only [i64_w, i32_w]; rw [c11b0]) | (simp only [i64_w, i32_w]; rw [c11b1]) | skip)
  have H' := am_ H
  clear H
  have hnb44 := NB577_578.out
  have hnc44 := NB578_577.out
  obtain ⟨⟨hcz45_0, hcz45_1, hcz45_2, hcz45_3, hcz45_4, hcz45_5, hcz45_6, hcz45_7, hcz45_8, hcz45_9⟩, hfz45_0, hfz45_1, hfz45_2, hfz45_3, hfz45_4, hfz45_5, hfz45_6, hfz45_7, hfz45_8, hfz45_9⟩ := cloisterlaw26_ScriptLines.c577 BK577.out
  have hcz46_0 : w10.cell? ⟨gb578, 0, none⟩ = some (.int .i64 a1_0) := (blk_cell BK578.out 0).trans rfl
  have hcz46_1 : w10.cell? ⟨gb578, 1, none⟩ = some (.int .i64 a1_1) := (blk_cell BK578.out 1).trans rfl
  have hcz46_2 : w10.cell? ⟨gb578, 2, none⟩ = some (.int .i64 a1_2) := (blk_cell BK578.out 2).trans rfl
  have hcz46_3 : w10.cell? ⟨gb578, 3, none⟩ = some (.int .i64 a1_3) := (blk_cell BK578.out 3).trans rfl
  have hcz46_4 : w10.cell? ⟨gb578, 4, none⟩ = some (.int .i64 a1_4) := (blk_cell BK578.out 4).trans rfl
  have hcz46_5 : w10.cell? ⟨gb578, 5, none⟩ = some (.bool a1_5) := (blk_cell BK578.out 5).trans rfl
  have hcz46_6 : w10.cell? ⟨gb578, 6, none⟩ = some (.slice A1_6 l1_6.length c1_6) := (blk_cell BK578.out 6).trans rfl
  have hcz46_7 : w10.cell? ⟨gb578, 7, none⟩ = some (.slice A1_7 l1_7.length c1_7) := (blk_cell BK578.out 7).trans rfl
  have hcz46_8 : w10.cell? ⟨gb578, 8, none⟩ = some (.bool a1_8) := (blk_cell BK578.out 8).trans rfl
  have hcz46_9 : w10.cell? ⟨gb578, 9, none⟩ = some (.int .i64 a1_9) := (blk_cell BK578.out 9).trans rfl
  have hfz46_0 := blk_frozen BK578.out 0
  have hfz46_1 := blk_frozen BK578.out 1
  have hfz46_2 := blk_frozen BK578.out 2
  have hfz46_3 := blk_frozen BK578.out 3
  have hfz46_4 := blk_frozen BK578.out 4
  have hfz46_5 := blk_frozen BK578.out 5
  have hfz46_6 := blk_frozen BK578.out 6
  have hfz46_7 := blk_frozen BK578.out 7
  have hfz46_8 := blk_frozen BK578.out 8
  have hfz46_9 := blk_frozen BK578.out 9
  go_wp2
  go_meet
  case rel => exact ⟨_, (false), (by first | rfl | (simp; done) | (simp [*]; done)), H', ⟨by first | omega | exact Nat.le_refl _⟩, ⟨by (with_reducible repeat (first | refine d1_ ?_ _ | refine d2_ ?_ | refine d3_ ?_ _)); exact BK577.out⟩, ⟨by (with_reducible repeat (first | refine d1_ ?_ _ | refine d2_ ?_ | refine d3_ ?_ _)); exact BK578.out⟩, ⟨by repeat (first | (with_reducible first | exact HB.out | apply b1_ | apply b2_ | apply b3_ | refine b4_ ?_ GE577.out | refine b4_ ?_ GE578.out) | exact HB.out)⟩⟩
 case rest =>
  clear HC5
  try clear c1
  try clear c2
  try clear p2
  try clear c3
  try clear c4
  try clear c11
  try clear c11b0
  try clear c11b1
  try clear c11b2
  try clear c12
  try clear c12b0
  try clear c12b1
  try clear c13
  try clear c13b0
  try clear c13b1
  try clear c14
  try clear c14b0
  try clear c14b1
  try clear c14b2
  try clear c15
  try clear c15b0
  try clear c15b1
  try clear c15b2
  try clear c17
  try clear c18
  try clear c18b0
  try clear c18b1
  try clear c18b2
  try clear c19
  try clear c19b0
  try clear c19b1
  try clear c20
  try clear c23
  try clear c26
  try clear c29
  try clear c32
  try clear c35
  try clear c38
  try clear c41
  try clear c44
  try clear hcz21_0 hcz21_1 hcz21_2 hcz21_3 hcz21_4 hcz21_5 hcz21_6 hcz21_7 hcz21_8 hcz21_9 hfz21_0 hfz21_1 hfz21_2 hfz21_3 hfz21_4 hfz21_5 hfz21_6 hfz21_7 hfz21_8 hfz21_9
  try clear hcz22_0 hcz22_1 hcz22_2 hcz22_3 hcz22_4 hcz22_5 hcz22_6 hcz22_7 hcz22_8 hcz22_9 hfz22_0 hfz22_1 hfz22_2 hfz22_3 hfz22_4 hfz22_5 hfz22_6 hfz22_7 hfz22_8 hfz22_9
  try clear hcz24_0 hcz24_1 hcz24_2 hcz24_3 hcz24_4 hcz24_5 hcz24_6 hcz24_7 hcz24_8 hcz24_9 hfz24_0 hfz24_1 hfz24_2 hfz24_3 hfz24_4 hfz24_5 hfz24_6 hfz24_7 hfz24_8 hfz24_9
  try clear hcz25_0 hcz25_1 hcz25_2 hcz25_3 hcz25_4 hcz25_5 hcz25_6 hcz25_7 hcz25_8 hcz25_9 hfz25_0 hfz25_1 hfz25_2 hfz25_3 hfz25_4 hfz25_5 hfz25_6 hfz25_7 hfz25_8 hfz25_9
  try clear hcz27_0 hcz27_1 hcz27_2 hcz27_3 hcz27_4 hcz27_5 hcz27_6 hcz27_7 hcz27_8 hcz27_9 hfz27_0 hfz27_1 hfz27_2 hfz27_3 hfz27_4 hfz27_5 hfz27_6 hfz27_7 hfz27_8 hfz27_9
  try clear hcz28_0 hcz28_1 hcz28_2 hcz28_3 hcz28_4 hcz28_5 hcz28_6 hcz28_7 hcz28_8 hcz28_9 hfz28_0 hfz28_1 hfz28_2 hfz28_3 hfz28_4 hfz28_5 hfz28_6 hfz28_7 hfz28_8 hfz28_9
  try clear hcz30_0 hcz30_1 hcz30_2 hcz30_3 hcz30_4 hcz30_5 hcz30_6 hcz30_7 hcz30_8 hcz30_9 hfz30_0 hfz30_1 hfz30_2 hfz30_3 hfz30_4 hfz30_5 hfz30_6 hfz30_7 hfz30_8 hfz30_9
  try clear hcz31_0 hcz31_1 hcz31_2 hcz31_3 hcz31_4 hcz31_5 hcz31_6 hcz31_7 hcz31_8 hcz31_9 hfz31_0 hfz31_1 hfz31_2 hfz31_3 hfz31_4 hfz31_5 hfz31_6 hfz31_7 hfz31_8 hfz31_9
  try clear hcz33_0 hcz33_1 hcz33_2 hcz33_3 hcz33_4 hcz33_5 hcz33_6 hcz33_7 hcz33_8 hcz33_9 hfz33_0 hfz33_1 hfz33_2 hfz33_3 hfz33_4 hfz33_5 hfz33_6 hfz33_7 hfz33_8 hfz33_9
  try clear hcz34_0 hcz34_1 hcz34_2 hcz34_3 hcz34_4 hcz34_5 hcz34_6 hcz34_7 hcz34_8 hcz34_9 hfz34_0 hfz34_1 hfz34_2 hfz34_3 hfz34_4 hfz34_5 hfz34_6 hfz34_7 hfz34_8 hfz34_9
  try clear hcz36_0 hcz36_1 hcz36_2 hcz36_3 hcz36_4 hcz36_5 hcz36_6 hcz36_7 hcz36_8 hcz36_9 hfz36_0 hfz36_1 hfz36_2 hfz36_3 hfz36_4 hfz36_5 hfz36_6 hfz36_7 hfz36_8 hfz36_9
  try clear hcz37_0 hcz37_1 hcz37_2 hcz37_3 hcz37_4 hcz37_5 hcz37_6 hcz37_7 hcz37_8 hcz37_9 hfz37_0 hfz37_1 hfz37_2 hfz37_3 hfz37_4 hfz37_5 hfz37_6 hfz37_7 hfz37_8 hfz37_9
  try clear hcz39_0 hcz39_1 hcz39_2 hcz39_3 hcz39_4 hcz39_5 hcz39_6 hcz39_7 hcz39_8 hcz39_9 hfz39_0 hfz39_1 hfz39_2 hfz39_3 hfz39_4 hfz39_5 hfz39_6 hfz39_7 hfz39_8 hfz39_9
  try clear hcz40_0 hcz40_1 hcz40_2 hcz40_3 hcz40_4 hcz40_5 hcz40_6 hcz40_7 hcz40_8 hcz40_9 hfz40_0 hfz40_1 hfz40_2 hfz40_3 hfz40_4 hfz40_5 hfz40_6 hfz40_7 hfz40_8 hfz40_9
  try clear hcz42_0 hcz42_1 hcz42_2 hcz42_3 hcz42_4 hcz42_5 hcz42_6 hcz42_7 hcz42_8 hcz42_9 hfz42_0 hfz42_1 hfz42_2 hfz42_3 hfz42_4 hfz42_5 hfz42_6 hfz42_7 hfz42_8 hfz42_9
  try clear hcz43_0 hcz43_1 hcz43_2 hcz43_3 hcz43_4 hcz43_5 hcz43_6 hcz43_7 hcz43_8 hcz43_9 hfz43_0 hfz43_1 hfz43_2 hfz43_3 hfz43_4 hfz43_5 hfz43_6 hfz43_7 hfz43_8 hfz43_9
  try clear hcz45_0 hcz45_1 hcz45_2 hcz45_3 hcz45_4 hcz45_5 hcz45_6 hcz45_7 hcz45_8 hcz45_9 hfz45_0 hfz45_1 hfz45_2 hfz45_3 hfz45_4 hfz45_5 hfz45_6 hfz45_7 hfz45_8 hfz45_9
  try clear hcz46_0 hcz46_1 hcz46_2 hcz46_3 hcz46_4 hcz46_5 hcz46_6 hcz46_7 hcz46_8 hcz46_9 hfz46_0 hfz46_1 hfz46_2 hfz46_3 hfz46_4 hfz46_5 hfz46_6 hfz46_7 hfz46_8 hfz46_9
  obtain ⟨kq, x7_4, rfl, HA, HJ4, BK577, BK578, HB⟩ := hcut
  cases kq with
  | zero => exact absurd HA.out (by simp [cloisterlaw26_ScriptLines.j0])
  | succ kj4 =>
   have H := HA.out
   clear HA
   simp only [cloisterlaw26_ScriptLines.j0] at H
   obtain ⟨ji47, hji47⟩ : ∃ j_ : Int, (mn (l0_7.length : Int) (l1_7.length : Int)) = j_ := ⟨_, rfl⟩
   replace H : (cloisterlaw26_ScriptLines.l0 kj4 t579 t580 x7_4 ji47 0 a0_0 a0_1 a0_2 a0_3 a0_4 a0_5 l0_6 l0_7 a0_8 a0_9 a1_0 a1_1 a1_2 a1_3 a1_4 a1_5 l1_6 l1_7 a1_8 a1_9) = some r := by first | (rw [hji47] at H; exact H) | (simp only [hji47] at H ⊢; exact H)
   have hji47_ : (if (l1_7.length : Int) < (l0_7.length : Int) then (l1_7.length : Int) else (l0_7.length : Int)) = ji47 := hji47
   have H' := am_ H
   clear H
   have hnb48 := NB577_578.out
   have hnc48 := NB578_577.out
   obtain ⟨⟨hcz49_0, hcz49_1, hcz49_2, hcz49_3, hcz49_4, hcz49_5, hcz49_6, hcz49_7, hcz49_8, hcz49_9⟩, hfz49_0, hfz49_1, hfz49_2, hfz49_3, hfz49_4, hfz49_5, hfz49_6, hfz49_7, hfz49_8, hfz49_9⟩ := cloisterlaw26_ScriptLines.c577 BK577.out
   have hcz50_0 : wc.cell? ⟨gb578, 0, none⟩ = some (.int .i64 a1_0) := (blk_cell BK578.out 0).trans rfl
   have hcz50_1 : wc.cell? ⟨gb578, 1, none⟩ = some (.int .i64 a1_1) := (blk_cell BK578.out 1).trans rfl
   have hcz50_2 : wc.cell? ⟨gb578, 2, none⟩ = some (.int .i64 a1_2) := (blk_cell BK578.out 2).trans rfl
   have hcz50_3 : wc.cell? ⟨gb578, 3, none⟩ = some (.int .i64 a1_3) := (blk_cell BK578.out 3).trans rfl
   have hcz50_4 : wc.cell? ⟨gb578, 4, none⟩ = some (.int .i64 a1_4) := (blk_cell BK578.out 4).trans rfl
   have hcz50_5 : wc.cell? ⟨gb578, 5, none⟩ = some (.bool a1_5) := (blk_cell BK578.out 5).trans rfl
   have hcz50_6 : wc.cell? ⟨gb578, 6, none⟩ = some (.slice A1_6 l1_6.length c1_6) := (blk_cell BK578.out 6).trans rfl
   have hcz50_7 : wc.cell? ⟨gb578, 7, none⟩ = some (.slice A1_7 l1_7.length c1_7) := (blk_cell BK578.out 7).trans rfl
   have hcz50_8 : wc.cell? ⟨gb578, 8, none⟩ = some (.bool a1_8) := (blk_cell BK578.out 8).trans rfl
   have hcz50_9 : wc.cell? ⟨gb578, 9, none⟩ = some (.int .i64 a1_9) := (blk_cell BK578.out 9).trans rfl
   have hfz50_0 := blk_frozen BK578.out 0
   have hfz50_1 := blk_frozen BK578.out 1
   have hfz50_2 := blk_frozen BK578.out 2
   have hfz50_3 := blk_frozen BK578.out 3
   have hfz50_4 := blk_frozen BK578.out 4
   have hfz50_5 := blk_frozen BK578.out 5
   have hfz50_6 := blk_frozen BK578.out 6
   have hfz50_7 := blk_frozen BK578.out 7
   have hfz50_8 := blk_frozen BK578.out 8
   have hfz50_9 := blk_frozen BK578.out 9
   have hji47__ : (if l1_7.length < l0_7.length then (l1_7.length : Int) else (l0_7.length : Int)) = ji47 := by
    have h_ := hji47_
    simp only [Int.ofNat_lt] at h_
    exact h_
   go_wp2
   go_loopg [7, 84] kj4 (fun kq v7 v84 w' => ∃ (x7_2 : Bool) (x84_2 : Int), v7 = .bool x7_2 ∧ v84 = .int .i64 x84_2 ∧ Aside0 (cloisterlaw26_ScriptLines.l0 kq t579 t580 x7_2 ji47 x84_2 a0_0 a0_1 a0_2 a0_3 a0_4 a0_5 l0_6 l0_7 a0_8 a0_9 a1_0 a1_1 a1_2 a1_3 a1_4 a1_5 l1_6 l1_7 a1_8 a1_9 = some r) ∧ Aside0 (kq ≤ kj4) ∧ Aside0 (w'.heap[gb577]? = some (.cells #[.int .i64 a0_0, .int .i64 a0_1, .int .i64 a0_2, .int .i64 a0_3, .int .i64 a0_4, .bool a0_5, (.slice A0_6 l0_6.length c0_6), (.slice A0_7 l0_7.length c0_7), .bool a0_8, .int .i64 a0_9] 41 (0, 0))) ∧ Aside0 (w'.heap[gb578]? = some (.cells #[.int .i64 a1_0, .int .i64 a1_1, .int .i64 a1_2, .int .i64 a1_3, .int .i64 a1_4, .bool a1_5, (.slice A1_6 l1_6.length c1_6), (.slice A1_7 l1_7.length c1_7), .bool a1_8, .int .i64 a1_9] 41 (0, 0))) ∧ Aside0 (Below w.heap.size w w'))
   case atStart => exact ⟨(x7_4), (0), (by first | rfl | (simp; done) | (simp [*]; done)), (by first | rfl | (simp; done) | (simp [*]; done)), H', ⟨Nat.le_refl _⟩, ⟨by (with_reducible repeat (first | refine d1_ ?_ _ | refine d2_ ?_ | refine d3_ ?_ _)); exact BK577.out⟩, ⟨by (with_reducible repeat (first | refine d1_ ?_ _ | refine d2_ ?_ | refine d3_ ?_ _)); exact BK578.out⟩, ⟨by repeat (first | (with_reducible first | exact HB.out | apply b1_ | apply b2_ | apply b3_ | refine b4_ ?_ GE577.out | refine b4_ ?_ GE578.out) | exact HB.out)⟩⟩
   case round =>
    clear H'
    try clear c1
    try clear c2
    try clear p2
    try clear c3
    try clear c4
    try clear c11
    try clear c11b0
    try clear c11b1
    try clear c11b2
    try clear c12
    try clear c12b0
    try clear c12b1
    try clear c13
    try clear c13b0
    try clear c13b1
    try clear c14
    try clear c14b0
    try clear c14b1
    try clear c14b2
    try clear c15
    try clear c15b0
    try clear c15b1
    try clear c15b2
    try clear c17
    try clear c18
    try clear c18b0
    try clear c18b1
    try clear c18b2
    try clear c19
    try clear c19b0
    try clear c19b1
    try clear c20
    try clear c23
    try clear c26
    try clear c29
    try clear c32
    try clear c35
    try clear c38
    try clear c41
    try clear c44
    try clear c48
    try clear hcz21_0 hcz21_1 hcz21_2 hcz21_3 hcz21_4 hcz21_5 hcz21_6 hcz21_7 hcz21_8 hcz21_9 hfz21_0 hfz21_1 hfz21_2 hfz21_3 hfz21_4 hfz21_5 hfz21_6 hfz21_7 hfz21_8 hfz21_9
    try clear hcz22_0 hcz22_1 hcz22_2 hcz22_3 hcz22_4 hcz22_5 hcz22_6 hcz22_7 hcz22_8 hcz22_9 hfz22_0 hfz22_1 hfz22_2 hfz22_3 hfz22_4 hfz22_5 hfz22_6 hfz22_7 hfz22_8 hfz22_9
    try clear hcz24_0 hcz24_1 hcz24_2 hcz24_3 hcz24_4 hcz24_5 hcz24_6 hcz24_7 hcz24_8 hcz24_9 hfz24_0 hfz24_1 hfz24_2 hfz24_3 hfz24_4 hfz24_5 hfz24_6 hfz24_7 hfz24_8 hfz24_9
    try clear hcz25_0 hcz25_1 hcz25_2 hcz25_3 hcz25_4 hcz25_5 hcz25_6 hcz25_7 hcz25_8 hcz25_9 hfz25_0 hfz25_1 hfz25_2 hfz25_3 hfz25_4 hfz25_5 hfz25_6 hfz25_7 hfz25_8 hfz25_9
    try clear hcz27_0 hcz27_1 hcz27_2 hcz27_3 hcz27_4 hcz27_5 hcz27_6 hcz27_7 hcz27_8 hcz27_9 hfz27_0 hfz27_1 hfz27_2 hfz27_3 hfz27_4 hfz27_5 hfz27_6 hfz27_7 hfz27_8 hfz27_9
    try clear hcz28_0 hcz28_1 hcz28_2 hcz28_3 hcz28_4 hcz28_5 hcz28_6 hcz28_7 hcz28_8 hcz28_9 hfz28_0 hfz28_1 hfz28_2 hfz28_3 hfz28_4 hfz28_5 hfz28_6 hfz28_7 hfz28_8 hfz28_9
    try clear hcz30_0 hcz30_1 hcz30_2 hcz30_3 hcz30_4 hcz30_5 hcz30_6 hcz30_7 hcz30_8 hcz30_9 hfz30_0 hfz30_1 hfz30_2 hfz30_3 hfz30_4 hfz30_5 hfz30_6 hfz30_7 hfz30_8 hfz30_9
    try clear hcz31_0 hcz31_1 hcz31_2 hcz31_3 hcz31_4 hcz31_5 hcz31_6 hcz31_7 hcz31_8 hcz31_9 hfz31_0 hfz31_1 hfz31_2 hfz31_3 hfz31_4 hfz31_5 hfz31_6 hfz31_7 hfz31_8 hfz31_9
    try clear hcz33_0 hcz33_1 hcz33_2 hcz33_3 hcz33_4 hcz33_5 hcz33_6 hcz33_7 hcz33_8 hcz33_9 hfz33_0 hfz33_1 hfz33_2 hfz33_3 hfz33_4 hfz33_5 hfz33_6 hfz33_7 hfz33_8 hfz33_9
    try clear hcz34_0 hcz34_1 hcz34_2 hcz34_3 hcz34_4 hcz34_5 hcz34_6 hcz34_7 hcz34_8 hcz34_9 hfz34_0 hfz34_1 hfz34_2 hfz34_3 hfz34_4 hfz34_5 hfz34_6 hfz34_7 hfz34_8 hfz34_9
    try clear hcz36_0 hcz36_1 hcz36_2 hcz36_3 hcz36_4 hcz36_5 hcz36_6 hcz36_7 hcz36_8 hcz36_9 hfz36_0 hfz36_1 hfz36_2 hfz36_3 hfz36_4 hfz36_5 hfz36_6 hfz36_7 hfz36_8 hfz36_9
    try clear hcz37_0 hcz37_1 hcz37_2 hcz37_3 hcz37_4 hcz37_5 hcz37_6 hcz37_7 hcz37_8 hcz37_9 hfz37_0 hfz37_1 hfz37_2 hfz37_3 hfz37_4 hfz37_5 hfz37_6 hfz37_7 hfz37_8 hfz37_9
    try clear hcz39_0 hcz39_1 hcz39_2 hcz39_3 hcz39_4 hcz39_5 hcz39_6 hcz39_7 hcz39_8 hcz39_9 hfz39_0 hfz39_1 hfz39_2 hfz39_3 hfz39_4 hfz39_5 hfz39_6 hfz39_7 hfz39_8 hfz39_9
    try clear hcz40_0 hcz40_1 hcz40_2 hcz40_3 hcz40_4 hcz40_5 hcz40_6 hcz40_7 hcz40_8 hcz40_9 hfz40_0 hfz40_1 hfz40_2 hfz40_3 hfz40_4 hfz40_5 hfz40_6 hfz40_7 hfz40_8 hfz40_9
    try clear hcz42_0 hcz42_1 hcz42_2 hcz42_3 hcz42_4 hcz42_5 hcz42_6 hcz42_7 hcz42_8 hcz42_9 hfz42_0 hfz42_1 hfz42_2 hfz42_3 hfz42_4 hfz42_5 hfz42_6 hfz42_7 hfz42_8 hfz42_9
    try clear hcz43_0 hcz43_1 hcz43_2 hcz43_3 hcz43_4 hcz43_5 hcz43_6 hcz43_7 hcz43_8 hcz43_9 hfz43_0 hfz43_1 hfz43_2 hfz43_3 hfz43_4 hfz43_5 hfz43_6 hfz43_7 hfz43_8 hfz43_9
    try clear hcz45_0 hcz45_1 hcz45_2 hcz45_3 hcz45_4 hcz45_5 hcz45_6 hcz45_7 hcz45_8 hcz45_9 hfz45_0 hfz45_1 hfz45_2 hfz45_3 hfz45_4 hfz45_5 hfz45_6 hfz45_7 hfz45_8 hfz45_9
    try clear hcz46_0 hcz46_1 hcz46_2 hcz46_3 hcz46_4 hcz46_5 hcz46_6 hcz46_7 hcz46_8 hcz46_9 hfz46_0 hfz46_1 hfz46_2 hfz46_3 hfz46_4 hfz46_5 hfz46_6 hfz46_7 hfz46_8 hfz46_9
    try clear hcz49_0 hcz49_1 hcz49_2 hcz49_3 hcz49_4 hcz49_5 hcz49_6 hcz49_7 hcz49_8 hcz49_9 hfz49_0 hfz49_1 hfz49_2 hfz49_3 hfz49_4 hfz49_5 hfz49_6 hfz49_7 hfz49_8 hfz49_9
    try clear hcz50_0 hcz50_1 hcz50_2 hcz50_3 hcz50_4 hcz50_5 hcz50_6 hcz50_7 hcz50_8 hcz50_9 hfz50_0 hfz50_1 hfz50_2 hfz50_3 hfz50_4 hfz50_5 hfz50_6 hfz50_7 hfz50_8 hfz50_9
    try clear p2
    obtain ⟨x7_2, x84_2, rfl, rfl, HA, HK2, BK577, BK578, HB⟩ := hrel
    cases gk with
    | zero => exact absurd HA.out (by simp [cloisterlaw26_ScriptLines.l0])
    | succ k2 =>
     have H := HA.out
     clear HA
     simp only [cloisterlaw26_ScriptLines.l0] at H
     by_cases c51 : x84_2 < ji47
     · rw [if_pos c51] at H
       have c51b0 : decide (x84_2 < ji47) = true := decide_eq_true c51
       clear c51
       by_cases c52 : x7_2 = true
       · subst c52
         have H1 : (if 0 ≤ x84_2 then (if x84_2 < (l0_7.length : Int) then (if x84_2 < (l1_7.length : Int) then (if ((rd_T62 l0_7 x84_2).f0).toList = ((rd_T62 l1_7 x84_2).f0).toList then ((slices_Equal_byte_byte.f k2 ((rd_T62 l0_7 x84_2).f1) ((rd_T62 l1_7 x84_2).f1)).bind fun t586 => (cloisterlaw26_ScriptLines.l0 k2 t579 t580 t586 ji47 (wrap64 (x84_2 + 1)) a0_0 a0_1 a0_2 a0_3 a0_4 a0_5 l0_6 l0_7 a0_8 a0_9 a1_0 a1_1 a1_2 a1_3 a1_4 a1_5 l1_6 l1_7 a1_8 a1_9)) else (cloisterlaw26_ScriptLines.l0 k2 t579 t580 false ji47 (wrap64 (x84_2 + 1)) a0_0 a0_1 a0_2 a0_3 a0_4 a0_5 l0_6 l0_7 a0_8 a0_9 a1_0 a1_1 a1_2 a1_3 a1_4 a1_5 l1_6 l1_7 a1_8 a1_9)) else (none)) else (none)) else (none)) = some r := by rw [if_pos rfl] at H; exact H
         clear H
         have H := H1
         clear H1
         by_cases c53 : 0 ≤ x84_2
         · rw [if_pos c53] at H
           have c53b0 : decide (0 ≤ x84_2) = true := decide_eq_true c53
           clear c53
           by_cases c54 : x84_2 < (l0_7.length : Int)
           · rw [if_pos c54] at H
             have c54b0 : decide (x84_2 < (l0_7.length : Int)) = true := decide_eq_true c54
             clear c54
             by_cases c55 : x84_2 < (l1_7.length : Int)
             · rw [if_pos c55] at H
               have c55b0 : decide (x84_2 < (l1_7.length : Int)) = true := decide_eq_true c55
               clear c55
               by_cases c56 : ((rd_T62 l0_7 x84_2).f0).toList = ((rd_T62 l1_7 x84_2).f0).toList
               · rw [if_pos c56] at H
                 have c56b0 : (((rd_T62 l0_7 x84_2).f0).toList == ((rd_T62 l1_7 x84_2).f0).toList) = true := beq_iff_eq.mpr c56
                 have c56b1 : (((rd_T62 l0_7 x84_2).f0).toList != ((rd_T62 l1_7 x84_2).f0).toList) = false := bne_eq_false_iff_eq.mpr c56
                 clear c56
                 replace H := Option.bind_eq_some_iff.mp H
                 obtain ⟨t586, A570, H⟩ := H
                 have A57 := am_ A570
                 clear A570
                 have H' := am_ H
                 clear H
                 try go_wp2
                 replace BK577 := am_ (d2_ BK577.out)
                 replace BK578 := am_ (d2_ BK578.out)
                 replace HB := am_ (b3_ HB.out)
                 have p582 : 0 ≤ (x84_2 : Int) := of_decide_eq_true (by first | (with_reducible assumption) | assumption)
                 have q582 : x84_2 < (l0_7.length : Int) := of_decide_eq_true (by first | (with_reducible assumption) | assumption)
                 obtain ⟨ad582, A582_1, c582_1, e582, hx582_0, hx582_1, hl582_1, hi582_1⟩ := at_T62 HR0_7.out x84_2 p582 q582
                 have hw582_1 := hx582_1
                 have hw582_0 := hx582_0
                 cases e582
                 replace hx582_0 := (HB.out.cell (World.block_lt_of_cell? w _ hx582_0)).trans hx582_0
                 replace hx582_1 := (HB.out.cell (World.block_lt_of_cell? w _ hx582_1)).trans hx582_1
                 have HR582_1 := am_ hi582_1
                 have HC582_1 := am_ hl582_1
                 clear hi582_1 hl582_1
                 replace p582 := eq_true p582
                 replace q582 := eq_true q582
                 have p583 : 0 ≤ (x84_2 : Int) := of_decide_eq_true (by first | (with_reducible assumption) | assumption)
                 have q583 : x84_2 < (l1_7.length : Int) := of_decide_eq_true (by first | (with_reducible assumption) | assumption)
                 obtain ⟨ad583, A583_1, c583_1, e583, hx583_0, hx583_1, hl583_1, hi583_1⟩ := at_T62 HR1_7.out x84_2 p583 q583
                 have hw583_1 := hx583_1
                 have hw583_0 := hx583_0
                 cases e583
                 replace hx583_0 := (HB.out.cell (World.block_lt_of_cell? w _ hx583_0)).trans hx583_0
                 replace hx583_1 := (HB.out.cell (World.block_lt_of_cell? w _ hx583_1)).trans hx583_1
                 have HR583_1 := am_ hi583_1
                 have HC583_1 := am_ hl583_1
                 clear hi583_1 hl583_1
                 replace p583 := eq_true p583
                 replace q583 := eq_true q583
                 have p584 : 0 ≤ (x84_2 : Int) := of_decide_eq_true (by first | (with_reducible assumption) | assumption)
                 have q584 : x84_2 < (l0_7.length : Int) := of_decide_eq_true (by first | (with_reducible assumption) | assumption)
                 obtain ⟨ad584, A584_1, c584_1, e584, hx584_0, hx584_1, hl584_1, hi584_1⟩ := at_T62 HR0_7.out x84_2 p584 q584
                 have hw584_1 := hx584_1
                 have hw584_0 := hx584_0
                 obtain rfl : ad582 = ad584 := (by injection e584)
                 replace hx584_0 := (HB.out.cell (World.block_lt_of_cell? w _ hx584_0)).trans hx584_0
                 replace hx584_1 := (HB.out.cell (World.block_lt_of_cell? w _ hx584_1)).trans hx584_1
                 have HR584_1 := am_ hi584_1
                 have HC584_1 := am_ hl584_1
                 clear hi584_1 hl584_1
                 replace p584 := eq_true p584
                 replace q584 := eq_true q584
                 have ea_ := Option.some.inj (hx582_1.symm.trans hx584_1)
                 injection ea_ with ea_ en_ ec_
                 subst ea_
                 subst ec_
                 clear en_
                 have p585 : 0 ≤ (x84_2 : Int) := of_decide_eq_true (by first | (with_reducible assumption) | assumption)
                 have q585 : x84_2 < (l1_7.length : Int) := of_decide_eq_true (by first | (with_reducible assumption) | assumption)
                 obtain ⟨ad585, A585_1, c585_1, e585, hx585_0, hx585_1, hl585_1, hi585_1⟩ := at_T62 HR1_7.out x84_2 p585 q585
                 have hw585_1 := hx585_1
                 have hw585_0 := hx585_0
                 obtain rfl : ad583 = ad585 := (by injection e585)
                 replace hx585_0 := (HB.out.cell (World.block_lt_of_cell? w _ hx585_0)).trans hx585_0
                 replace hx585_1 := (HB.out.cell (World.block_lt_of_cell? w _ hx585_1)).trans hx585_1
                 have HR585_1 := am_ hi585_1
                 have HC585_1 := am_ hl585_1
                 clear hi585_1 hl585_1
                 replace p585 := eq_true p585
                 replace q585 := eq_true q585
                 have ea_ := Option.some.inj (hx583_1.symm.trans hx585_1)
                 injection ea_ with ea_ en_ ec_
                 subst ea_
                 subst ec_
                 clear en_
                 refine start_ (n := 32) (S := fun w' => w'.cell? ⟨gb577, 0, none⟩ = some (.int .i64 a0_0) ∧ w'.cell? ⟨gb577, 1, none⟩ = some (.int .i64 a0_1) ∧ w'.cell? ⟨gb577, 2, none⟩ = some (.int .i64 a0_2) ∧ w'.cell? ⟨gb577, 3, none⟩ = some (.int .i64 a0_3) ∧ w'.cell? ⟨gb577, 4, none⟩ = some (.int .i64 a0_4) ∧ w'.cell? ⟨gb577, 5, none⟩ = some (.bool a0_5) ∧ w'.cell? ⟨gb577, 6, none⟩ = some (.slice A0_6 l0_6.length c0_6) ∧ w'.cell? ⟨gb577, 7, none⟩ = some (.slice (some ad582) l0_7.length c0_7) ∧ w'.cell? ⟨gb577, 8, none⟩ = some (.bool a0_8) ∧ w'.cell? ⟨gb577, 9, none⟩ = some (.int .i64 a0_9) ∧ w'.cell? ⟨gb578, 0, none⟩ = some (.int .i64 a1_0) ∧ w'.cell? ⟨gb578, 1, none⟩ = some (.int .i64 a1_1) ∧ w'.cell? ⟨gb578, 2, none⟩ = some (.int .i64 a1_2) ∧ w'.cell? ⟨gb578, 3, none⟩ = some (.int .i64 a1_3) ∧ w'.cell? ⟨gb578, 4, none⟩ = some (.int .i64 a1_4) ∧ w'.cell? ⟨gb578, 5, none⟩ = some (.bool a1_5) ∧ w'.cell? ⟨gb578, 6, none⟩ = some (.slice A1_6 l1_6.length c1_6) ∧ w'.cell? ⟨gb578, 7, none⟩ = some (.slice (some ad583) l1_7.length c1_7) ∧ w'.cell? ⟨gb578, 8, none⟩ = some (.bool a1_8) ∧ w'.cell? ⟨gb578, 9, none⟩ = some (.int .i64 a1_9) ∧ w'.cell? (ad582.add ((x84_2).toNat * 2)) = some (.string ((rd_T62 l0_7 x84_2).f0)) ∧ w'.cell? ⟨(ad582.add ((x84_2).toNat * 2)).block, (ad582.add ((x84_2).toNat * 2)).off + 1, none⟩ = some (.slice A582_1 ((rd_T62 l0_7 x84_2).f1).length c582_1) ∧ w'.cell? (ad583.add ((x84_2).toNat * 2)) = some (.string ((rd_T62 l1_7 x84_2).f0)) ∧ w'.cell? ⟨(ad583.add ((x84_2).toNat * 2)).block, (ad583.add ((x84_2).toNat * 2)).off + 1, none⟩ = some (.slice A583_1 ((rd_T62 l1_7 x84_2).f1).length c583_1) ∧ w'.cell? (ad582.add ((x84_2).toNat * 2)) = some (.string ((rd_T62 l0_7 x84_2).f0)) ∧ w'.cell? ⟨(ad582.add ((x84_2).toNat * 2)).block, (ad582.add ((x84_2).toNat * 2)).off + 1, none⟩ = some (.slice A582_1 ((rd_T62 l0_7 x84_2).f1).length c582_1) ∧ w'.cell? (ad583.add ((x84_2).toNat * 2)) = some (.string ((rd_T62 l1_7 x84_2).f0)) ∧ w'.cell? ⟨(ad583.add ((x84_2).toNat * 2)).block, (ad583.add ((x84_2).toNat * 2)).off + 1, none⟩ = some (.slice A583_1 ((rd_T62 l1_7 x84_2).f1).length c583_1)) (ds := []) #[false, false, false, false, false, false, false, false, false, false, false, false, false, false, false, false, false, false, false, false, false, false, false, false, false, false, false, false, false, false, false, false] (by kernel_rfl) rfl rfl ⟨(blk_cell BK577.out 0).trans rfl, (blk_cell BK577.out 1).trans rfl, (blk_cell BK577.out 2).trans rfl, (blk_cell BK577.out 3).trans rfl, (blk_cell BK577.out 4).trans rfl, (blk_cell BK577.out 5).trans rfl, (blk_cell BK577.out 6).trans rfl, (blk_cell BK577.out 7).trans rfl, (blk_cell BK577.out 8).trans rfl, (blk_cell BK577.out 9).trans rfl, (blk_cell BK578.out 0).trans rfl, (blk_cell BK578.out 1).trans rfl, (blk_cell BK578.out 2).trans rfl, (blk_cell BK578.out 3).trans rfl, (blk_cell BK578.out 4).trans rfl, (blk_cell BK578.out 5).trans rfl, (blk_cell BK578.out 6).trans rfl, (blk_cell BK578.out 7).trans rfl, (blk_cell BK578.out 8).trans rfl, (blk_cell BK578.out 9).trans rfl, ((HB.out.cell (World.block_lt_of_cell? w _ hw582_0)).trans hw582_0), ((HB.out.cell (World.block_lt_of_cell? w _ hw582_1)).trans hw582_1), ((HB.out.cell (World.block_lt_of_cell? w _ hw583_0)).trans hw583_0), ((HB.out.cell (World.block_lt_of_cell? w _ hw583_1)).trans hw583_1), ((HB.out.cell (World.block_lt_of_cell? w _ hw584_0)).trans hw584_0), ((HB.out.cell (World.block_lt_of_cell? w _ hw584_1)).trans hw584_1), ((HB.out.cell (World.block_lt_of_cell? w _ hw585_0)).trans hw585_0), ((HB.out.cell (World.block_lt_of_cell? w _ hw585_1)).trans hw585_1)⟩ (fun hHeld => ?_); refine with_tabW cloisterlaw26_ScriptLines.tab6 cloisterlaw26_ScriptLines.bits6 (fun HT_ HW_ => ?_)
                 generalize wr.drew = w58 at BK577 BK578 HB HR582_1 HR583_1 HR584_1 HR585_1 hx582_0 hx582_1 hx583_0 hx583_1 hx584_0 hx584_1 hx585_0 hx585_1 hHeld ⊢
                 refine pu_ 0 87 (bs_ 32 1) rfl rfl (any_of HT_.out (by kernel_rfl)) rfl (by intro w'; go_simp; with_reducible rfl) (by simp only [Act.put, aS, aZ, aC, i64_w, i32_w]; rfl) (fun _ _ _ h => h) ?_
                 refine pu_ 1 88 (bs_ 32 3) rfl rfl (any_of HT_.out (by kernel_rfl)) rfl (by intro w'; go_simp; with_reducible rfl) (by simp only [Act.put, aS, aZ, aC, i64_w, i32_w]; rfl) (fun _ _ _ h => h) ?_
                 refine pu_ 2 89 (bs_ 32 7) rfl rfl (any_of HT_.out (by kernel_rfl)) rfl (by intro w'; go_simp; with_reducible rfl) (by simp only [Act.put, aS, aZ, aC, i64_w, i32_w]; rfl) (fun _ _ _ h => h) ?_
                 refine pu_ 4 91 (bs_ 32 23) rfl rfl (any_of HT_.out (by kernel_rfl)) rfl (by intro w'; go_simp; with_reducible rfl) (by simp only [Act.put, aS, aZ, aC, i64_w, i32_w]; rfl) (fun _ _ _ h => h) ?_
                 refine pu_ 8 95 (bs_ 32 279) rfl rfl (any_of HT_.out (by kernel_rfl)) rfl (by intro w'; go_simp; with_reducible rfl) (by simp only [Act.put, aS, aZ, aC, i64_w, i32_w]; rfl) (fun _ _ _ h => h) ?_
                 refine pu_ 10 97 (bs_ 32 1303) rfl rfl (any_of HT_.out (by kernel_rfl)) rfl (by intro w'; go_simp; with_reducible rfl) (by simp only [Act.put, aS, aZ, aC, i64_w, i32_w]; rfl) (fun _ _ _ h => h) ?_
                 refine ta_ 3 90 (bs_ 32 1311) rfl rfl (take_ofW HT_.out HW_.out (by kernel_rfl)) rfl (by rintro w' ⟨s0, s1, s2, s3, s4, s5, s6, s7, s8, s9, s10, s11, s12, s13, s14, s15, s16, s17, s18, s19, s20, s21, s22, s23, s24, s25, s26, s27⟩; go_simp; with_reducible rfl) hHeld (by simp only [Act.put, aS, aZ, aC, i64_w, i32_w]; rfl) (fun _ _ _ h => h) ?_
                 refine pu_ 5 92 (bs_ 32 1343) rfl rfl (any_of HT_.out (by kernel_rfl)) rfl (by intro w'; go_simp; with_reducible rfl) (by simp only [Act.put, aS, aZ, aC, i64_w, i32_w]; rfl) (fun _ _ _ h => h) ?_
                 refine pu_ 6 93 (bs_ 32 1407) rfl rfl (any_of HT_.out (by kernel_rfl)) rfl (by intro w'; go_simp; with_reducible rfl) (by simp only [Act.put, aS, aZ, aC, i64_w, i32_w]; rfl) (fun _ _ _ h => h) ?_
                 refine ta_ 7 94 (bs_ 32 1535) rfl rfl (take_ofW HT_.out HW_.out (by kernel_rfl)) rfl (by rintro w' ⟨s0, s1, s2, s3, s4, s5, s6, s7, s8, s9, s10, s11, s12, s13, s14, s15, s16, s17, s18, s19, s20, s21, s22, s23, s24, s25, s26, s27⟩; go_simp; with_reducible rfl) hHeld (by simp only [Act.put, aS, aZ, aC, i64_w, i32_w]; rfl) (fun _ _ _ h => h) ?_
                 refine ta_ 9 96 (bs_ 32 2047) rfl rfl (take_ofW HT_.out HW_.out (by kernel_rfl)) rfl (by rintro w' ⟨s0, s1, s2, s3, s4, s5, s6, s7, s8, s9, s10, s11, s12, s13, s14, s15, s16, s17, s18, s19, s20, s21, s22, s23, s24, s25, s26, s27⟩; go_simp; with_reducible rfl) hHeld (by simp only [Act.put, aS, aZ, aC, i64_w, i32_w]; rfl) (fun _ _ _ h => h) ?_
                 refine pu_ 11 98 (bs_ 32 4095) rfl rfl (any_of HT_.out (by kernel_rfl)) rfl (by intro w'; go_simp; with_reducible rfl) (by simp only [Act.put, aS, aZ, aC, i64_w, i32_w]; rfl) (fun _ _ _ h => h) ?_
                 refine pu_ 12 99 (bs_ 32 8191) rfl rfl (any_of HT_.out (by kernel_rfl)) rfl (by intro w'; go_simp; with_reducible rfl) (by simp only [Act.put, aS, aZ, aC, i64_w, i32_w]; rfl) (fun _ _ _ h => h) ?_
                 refine ta_ 13 100 (bs_ 32 16383) rfl rfl (take_ofW HT_.out HW_.out (by kernel_rfl)) rfl (by rintro w' ⟨s0, s1, s2, s3, s4, s5, s6, s7, s8, s9, s10, s11, s12, s13, s14, s15, s16, s17, s18, s19, s20, s21, s22, s23, s24, s25, s26, s27⟩; go_simp; with_reducible rfl) hHeld (by simp only [Act.put, aS, aZ, aC, i64_w, i32_w]; rfl) (fun _ _ _ h => h) ?_
                 refine pu_ 14 101 (bs_ 32 32767) rfl rfl (any_of HT_.out (by kernel_rfl)) rfl (by intro w'; go_simp; with_reducible rfl) (by simp only [Act.put, aS, aZ, aC, i64_w, i32_w]; rfl) (fun _ _ _ h => h) ?_
                 refine pu_ 15 102 (bs_ 32 65535) rfl rfl (any_of HT_.out (by kernel_rfl)) rfl (by intro w'; go_simp; with_reducible rfl) (by simp only [Act.put, aS, aZ, aC, i64_w, i32_w]; rfl) (fun _ _ _ h => h) ?_
                 refine pu_ 16 103 (bs_ 32 131071) rfl rfl (any_of HT_.out (by kernel_rfl)) rfl (by intro w'; go_simp; with_reducible rfl) (by simp only [Act.put, aS, aZ, aC, i64_w, i32_w]; rfl) (fun _ _ _ h => h) ?_
                 refine pu_ 17 104 (bs_ 32 262143) rfl rfl (any_of HT_.out (by kernel_rfl)) rfl (by intro w'; go_simp; with_reducible rfl) (by simp only [Act.put, aS, aZ, aC, i64_w, i32_w]; rfl) (fun _ _ _ h => h) ?_
                 refine pu_ 19 106 (bs_ 32 786431) rfl rfl (any_of HT_.out (by kernel_rfl)) rfl (by intro w'; go_simp; with_reducible rfl) (by simp only [Act.put, aS, aZ, aC, i64_w, i32_w]; rfl) (fun _ _ _ h => h) ?_
                 refine pu_ 23 110 (bs_ 32 9175039) rfl rfl (any_of HT_.out (by kernel_rfl)) rfl (by intro w'; go_simp; with_reducible rfl) (by simp only [Act.put, aS, aZ, aC, i64_w, i32_w]; rfl) (fun _ _ _ h => h) ?_
                 refine pu_ 25 112 (bs_ 32 42729471) rfl rfl (any_of HT_.out (by kernel_rfl)) rfl (by intro w'; go_simp; with_reducible rfl) (by simp only [Act.put, aS, aZ, aC, i64_w, i32_w]; rfl) (fun _ _ _ h => h) ?_
                 refine ta_ 18 105 (bs_ 32 42991615) rfl rfl (take_ofW HT_.out HW_.out (by kernel_rfl)) rfl (by rintro w' ⟨s0, s1, s2, s3, s4, s5, s6, s7, s8, s9, s10, s11, s12, s13, s14, s15, s16, s17, s18, s19, s20, s21, s22, s23, s24, s25, s26, s27⟩; go_simp; with_reducible rfl) hHeld (by simp only [Act.put, aS, aZ, aC, i64_w, i32_w]; rfl) (fun _ _ _ h => h) ?_
                 refine pu_ 20 107 (bs_ 32 44040191) rfl rfl (any_of HT_.out (by kernel_rfl)) rfl (by intro w'; go_simp; with_reducible rfl) (by simp only [Act.put, aS, aZ, aC, i64_w, i32_w]; rfl) (fun _ _ _ h => h) ?_
                 refine pu_ 21 108 (bs_ 32 46137343) rfl rfl (any_of HT_.out (by kernel_rfl)) rfl (by intro w'; go_simp; with_reducible rfl) (by simp only [Act.put, aS, aZ, aC, i64_w, i32_w]; rfl) (fun _ _ _ h => h) ?_
                 refine ta_ 22 109 (bs_ 32 50331647) rfl rfl (take_ofW HT_.out HW_.out (by kernel_rfl)) rfl (by rintro w' ⟨s0, s1, s2, s3, s4, s5, s6, s7, s8, s9, s10, s11, s12, s13, s14, s15, s16, s17, s18, s19, s20, s21, s22, s23, s24, s25, s26, s27⟩; go_simp; with_reducible rfl) hHeld (by simp only [Act.put, aS, aZ, aC, i64_w, i32_w]; rfl) (fun _ _ _ h => h) ?_
                 refine ta_ 24 111 (bs_ 32 67108863) rfl rfl (take_ofW HT_.out HW_.out (by kernel_rfl)) rfl (by rintro w' ⟨s0, s1, s2, s3, s4, s5, s6, s7, s8, s9, s10, s11, s12, s13, s14, s15, s16, s17, s18, s19, s20, s21, s22, s23, s24, s25, s26, s27⟩; go_simp; with_reducible rfl) hHeld (by simp only [Act.put, aS, aZ, aC, i64_w, i32_w]; rfl) (fun _ _ _ h => h) ?_
                 refine pu_ 26 113 (bs_ 32 134217727) rfl rfl (any_of HT_.out (by kernel_rfl)) rfl (by intro w'; go_simp; with_reducible rfl) (by simp only [Act.put, aS, aZ, aC, i64_w, i32_w]; rfl) (fun _ _ _ h => h) ?_
                 refine pu_ 27 114 (bs_ 32 268435455) rfl rfl (any_of HT_.out (by kernel_rfl)) rfl (by intro w'; go_simp; with_reducible rfl) (by simp only [Act.put, aS, aZ, aC, i64_w, i32_w]; rfl) (fun _ _ _ h => h) ?_
                 refine ta_ 28 115 (bs_ 32 536870911) rfl rfl (take_ofW HT_.out HW_.out (by kernel_rfl)) rfl (by rintro w' ⟨s0, s1, s2, s3, s4, s5, s6, s7, s8, s9, s10, s11, s12, s13, s14, s15, s16, s17, s18, s19, s20, s21, s22, s23, s24, s25, s26, s27⟩; go_simp; with_reducible rfl) hHeld (by simp only [Act.put, aS, aZ, aC, i64_w, i32_w]; rfl) (fun _ _ _ h => h) ?_
                 refine one_ (i := 29) (N := some 116) (bs_ 32 1073741823) rfl rfl (one_of HT_.out (by kernel_rfl)) (by decide) (fun K hK => ?_)
                 refine goes_ Tryz.func26 (by kernel_rfl) rfl #[.slice A582_1 ((rd_T62 l0_7 x84_2).f1).length c582_1, .slice A583_1 ((rd_T62 l1_7 x84_2).f1).length c583_1] (by rfl) rfl rfl (by (try simp only [aT, aK, aL]); first | done | rfl | (simp only [List.length_drop, List.length_take]; rfl)) ?_
                 with_reducible refine (slices_Equal_byte_byte.calls k2 _ _ ((rd_T62 l0_7 x84_2).f1) _ _ ((rd_T62 l1_7 x84_2).f1) t586 _ ?side1 ?side2 ?side3 ?side4 A57.out).mono ?_
                 (case side1 => repeat (first | exact (Kd.C_below HR584_1.out HB.out) | (with_reducible refine Kd.C_alloc ?_ _) | (with_reducible refine Kd.C_drewN ?_ _) | (with_reducible refine Kd.C_drew ?_)))
                 (case side2 => exact HC584_1.out)
                 (case side3 => repeat (first | exact (Kd.C_below HR585_1.out HB.out) | (with_reducible refine Kd.C_alloc ?_ _) | (with_reducible refine Kd.C_drewN ?_ _) | (with_reducible refine Kd.C_drew ?_)))
                 (case side4 => exact HC585_1.out)
                 rintro e w' ⟨rfl, ⟨nd, rfl⟩⟩
                 refine ⟨_, rfl, ?_⟩
                 refine hK.out _ _ ⟨(blk_cell BK577.out 0).trans rfl, (blk_cell BK577.out 1).trans rfl, (blk_cell BK577.out 2).trans rfl, (blk_cell BK577.out 3).trans rfl, (blk_cell BK577.out 4).trans rfl, (blk_cell BK577.out 5).trans rfl, (blk_cell BK577.out 6).trans rfl, (blk_cell BK577.out 7).trans rfl, (blk_cell BK577.out 8).trans rfl, (blk_cell BK577.out 9).trans rfl, (blk_cell BK578.out 0).trans rfl, (blk_cell BK578.out 1).trans rfl, (blk_cell BK578.out 2).trans rfl, (blk_cell BK578.out 3).trans rfl, (blk_cell BK578.out 4).trans rfl, (blk_cell BK578.out 5).trans rfl, (blk_cell BK578.out 6).trans rfl, (blk_cell BK578.out 7).trans rfl, (blk_cell BK578.out 8).trans rfl, (blk_cell BK578.out 9).trans rfl, ((HB.out.cell (World.block_lt_of_cell? w _ hw582_0)).trans hw582_0), ((HB.out.cell (World.block_lt_of_cell? w _ hw582_1)).trans hw582_1), ((HB.out.cell (World.block_lt_of_cell? w _ hw583_0)).trans hw583_0), ((HB.out.cell (World.block_lt_of_cell? w _ hw583_1)).trans hw583_1), ((HB.out.cell (World.block_lt_of_cell? w _ hw584_0)).trans hw584_0), ((HB.out.cell (World.block_lt_of_cell? w _ hw584_1)).trans hw584_1), ((HB.out.cell (World.block_lt_of_cell? w _ hw585_0)).trans hw585_0), ((HB.out.cell (World.block_lt_of_cell? w _ hw585_1)).trans hw585_1)⟩ (fun hHeld => ?_)
                 clear hK K
                 refine no_ (by simp only [Act.put, aS, aZ, aC, i64_w, i32_w]; rfl) ?_
                 refine pu_ 30 117 (bs_ 32 2147483647) rfl rfl (any_of HT_.out (by kernel_rfl)) rfl (by intro w'; go_simp; with_reducible rfl) (by simp only [Act.put, aS, aZ, aC, i64_w, i32_w]; rfl) (fun _ _ _ h => h) ?_
                 refine pu_ 31 7 (bs_ 32 4294967295) rfl rfl (any_of HT_.out (by kernel_rfl)) rfl (by intro w'; go_simp; with_reducible rfl) (by simp only [Act.put, aS, aZ, aC, i64_w, i32_w]; rfl) (fun _ _ _ h => h) ?_
                 refine done_ (done_of HT_.out (by kernel_rfl)) ?_
                 try go_wp2
                 go_roundg k2
                 case measure => have := HJ4.out; have := HK2.out; omega
                 case rel => exact ⟨(t586), (wrap64 (x84_2 + 1)), (by first | rfl | (simp; done) | (simp [*]; done)), (by first | rfl | (simp; done) | (simp [*]; done)), H', ⟨by have := HJ4.out; have := HK2.out; omega⟩, ⟨by (with_reducible repeat (first | refine d1_ ?_ _ | refine d2_ ?_ | refine d3_ ?_ _)); exact BK577.out⟩, ⟨by (with_reducible repeat (first | refine d1_ ?_ _ | refine d2_ ?_ | refine d3_ ?_ _)); exact BK578.out⟩, ⟨by repeat (first | (with_reducible first | exact HB.out | apply b1_ | apply b2_ | apply b3_ | refine b4_ ?_ GE577.out | refine b4_ ?_ GE578.out) | exact HB.out)⟩⟩
               rw [if_neg c56] at H
               have c56b0 : (((rd_T62 l0_7 x84_2).f0).toList == ((rd_T62 l1_7 x84_2).f0).toList) = false := beq_eq_false_iff_ne.mpr c56
               have c56b1 : (((rd_T62 l0_7 x84_2).f0).toList != ((rd_T62 l1_7 x84_2).f0).toList) = true := bne_iff_ne.mpr c56
               have H' := am_ H
               clear H
               try go_wp2
               replace BK577 := am_ (d2_ BK577.out)
               replace BK578 := am_ (d2_ BK578.out)
               replace HB := am_ (b3_ HB.out)
               have p582 : 0 ≤ (x84_2 : Int) := of_decide_eq_true (by first | (with_reducible assumption) | assumption)
               have q582 : x84_2 < (l0_7.length : Int) := of_decide_eq_true (by first | (with_reducible assumption) | assumption)
               obtain ⟨ad582, A582_1, c582_1, e582, hx582_0, hx582_1, hl582_1, hi582_1⟩ := at_T62 HR0_7.out x84_2 p582 q582
               have hw582_1 := hx582_1
               have hw582_0 := hx582_0
               cases e582
               replace hx582_0 := (HB.out.cell (World.block_lt_of_cell? w _ hx582_0)).trans hx582_0
               replace hx582_1 := (HB.out.cell (World.block_lt_of_cell? w _ hx582_1)).trans hx582_1
               have HR582_1 := am_ hi582_1
               have HC582_1 := am_ hl582_1
               clear hi582_1 hl582_1
               replace p582 := eq_true p582
               replace q582 := eq_true q582
               have p583 : 0 ≤ (x84_2 : Int) := of_decide_eq_true (by first | (with_reducible assumption) | assumption)
               have q583 : x84_2 < (l1_7.length : Int) := of_decide_eq_true (by first | (with_reducible assumption) | assumption)
               obtain ⟨ad583, A583_1, c583_1, e583, hx583_0, hx583_1, hl583_1, hi583_1⟩ := at_T62 HR1_7.out x84_2 p583 q583
               have hw583_1 := hx583_1
               have hw583_0 := hx583_0
               cases e583
               replace hx583_0 := (HB.out.cell (World.block_lt_of_cell? w _ hx583_0)).trans hx583_0
               replace hx583_1 := (HB.out.cell (World.block_lt_of_cell? w _ hx583_1)).trans hx583_1
               have HR583_1 := am_ hi583_1
               have HC583_1 := am_ hl583_1
               clear hi583_1 hl583_1
               replace p583 := eq_true p583
               replace q583 := eq_true q583
               refine start_ (n := 32) (S := fun w' => w'.cell? ⟨gb577, 0, none⟩ = some (.int .i64 a0_0) ∧ w'.cell? ⟨gb577, 1, none⟩ = some (.int .i64 a0_1) ∧ w'.cell? ⟨gb577, 2, none⟩ = some (.int .i64 a0_2) ∧ w'.cell? ⟨gb577, 3, none⟩ = some (.int .i64 a0_3) ∧ w'.cell? ⟨gb577, 4, none⟩ = some (.int .i64 a0_4) ∧ w'.cell? ⟨gb577, 5, none⟩ = some (.bool a0_5) ∧ w'.cell? ⟨gb577, 6, none⟩ = some (.slice A0_6 l0_6.length c0_6) ∧ w'.cell? ⟨gb577, 7, none⟩ = some (.slice (some ad582) l0_7.length c0_7) ∧ w'.cell? ⟨gb577, 8, none⟩ = some (.bool a0_8) ∧ w'.cell? ⟨gb577, 9, none⟩ = some (.int .i64 a0_9) ∧ w'.cell? ⟨gb578, 0, none⟩ = some (.int .i64 a1_0) ∧ w'.cell? ⟨gb578, 1, none⟩ = some (.int .i64 a1_1) ∧ w'.cell? ⟨gb578, 2, none⟩ = some (.int .i64 a1_2) ∧ w'.cell? ⟨gb578, 3, none⟩ = some (.int .i64 a1_3) ∧ w'.cell? ⟨gb578, 4, none⟩ = some (.int .i64 a1_4) ∧ w'.cell? ⟨gb578, 5, none⟩ = some (.bool a1_5) ∧ w'.cell? ⟨gb578, 6, none⟩ = some (.slice A1_6 l1_6.length c1_6) ∧ w'.cell? ⟨gb578, 7, none⟩ = some (.slice (some ad583) l1_7.length c1_7) ∧ w'.cell? ⟨gb578, 8, none⟩ = some (.bool a1_8) ∧ w'.cell? ⟨gb578, 9, none⟩ = some (.int .i64 a1_9) ∧ w'.cell? (ad582.add ((x84_2).toNat * 2)) = some (.string ((rd_T62 l0_7 x84_2).f0)) ∧ w'.cell? ⟨(ad582.add ((x84_2).toNat * 2)).block, (ad582.add ((x84_2).toNat * 2)).off + 1, none⟩ = some (.slice A582_1 ((rd_T62 l0_7 x84_2).f1).length c582_1) ∧ w'.cell? (ad583.add ((x84_2).toNat * 2)) = some (.string ((rd_T62 l1_7 x84_2).f0)) ∧ w'.cell? ⟨(ad583.add ((x84_2).toNat * 2)).block, (ad583.add ((x84_2).toNat * 2)).off + 1, none⟩ = some (.slice A583_1 ((rd_T62 l1_7 x84_2).f1).length c583_1)) (ds := []) #[false, false, false, false, false, false, false, false, false, false, false, false, false, false, false, false, false, false, false, false, false, false, false, false, false, false, false, false, false, false, false, false] (by kernel_rfl) rfl rfl ⟨(blk_cell BK577.out 0).trans rfl, (blk_cell BK577.out 1).trans rfl, (blk_cell BK577.out 2).trans rfl, (blk_cell BK577.out 3).trans rfl, (blk_cell BK577.out 4).trans rfl, (blk_cell BK577.out 5).trans rfl, (blk_cell BK577.out 6).trans rfl, (blk_cell BK577.out 7).trans rfl, (blk_cell BK577.out 8).trans rfl, (blk_cell BK577.out 9).trans rfl, (blk_cell BK578.out 0).trans rfl, (blk_cell BK578.out 1).trans rfl, (blk_cell BK578.out 2).trans rfl, (blk_cell BK578.out 3).trans rfl, (blk_cell BK578.out 4).trans rfl, (blk_cell BK578.out 5).trans rfl, (blk_cell BK578.out 6).trans rfl, (blk_cell BK578.out 7).trans rfl, (blk_cell BK578.out 8).trans rfl, (blk_cell BK578.out 9).trans rfl, ((HB.out.cell (World.block_lt_of_cell? w _ hw582_0)).trans hw582_0), ((HB.out.cell (World.block_lt_of_cell? w _ hw582_1)).trans hw582_1), ((HB.out.cell (World.block_lt_of_cell? w _ hw583_0)).trans hw583_0), ((HB.out.cell (World.block_lt_of_cell? w _ hw583_1)).trans hw583_1)⟩ (fun hHeld => ?_); refine with_tabW cloisterlaw26_ScriptLines.tab6 cloisterlaw26_ScriptLines.bits6 (fun HT_ HW_ => ?_)
               generalize wr.drew = w59 at BK577 BK578 HB HR582_1 HR583_1 hx582_0 hx582_1 hx583_0 hx583_1 hHeld ⊢
               refine pu_ 0 87 (bs_ 32 1) rfl rfl (any_of HT_.out (by kernel_rfl)) rfl (by intro w'; go_simp; with_reducible rfl) (by simp only [Act.put, aS, aZ, aC, i64_w, i32_w]; rfl) (fun _ _ _ h => h) ?_
               refine pu_ 1 88 (bs_ 32 3) rfl rfl (any_of HT_.out (by kernel_rfl)) rfl (by intro w'; go_simp; with_reducible rfl) (by simp only [Act.put, aS, aZ, aC, i64_w, i32_w]; rfl) (fun _ _ _ h => h) ?_
               refine pu_ 2 89 (bs_ 32 7) rfl rfl (any_of HT_.out (by kernel_rfl)) rfl (by intro w'; go_simp; with_reducible rfl) (by simp only [Act.put, aS, aZ, aC, i64_w, i32_w]; rfl) (fun _ _ _ h => h) ?_
               refine pu_ 4 91 (bs_ 32 23) rfl rfl (any_of HT_.out (by kernel_rfl)) rfl (by intro w'; go_simp; with_reducible rfl) (by simp only [Act.put, aS, aZ, aC, i64_w, i32_w]; rfl) (fun _ _ _ h => h) ?_
               refine pu_ 8 95 (bs_ 32 279) rfl rfl (any_of HT_.out (by kernel_rfl)) rfl (by intro w'; go_simp; with_reducible rfl) (by simp only [Act.put, aS, aZ, aC, i64_w, i32_w]; rfl) (fun _ _ _ h => h) ?_
               refine pu_ 10 97 (bs_ 32 1303) rfl rfl (any_of HT_.out (by kernel_rfl)) rfl (by intro w'; go_simp; with_reducible rfl) (by simp only [Act.put, aS, aZ, aC, i64_w, i32_w]; rfl) (fun _ _ _ h => h) ?_
               refine ta_ 3 90 (bs_ 32 1311) rfl rfl (take_ofW HT_.out HW_.out (by kernel_rfl)) rfl (by rintro w' ⟨s0, s1, s2, s3, s4, s5, s6, s7, s8, s9, s10, s11, s12, s13, s14, s15, s16, s17, s18, s19, s20, s21, s22, s23⟩; go_simp; with_reducible rfl) hHeld (by simp only [Act.put, aS, aZ, aC, i64_w, i32_w]; rfl) (fun _ _ _ h => h) ?_
               refine pu_ 5 92 (bs_ 32 1343) rfl rfl (any_of HT_.out (by kernel_rfl)) rfl (by intro w'; go_simp; with_reducible rfl) (by simp only [Act.put, aS, aZ, aC, i64_w, i32_w]; rfl) (fun _ _ _ h => h) ?_
               refine pu_ 6 93 (bs_ 32 1407) rfl rfl (any_of HT_.out (by kernel_rfl)) rfl (by intro w'; go_simp; with_reducible rfl) (by simp only [Act.put, aS, aZ, aC, i64_w, i32_w]; rfl) (fun _ _ _ h => h) ?_
               refine ta_ 7 94 (bs_ 32 1535) rfl rfl (take_ofW HT_.out HW_.out (by kernel_rfl)) rfl (by rintro w' ⟨s0, s1, s2, s3, s4, s5, s6, s7, s8, s9, s10, s11, s12, s13, s14, s15, s16, s17, s18, s19, s20, s21, s22, s23⟩; go_simp; with_reducible rfl) hHeld (by simp only [Act.put, aS, aZ, aC, i64_w, i32_w]; rfl) (fun _ _ _ h => h) ?_
               refine ta_ 9 96 (bs_ 32 2047) rfl rfl (take_ofW HT_.out HW_.out (by kernel_rfl)) rfl (by rintro w' ⟨s0, s1, s2, s3, s4, s5, s6, s7, s8, s9, s10, s11, s12, s13, s14, s15, s16, s17, s18, s19, s20, s21, s22, s23⟩; go_simp; with_reducible rfl) hHeld (by simp only [Act.put, aS, aZ, aC, i64_w, i32_w]; rfl) (fun _ _ _ h => h) ?_
               refine pu_ 11 98 (bs_ 32 4095) rfl rfl (any_of HT_.out (by kernel_rfl)) rfl (by intro w'; go_simp; with_reducible rfl) (by simp only [Act.put, aS, aZ, aC, i64_w, i32_w]; rfl) (fun _ _ _ h => h) ?_
               refine pu_ 12 99 (bs_ 32 8191) rfl rfl (any_of HT_.out (by kernel_rfl)) rfl (by intro w'; go_simp; with_reducible rfl) (by simp only [Act.put, aS, aZ, aC, i64_w, i32_w]; rfl) (fun _ _ _ h => h) ?_
               refine ta_ 13 100 (bs_ 32 16383) rfl rfl (take_ofW HT_.out HW_.out (by kernel_rfl)) rfl (by rintro w' ⟨s0, s1, s2, s3, s4, s5, s6, s7, s8, s9, s10, s11, s12, s13, s14, s15, s16, s17, s18, s19, s20, s21, s22, s23⟩; go_simp; with_reducible rfl) hHeld (by simp only [Act.put, aS, aZ, aC, i64_w, i32_w]; rfl) (fun _ _ _ h => h) ?_
               refine pu_ 14 101 (bs_ 32 32767) rfl rfl (any_of HT_.out (by kernel_rfl)) rfl (by intro w'; go_simp; with_reducible rfl) (by simp only [Act.put, aS, aZ, aC, i64_w, i32_w]; rfl) (fun _ _ _ h => h) ?_
               refine pu_ 15 102 (bs_ 32 65535) rfl rfl (any_of HT_.out (by kernel_rfl)) rfl (by intro w'; go_simp; with_reducible rfl) (by simp only [Act.put, aS, aZ, aC, i64_w, i32_w]; rfl) (fun _ _ _ h => h) ?_
               refine pu_ 16 103 (bs_ 32 131071) rfl rfl (any_of HT_.out (by kernel_rfl)) rfl (by intro w'; go_simp; with_reducible rfl) (by simp only [Act.put, aS, aZ, aC, i64_w, i32_w]; rfl) (fun _ _ _ h => h) ?_
               refine pure_ (i := 17) (N := some 104) (v := undef) (a' := ?_) (bs_ 32 262143) rfl rfl (any_of HT_.out (by kernel_rfl)) (fun _ _ _ h => h) (Or.inr ⟨by rfl, rfl⟩) ?_ ?_
               rotate_left
               · simp only [Act.put, aS, aZ, aC, i64_w, i32_w]
                 rfl
               refine pure_ (i := 18) (N := some 105) (v := undef) (a' := ?_) (bs_ 32 524287) rfl rfl (any_of HT_.out (by kernel_rfl)) (fun _ _ _ h => h) (Or.inr ⟨by rfl, rfl⟩) ?_ ?_
               rotate_left
               · simp only [Act.put, aS, aZ, aC, i64_w, i32_w]
                 rfl
               refine pure_ (i := 19) (N := some 106) (v := undef) (a' := ?_) (bs_ 32 1048575) rfl rfl (any_of HT_.out (by kernel_rfl)) (fun _ _ _ h => h) (Or.inr ⟨by rfl, rfl⟩) ?_ ?_
               rotate_left
               · simp only [Act.put, aS, aZ, aC, i64_w, i32_w]
                 rfl
               refine pure_ (i := 20) (N := some 107) (v := undef) (a' := ?_) (bs_ 32 2097151) rfl rfl (any_of HT_.out (by kernel_rfl)) (fun _ _ _ h => h) (Or.inr ⟨by rfl, rfl⟩) ?_ ?_
               rotate_left
               · simp only [Act.put, aS, aZ, aC, i64_w, i32_w]
                 rfl
               refine pure_ (i := 21) (N := some 108) (v := undef) (a' := ?_) (bs_ 32 4194303) rfl rfl (any_of HT_.out (by kernel_rfl)) (fun _ _ _ h => h) (Or.inr ⟨by rfl, rfl⟩) ?_ ?_
               rotate_left
               · simp only [Act.put, aS, aZ, aC, i64_w, i32_w]
                 rfl
               refine pure_ (i := 22) (N := some 109) (v := undef) (a' := ?_) (bs_ 32 8388607) rfl rfl (any_of HT_.out (by kernel_rfl)) (fun _ _ _ h => h) (Or.inr ⟨by rfl, rfl⟩) ?_ ?_
               rotate_left
               · simp only [Act.put, aS, aZ, aC, i64_w, i32_w]
                 rfl
               refine pure_ (i := 23) (N := some 110) (v := undef) (a' := ?_) (bs_ 32 16777215) rfl rfl (any_of HT_.out (by kernel_rfl)) (fun _ _ _ h => h) (Or.inr ⟨by rfl, rfl⟩) ?_ ?_
               rotate_left
               · simp only [Act.put, aS, aZ, aC, i64_w, i32_w]
                 rfl
               refine pure_ (i := 24) (N := some 111) (v := undef) (a' := ?_) (bs_ 32 33554431) rfl rfl (any_of HT_.out (by kernel_rfl)) (fun _ _ _ h => h) (Or.inr ⟨by rfl, rfl⟩) ?_ ?_
               rotate_left
               · simp only [Act.put, aS, aZ, aC, i64_w, i32_w]
                 rfl
               refine pure_ (i := 25) (N := some 112) (v := undef) (a' := ?_) (bs_ 32 67108863) rfl rfl (any_of HT_.out (by kernel_rfl)) (fun _ _ _ h => h) (Or.inr ⟨by rfl, rfl⟩) ?_ ?_
               rotate_left
               · simp only [Act.put, aS, aZ, aC, i64_w, i32_w]
                 rfl
               refine pure_ (i := 26) (N := some 113) (v := undef) (a' := ?_) (bs_ 32 134217727) rfl rfl (any_of HT_.out (by kernel_rfl)) (fun _ _ _ h => h) (Or.inr ⟨by rfl, rfl⟩) ?_ ?_
               rotate_left
               · simp only [Act.put, aS, aZ, aC, i64_w, i32_w]
                 rfl
               refine pure_ (i := 27) (N := some 114) (v := undef) (a' := ?_) (bs_ 32 268435455) rfl rfl (any_of HT_.out (by kernel_rfl)) (fun _ _ _ h => h) (Or.inr ⟨by rfl, rfl⟩) ?_ ?_
               rotate_left
               · simp only [Act.put, aS, aZ, aC, i64_w, i32_w]
                 rfl
               refine pure_ (i := 28) (N := some 115) (v := undef) (a' := ?_) (bs_ 32 536870911) rfl rfl (any_of HT_.out (by kernel_rfl)) (fun _ _ _ h => h) (Or.inr ⟨by rfl, rfl⟩) ?_ ?_
               rotate_left
               · simp only [Act.put, aS, aZ, aC, i64_w, i32_w]
                 rfl
               refine pure_ (i := 29) (N := some 116) (v := undef) (a' := ?_) (bs_ 32 1073741823) rfl rfl (any_of HT_.out (by kernel_rfl)) (fun _ _ _ h => h) (Or.inr ⟨by rfl, rfl⟩) ?_ ?_
               rotate_left
               · simp only [Act.put, aS, aZ, aC, i64_w, i32_w]
                 rfl
               refine pu_ 30 117 (bs_ 32 2147483647) rfl rfl (any_of HT_.out (by kernel_rfl)) rfl (by intro w'; go_simp; with_reducible rfl) (by simp only [Act.put, aS, aZ, aC, i64_w, i32_w]; rfl) (fun _ _ _ h => h) ?_
               refine pu_ 31 7 (bs_ 32 4294967295) rfl rfl (any_of HT_.out (by kernel_rfl)) rfl (by intro w'; go_simp; with_reducible rfl) (by simp only [Act.put, aS, aZ, aC, i64_w, i32_w]; rfl) (fun _ _ _ h => h) ?_
               refine done_ (done_of HT_.out (by kernel_rfl)) ?_
               try go_wp2
               go_roundg k2
               case measure => have := HJ4.out; have := HK2.out; omega
               case rel => exact ⟨(false), (wrap64 (x84_2 + 1)), (by first | rfl | (simp; done) | (simp [*]; done)), (by first | rfl | (simp; done) | (simp [*]; done)), H', ⟨by have := HJ4.out; have := HK2.out; omega⟩, ⟨by (with_reducible repeat (first | refine d1_ ?_ _ | refine d2_ ?_ | refine d3_ ?_ _)); exact BK577.out⟩, ⟨by (with_reducible repeat (first | refine d1_ ?_ _ | refine d2_ ?_ | refine d3_ ?_ _)); exact BK578.out⟩, ⟨by repeat (first | (with_reducible first | exact HB.out | apply b1_ | apply b2_ | apply b3_ | refine b4_ ?_ GE577.out | refine b4_ ?_ GE578.out) | exact HB.out)⟩⟩
             rw [if_neg c55] at H
             exact absurd H (by simp)
           rw [if_neg c54] at H
           exact absurd H (by simp)
         rw [if_neg c53] at H
         exact absurd H (by simp)
       replace c52 := Bool.eq_false_iff.mpr c52
       subst c52
       have H1 : (cloisterlaw26_ScriptLines.l0 k2 t579 t580 false ji47 (wrap64 (x84_2 + 1)) a0_0 a0_1 a0_2 a0_3 a0_4 a0_5 l0_6 l0_7 a0_8 a0_9 a1_0 a1_1 a1_2 a1_3 a1_4 a1_5 l1_6 l1_7 a1_8 a1_9) = some r := by rw [if_neg (show ¬ (false = true) by decide)] at H; exact H
       clear H
       have H := H1
       clear H1
       have H' := am_ H
       clear H
       try go_wp2
       replace BK577 := am_ (d2_ BK577.out)
       replace BK578 := am_ (d2_ BK578.out)
       replace HB := am_ (b3_ HB.out)
       refine start_ (n := 32) (S := fun w' => True) (ds := []) #[false, false, false, false, false, false, false, false, false, false, false, false, false, false, false, false, false, false, false, false, false, false, false, false, false, false, false, false, false, false, false, false] (by kernel_rfl) rfl rfl trivial (fun hHeld => ?_); refine with_tabW cloisterlaw26_ScriptLines.tab6 cloisterlaw26_ScriptLines.bits6 (fun HT_ HW_ => ?_)
       generalize wr.drew = w60 at BK577 BK578 HB hHeld ⊢
       refine pu_ 0 87 (bs_ 32 1) rfl rfl (any_of HT_.out (by kernel_rfl)) rfl (by intro w'; go_simp; with_reducible rfl) (by simp only [Act.put, aS, aZ, aC, i64_w, i32_w]; rfl) (fun _ _ _ h => h) ?_
       refine pu_ 1 88 (bs_ 32 3) rfl rfl (any_of HT_.out (by kernel_rfl)) rfl (by intro w'; go_simp; with_reducible rfl) (by simp only [Act.put, aS, aZ, aC, i64_w, i32_w]; rfl) (fun _ _ _ h => h) ?_
       refine pure_ (i := 2) (N := some 89) (v := undef) (a' := ?_) (bs_ 32 7) rfl rfl (any_of HT_.out (by kernel_rfl)) (fun _ _ _ h => h) (Or.inr ⟨by rfl, rfl⟩) ?_ ?_
       rotate_left
       · simp only [Act.put, aS, aZ, aC, i64_w, i32_w]
         rfl
       refine pure_ (i := 3) (N := some 90) (v := undef) (a' := ?_) (bs_ 32 15) rfl rfl (any_of HT_.out (by kernel_rfl)) (fun _ _ _ h => h) (Or.inr ⟨by rfl, rfl⟩) ?_ ?_
       rotate_left
       · simp only [Act.put, aS, aZ, aC, i64_w, i32_w]
         rfl
       refine pure_ (i := 4) (N := some 91) (v := undef) (a' := ?_) (bs_ 32 31) rfl rfl (any_of HT_.out (by kernel_rfl)) (fun _ _ _ h => h) (Or.inr ⟨by rfl, rfl⟩) ?_ ?_
       rotate_left
       · simp only [Act.put, aS, aZ, aC, i64_w, i32_w]
         rfl
       refine pure_ (i := 5) (N := some 92) (v := undef) (a' := ?_) (bs_ 32 63) rfl rfl (any_of HT_.out (by kernel_rfl)) (fun _ _ _ h => h) (Or.inr ⟨by rfl, rfl⟩) ?_ ?_
       rotate_left
       · simp only [Act.put, aS, aZ, aC, i64_w, i32_w]
         rfl
       refine pure_ (i := 6) (N := some 93) (v := undef) (a' := ?_) (bs_ 32 127) rfl rfl (any_of HT_.out (by kernel_rfl)) (fun _ _ _ h => h) (Or.inr ⟨by rfl, rfl⟩) ?_ ?_
       rotate_left
       · simp only [Act.put, aS, aZ, aC, i64_w, i32_w]
         rfl
       refine pure_ (i := 7) (N := some 94) (v := undef) (a' := ?_) (bs_ 32 255) rfl rfl (any_of HT_.out (by kernel_rfl)) (fun _ _ _ h => h) (Or.inr ⟨by rfl, rfl⟩) ?_ ?_
       rotate_left
       · simp only [Act.put, aS, aZ, aC, i64_w, i32_w]
         rfl
       refine pure_ (i := 8) (N := some 95) (v := undef) (a' := ?_) (bs_ 32 511) rfl rfl (any_of HT_.out (by kernel_rfl)) (fun _ _ _ h => h) (Or.inr ⟨by rfl, rfl⟩) ?_ ?_
       rotate_left
       · simp only [Act.put, aS, aZ, aC, i64_w, i32_w]
         rfl
       refine pure_ (i := 9) (N := some 96) (v := undef) (a' := ?_) (bs_ 32 1023) rfl rfl (any_of HT_.out (by kernel_rfl)) (fun _ _ _ h => h) (Or.inr ⟨by rfl, rfl⟩) ?_ ?_
       rotate_left
       · simp only [Act.put, aS, aZ, aC, i64_w, i32_w]
         rfl
       refine pure_ (i := 10) (N := some 97) (v := undef) (a' := ?_) (bs_ 32 2047) rfl rfl (any_of HT_.out (by kernel_rfl)) (fun _ _ _ h => h) (Or.inr ⟨by rfl, rfl⟩) ?_ ?_
       rotate_left
       · simp only [Act.put, aS, aZ, aC, i64_w, i32_w]
         rfl
       refine pure_ (i := 11) (N := some 98) (v := undef) (a' := ?_) (bs_ 32 4095) rfl rfl (any_of HT_.out (by kernel_rfl)) (fun _ _ _ h => h) (Or.inr ⟨by rfl, rfl⟩) ?_ ?_
       rotate_left
       · simp only [Act.put, aS, aZ, aC, i64_w, i32_w]
         rfl
       refine pure_ (i := 12) (N := some 99) (v := undef) (a' := ?_) (bs_ 32 8191) rfl rfl (any_of HT_.out (by kernel_rfl)) (fun _ _ _ h => h) (Or.inr ⟨by rfl, rfl⟩) ?_ ?_
       rotate_left
       · simp only [Act.put, aS, aZ, aC, i64_w, i32_w]
         rfl
       refine pure_ (i := 13) (N := some 100) (v := undef) (a' := ?_) (bs_ 32 16383) rfl rfl (any_of HT_.out (by kernel_rfl)) (fun _ _ _ h => h) (Or.inr ⟨by rfl, rfl⟩) ?_ ?_
       rotate_left
       · simp only [Act.put, aS, aZ, aC, i64_w, i32_w]
         rfl
       refine pure_ (i := 14) (N := some 101) (v := undef) (a' := ?_) (bs_ 32 32767) rfl rfl (any_of HT_.out (by kernel_rfl)) (fun _ _ _ h => h) (Or.inr ⟨by rfl, rfl⟩) ?_ ?_
       rotate_left
       · simp only [Act.put, aS, aZ, aC, i64_w, i32_w]
         rfl
       refine pu_ 15 102 (bs_ 32 65535) rfl rfl (any_of HT_.out (by kernel_rfl)) rfl (by intro w'; go_simp; with_reducible rfl) (by simp only [Act.put, aS, aZ, aC, i64_w, i32_w]; rfl) (fun _ _ _ h => h) ?_
       refine pu_ 16 103 (bs_ 32 131071) rfl rfl (any_of HT_.out (by kernel_rfl)) rfl (by intro w'; go_simp; with_reducible rfl) (by simp only [Act.put, aS, aZ, aC, i64_w, i32_w]; rfl) (fun _ _ _ h => h) ?_
       refine pure_ (i := 17) (N := some 104) (v := undef) (a' := ?_) (bs_ 32 262143) rfl rfl (any_of HT_.out (by kernel_rfl)) (fun _ _ _ h => h) (Or.inr ⟨by rfl, rfl⟩) ?_ ?_
       rotate_left
       · simp only [Act.put, aS, aZ, aC, i64_w, i32_w]
         rfl
       refine pure_ (i := 18) (N := some 105) (v := undef) (a' := ?_) (bs_ 32 524287) rfl rfl (any_of HT_.out (by kernel_rfl)) (fun _ _ _ h => h) (Or.inr ⟨by rfl, rfl⟩) ?_ ?_
       rotate_left
       · simp only [Act.put, aS, aZ, aC, i64_w, i32_w]
         rfl
       refine pure_ (i := 19) (N := some 106) (v := undef) (a' := ?_) (bs_ 32 1048575) rfl rfl (any_of HT_.out (by kernel_rfl)) (fun _ _ _ h => h) (Or.inr ⟨by rfl, rfl⟩) ?_ ?_
       rotate_left
       · simp only [Act.put, aS, aZ, aC, i64_w, i32_w]
         rfl
       refine pure_ (i := 20) (N := some 107) (v := undef) (a' := ?_) (bs_ 32 2097151) rfl rfl (any_of HT_.out (by kernel_rfl)) (fun _ _ _ h => h) (Or.inr ⟨by rfl, rfl⟩) ?_ ?_
       rotate_left
       · simp only [Act.put, aS, aZ, aC, i64_w, i32_w]
         rfl
       refine pure_ (i := 21) (N := some 108) (v := undef) (a' := ?_) (bs_ 32 4194303) rfl rfl (any_of HT_.out (by kernel_rfl)) (fun _ _ _ h => h) (Or.inr ⟨by rfl, rfl⟩) ?_ ?_
       rotate_left
       · simp only [Act.put, aS, aZ, aC, i64_w, i32_w]
         rfl
       refine pure_ (i := 22) (N := some 109) (v := undef) (a' := ?_) (bs_ 32 8388607) rfl rfl (any_of HT_.out (by kernel_rfl)) (fun _ _ _ h => h) (Or.inr ⟨by rfl, rfl⟩) ?_ ?_
       rotate_left
       · simp only [Act.put, aS, aZ, aC, i64_w, i32_w]
         rfl
       refine pure_ (i := 23) (N := some 110) (v := undef) (a' := ?_) (bs_ 32 16777215) rfl rfl (any_of HT_.out (by kernel_rfl)) (fun _ _ _ h => h) (Or.inr ⟨by rfl, rfl⟩) ?_ ?_
       rotate_left
       · simp only [Act.put, aS, aZ, aC, i64_w, i32_w]
         rfl
       refine pure_ (i := 24) (N := some 111) (v := undef) (a' := ?_) (bs_ 32 33554431) rfl rfl (any_of HT_.out (by kernel_rfl)) (fun _ _ _ h => h) (Or.inr ⟨by rfl, rfl⟩) ?_ ?_
       rotate_left
       · simp only [Act.put, aS, aZ, aC, i64_w, i32_w]
         rfl
       refine pure_ (i := 25) (N := some 112) (v := undef) (a' := ?_) (bs_ 32 67108863) rfl rfl (any_of HT_.out (by kernel_rfl)) (fun _ _ _ h => h) (Or.inr ⟨by rfl, rfl⟩) ?_ ?_
       rotate_left
       · simp only [Act.put, aS, aZ, aC, i64_w, i32_w]
         rfl
       refine pure_ (i := 26) (N := some 113) (v := undef) (a' := ?_) (bs_ 32 134217727) rfl rfl (any_of HT_.out (by kernel_rfl)) (fun _ _ _ h => h) (Or.inr ⟨by rfl, rfl⟩) ?_ ?_
       rotate_left
       · simp only [Act.put, aS, aZ, aC, i64_w, i32_w]
         rfl
       refine pure_ (i := 27) (N := some 114) (v := undef) (a' := ?_) (bs_ 32 268435455) rfl rfl (any_of HT_.out (by kernel_rfl)) (fun _ _ _ h => h) (Or.inr ⟨by rfl, rfl⟩) ?_ ?_
       rotate_left
       · simp only [Act.put, aS, aZ, aC, i64_w, i32_w]
         rfl
       refine pure_ (i := 28) (N := some 115) (v := undef) (a' := ?_) (bs_ 32 536870911) rfl rfl (any_of HT_.out (by kernel_rfl)) (fun _ _ _ h => h) (Or.inr ⟨by rfl, rfl⟩) ?_ ?_
       rotate_left
       · simp only [Act.put, aS, aZ, aC, i64_w, i32_w]
         rfl
       refine pure_ (i := 29) (N := some 116) (v := undef) (a' := ?_) (bs_ 32 1073741823) rfl rfl (any_of HT_.out (by kernel_rfl)) (fun _ _ _ h => h) (Or.inr ⟨by rfl, rfl⟩) ?_ ?_
       rotate_left
       · simp only [Act.put, aS, aZ, aC, i64_w, i32_w]
         rfl
       refine pu_ 30 117 (bs_ 32 2147483647) rfl rfl (any_of HT_.out (by kernel_rfl)) rfl (by intro w'; go_simp; with_reducible rfl) (by simp only [Act.put, aS, aZ, aC, i64_w, i32_w]; rfl) (fun _ _ _ h => h) ?_
       refine pu_ 31 7 (bs_ 32 4294967295) rfl rfl (any_of HT_.out (by kernel_rfl)) rfl (by intro w'; go_simp; with_reducible rfl) (by simp only [Act.put, aS, aZ, aC, i64_w, i32_w]; rfl) (fun _ _ _ h => h) ?_
       refine done_ (done_of HT_.out (by kernel_rfl)) ?_
       try go_wp2
       go_roundg k2
       case measure => have := HJ4.out; have := HK2.out; omega
       case rel => exact ⟨(false), (wrap64 (x84_2 + 1)), (by first | rfl | (simp; done) | (simp [*]; done)), (by first | rfl | (simp; done) | (simp [*]; done)), H', ⟨by have := HJ4.out; have := HK2.out; omega⟩, ⟨by (with_reducible repeat (first | refine d1_ ?_ _ | refine d2_ ?_ | refine d3_ ?_ _)); exact BK577.out⟩, ⟨by (with_reducible repeat (first | refine d1_ ?_ _ | refine d2_ ?_ | refine d3_ ?_ _)); exact BK578.out⟩, ⟨by repeat (first | (with_reducible first | exact HB.out | apply b1_ | apply b2_ | apply b3_ | refine b4_ ?_ GE577.out | refine b4_ ?_ GE578.out) | exact HB.out)⟩⟩
     rw [if_neg c51] at H
     have c51b0 : decide (x84_2 < ji47) = false := decide_eq_false c51
     clear c51
     have H' := am_ H
     clear H
     go_wp2
     go_loopg [121] k2 (fun kq v121 w' => ∃ (x121_3 : Int), v121 = .int .i64 x121_3 ∧ Aside0 (cloisterlaw26_ScriptLines.l1 kq t579 t580 x7_2 (t579.size : Int) x121_3 = some r) ∧ Aside0 (kq ≤ k2) ∧ Aside0 (w'.heap[gb577]? = some (.cells #[.int .i64 a0_0, .int .i64 a0_1, .int .i64 a0_2, .int .i64 a0_3, .int .i64 a0_4, .bool a0_5, (.slice A0_6 l0_6.length c0_6), (.slice A0_7 l0_7.length c0_7), .bool a0_8, .int .i64 a0_9] 41 (0, 0))) ∧ Aside0 (w'.heap[gb578]? = some (.cells #[.int .i64 a1_0, .int .i64 a1_1, .int .i64 a1_2, .int .i64 a1_3, .int .i64 a1_4, .bool a1_5, (.slice A1_6 l1_6.length c1_6), (.slice A1_7 l1_7.length c1_7), .bool a1_8, .int .i64 a1_9] 41 (0, 0))) ∧ Aside0 (Below w.heap.size w w'))
     case atStart => exact ⟨(0), (by first | rfl | (simp; done) | (simp [*]; done)), H', ⟨Nat.le_refl _⟩, ⟨by (with_reducible repeat (first | refine d1_ ?_ _ | refine d2_ ?_ | refine d3_ ?_ _)); exact BK577.out⟩, ⟨by (with_reducible repeat (first | refine d1_ ?_ _ | refine d2_ ?_ | refine d3_ ?_ _)); exact BK578.out⟩, ⟨by repeat (first | (with_reducible first | exact HB.out | apply b1_ | apply b2_ | apply b3_ | refine b4_ ?_ GE577.out | refine b4_ ?_ GE578.out) | exact HB.out)⟩⟩
     case round =>
      clear H'
      try clear c1
      try clear c2
      try clear p2
      try clear c5
      try clear p5
      try clear q5
      try clear hx5
      try clear p6
      try clear c26
      try clear c51
      try clear c51b0
      try clear c52
      try clear c53
      try clear c54
      try clear c55
      try clear c56
      try clear c56b0
      try clear c56b1
      try clear c58
      try clear p58
      try clear q58
      try clear hx58
      try clear hx582_0
      try clear hx582_1
      try clear hx583_0
      try clear hx583_1
      try clear p582
      try clear p583
      try clear q582
      try clear q583
      obtain ⟨x121_3, rfl, HA, HK3, BK577, BK578, HB⟩ := hrel
      cases gk with
      | zero => exact absurd HA.out (by simp [cloisterlaw26_ScriptLines.l1])
      | succ k3 =>
       have H := HA.out
       clear HA
       simp only [cloisterlaw26_ScriptLines.l1] at H
       by_cases c61 : x121_3 < (t579.size : Int)
       · rw [if_pos c61] at H
         have c61b0 : decide (x121_3 < (t579.size : Int)) = true := decide_eq_true c61
         clear c61
         by_cases c62 : 0 ≤ x121_3
         · rw [if_pos c62] at H
           have c62b0 : decide (0 ≤ x121_3) = true := decide_eq_true c62
           clear c62
           by_cases c63 : x121_3 < (t579.size : Int)
           · rw [if_pos c63] at H
             have c63b0 : decide (x121_3 < (t579.size : Int)) = true := decide_eq_true c63
             clear c63
             by_cases c65 : (bt t579 x121_3) = 10
             · rw [if_pos c65] at H
               have c65b0 : ((bt t579 x121_3) == 10) = true := beq_iff_eq.mpr c65
               have c65b1 : ((bt t579 x121_3) != 10) = false := bne_eq_false_iff_eq.mpr c65
               clear c65
               obtain rfl := Option.some.inj H
               have p64 : 0 ≤ (x121_3 : Int) := of_decide_eq_true (by first | (with_reducible assumption) | assumption)
               have q64 : x121_3 < (t579.size : Int) := of_decide_eq_true (by first | (with_reducible assumption) | assumption)
               have hx64 := bt_at t579 x121_3
               replace p64 := eq_true p64
               replace q64 := eq_true q64
               go_wp2
               go_ret
               exact ⟨by first | rfl | (simp [errW_none, errW_some] <;> rfl) | (simp only [← hji47]; first | rfl | (simp [errW_none, errW_some] <;> rfl)) | (simp [*, errW_none, errW_some] <;> rfl), by repeat (first | (with_reducible first | exact HB.out | apply b1_ | apply b2_ | apply b3_ | refine b4_ ?_ GE577.out | refine b4_ ?_ GE578.out) | exact HB.out)⟩
             rw [if_neg c65] at H
             have c65b0 : ((bt t579 x121_3) == 10) = false := beq_eq_false_iff_ne.mpr c65
             have c65b1 : ((bt t579 x121_3) != 10) = true := bne_iff_ne.mpr c65
             have H' := am_ H
             clear H
             have p64 : 0 ≤ (x121_3 : Int) := of_decide_eq_true (by first | (with_reducible assumption) | assumption)
             have q64 : x121_3 < (t579.size : Int) := of_decide_eq_true (by first | (with_reducible assumption) | assumption)
             have hx64 := bt_at t579 x121_3
             replace p64 := eq_true p64
             replace q64 := eq_true q64
             go_wp2
             go_roundg k3
             case measure => have := HJ4.out; have := HK2.out; have := HK3.out; omega
             case rel => exact ⟨(wrap64 (x121_3 + 1)), (by first | rfl | (simp; done) | (simp [*]; done)), H', ⟨by have := HJ4.out; have := HK2.out; have := HK3.out; omega⟩, ⟨by (with_reducible repeat (first | refine d1_ ?_ _ | refine d2_ ?_ | refine d3_ ?_ _)); exact BK577.out⟩, ⟨by (with_reducible repeat (first | refine d1_ ?_ _ | refine d2_ ?_ | refine d3_ ?_ _)); exact BK578.out⟩, ⟨by repeat (first | (with_reducible first | exact HB.out | apply b1_ | apply b2_ | apply b3_ | refine b4_ ?_ GE577.out | refine b4_ ?_ GE578.out) | exact HB.out)⟩⟩
           rw [if_neg c63] at H
           exact absurd H (by simp)
         rw [if_neg c62] at H
         exact absurd H (by simp)
       rw [if_neg c61] at H
       have c61b0 : decide (x121_3 < (t579.size : Int)) = false := decide_eq_false c61
       clear c61
       by_cases c66 : ((t579.toList == t580.toList) == x7_2) = true
       · rw [if_pos c66] at H
         have c66b0 : ((t579.toList == t580.toList) == x7_2) = true := c66
         (try (have c66b1 : decide ((t579.toList == t580.toList) = x7_2) = true := by simpa using c66))
         (try (have c66b2 : ((t579.toList == t580.toList) == x7_2) = true := by simpa using c66))
         clear c66
         replace H := Option.bind_eq_some_iff.mp H
         obtain ⟨t587, A670, H⟩ := H
         have A67 := am_ A670
         clear A670
         obtain rfl := Option.some.inj H
         go_wp2_with (first | (go_at_call 17; (with_reducible refine (cloisterlaw26_scriptFixed.calls  t587 _ ?side1 A67.out).mono ?_); (case side1 => exact sc.Env.below HE.out (by repeat (first | (with_reducible first | exact HB.out | apply b1_ | apply b2_ | apply b3_ | refine b4_ ?_ GE577.out | refine b4_ ?_ GE578.out) | exact HB.out))); rintro e w68 ⟨rfl, hb⟩; replace BK577 := am_ (blk_below (by (with_reducible repeat (first | refine d1_ ?_ _ | refine d2_ ?_ | refine d3_ ?_ _)); exact BK577.out) hb); replace BK578 := am_ (blk_below (by (with_reducible repeat (first | refine d1_ ?_ _ | refine d2_ ?_ | refine d3_ ?_ _)); exact BK578.out) hb); replace HB := am_ (below_step (by repeat (first | (with_reducible first | exact HB.out | apply b1_ | apply b2_ | apply b3_ | refine b4_ ?_ GE577.out | refine b4_ ?_ GE578.out) | exact HB.out)) hb); (try clear hb)))
         go_ret
         exact ⟨by first | rfl | (simp [errW_none, errW_some] <;> rfl) | (simp only [← hji47]; first | rfl | (simp [errW_none, errW_some] <;> rfl)) | (simp [*, errW_none, errW_some] <;> rfl), by repeat (first | (with_reducible first | exact HB.out | apply b1_ | apply b2_ | apply b3_ | refine b4_ ?_ GE577.out | refine b4_ ?_ GE578.out) | exact HB.out)⟩
       rw [if_neg c66] at H
       have c66b0 : ((t579.toList == t580.toList) == x7_2) = false := by simpa using c66
       (try (have c66b1 : decide ((t579.toList == t580.toList) = x7_2) = false := by simpa using c66))
       (try (have c66b2 : ((t579.toList == t580.toList) == x7_2) = false := by simpa using c66))
       (try (have c66b3 : ¬ ((t579.toList == t580.toList) = x7_2) := by simpa using c66))
       clear c66
       obtain rfl := Option.some.inj H
       go_wp2
       go_ret
       exact ⟨by first | rfl | (simp [errW_none, errW_some] <;> rfl) | (simp only [← hji47]; first | rfl | (simp [errW_none, errW_some] <;> rfl)) | (simp [*, errW_none, errW_some] <;> rfl), by repeat (first | (with_reducible first | exact HB.out | apply b1_ | apply b2_ | apply b3_ | refine b4_ ?_ GE577.out | refine b4_ ?_ GE578.out) | exact HB.out)⟩
end Go.Proofs.YtndbbgihpoiojaaGreatDoor.Q
namespace Go.Proofs.YtndbbgihpoiojaaGreatDoor.Q
open Go.RowKit Go.Proofs.YtndbbgihpoiojaaGreatDoorW.PrintWords Go.Proofs.YtndbbgihpoiojaaGreatDoorW.PrintLast Go.Proofs.YtndbbgihpoiojaaGreatDoorW.PrintMore
theorem bind_id {α : Type} (x : Option α) : (x.bind fun t => some t) = x := by cases x <;> rfl
def inI (x : Int) : Prop := -9223372036854775808 ≤ x ∧ x ≤ 9223372036854775807
theorem num_f {x : Int} (h : inI x) : script_number.f x = some (itoaB x) := by
 have h' : -9223372036854775808 ≤ x ∧ x ≤ 9223372036854775807 := h
 unfold script_number.f strconv_Itoa.f
 rw [if_pos h']
 rfl
theorem quo_f {x : ByteArray} (h : x.size ≤ 1099511627776) : script_Quote.f x = some (quoteB x) := by
 unfold script_Quote.f
 rw [if_pos h]
 rfl
def pairW (p : S62) : List ByteArray := [quoteB p.f0, quoteB (strOfNums p.f1)]
def txnW (d e : Int) : List ByteArray := if (!(d == 0) || (!(e == 0))) = true then [⟨#[116, 120, 110]⟩, itoaB d, itoaB e] else []
def foundW (b : Bool) : List ByteArray := if b = true then [⟨#[102, 111, 117, 110, 100]⟩] else []
def valueW (l : List Int) : List ByteArray := if (l.length : Int) > 0 then [⟨#[118, 97, 108, 117, 101]⟩, quoteB (strOfNums l)] else []
def headW (l : List S62) : List ByteArray := if (l.length : Int) > 0 then [⟨#[112, 97, 105, 114, 115]⟩, itoaB (l.length : Int)] else []
def moreW (b : Bool) : List ByteArray := if b = true then [⟨#[109, 111, 114, 101]⟩] else []
def stampW (x : Int) : List ByteArray := if x = 0 then [] else [⟨#[115, 116, 97, 109, 112]⟩, itoaB x]
def slotW (a b c : Int) : List ByteArray := [⟨#[115, 108, 111, 116]⟩, itoaB a, ⟨#[115, 101, 115, 115, 105, 111, 110]⟩, itoaB b, ⟨#[99, 111, 100, 101]⟩, itoaB c]
abbrev spB : ByteArray := ⟨#[32]⟩
abbrev LIM (n : Nat) : Prop := n < 8796093022208
theorem lim_le {n m : Nat} (h : LIM m) (hn : n ≤ m) : LIM n := Nat.lt_of_le_of_lt hn h
theorem pairs_len (ps : List S62) : (ps.flatMap pairW).length = 2 * ps.length := by
 induction ps with
 | nil => rfl
 | cons p ps ih => rw [List.flatMap_cons, List.length_append, ih]; show 2 + 2 * ps.length = 2 * (ps.length + 1); omega
section
variable (a b c d e : Int) (fd : Bool) (vl : List Int) (ps : List S62) (mo : Bool) (st : Int)
theorem s_j0 (k : Nat) (W : List ByteArray) (h : LIM W.length) : script_Tell.j0 (k + 1) W a b c d e fd vl ps mo st = script_Tell.j1 k (W ++ foundW fd) a b c d e fd vl ps mo st := by
 rw [script_Tell.j0]
 unfold foundW
 cases fd
 · rw [if_neg Bool.false_ne_true, if_neg Bool.false_ne_true, List.append_nil]
 rw [if_pos rfl, if_pos rfl, if_pos h]
theorem s_j1 (k : Nat) (W : List ByteArray) (h : LIM (W.length + 2)) (hv : (strOfNums vl).size ≤ 1099511627776) : script_Tell.j1 (k + 1) W a b c d e fd vl ps mo st = script_Tell.j2 k (W ++ valueW vl) a b c d e fd vl ps mo st := by
 rw [script_Tell.j1]
 unfold valueW
 split
 · rw [quo_f hv, Option.bind_some, Option.bind_some]
   exact if_pos h
 rw [List.append_nil]
theorem s_j2 (k : Nat) (W : List ByteArray) (h : LIM (W.length + 2)) (hp : inI (ps.length : Int)) : script_Tell.j2 (k + 1) W a b c d e fd vl ps mo st = script_Tell.j3 k (W ++ headW ps) a b c d e fd vl ps mo st := by
 rw [script_Tell.j2]
 unfold headW
 split
 · rw [num_f hp, Option.bind_some, Option.bind_some]
   exact if_pos h
 rw [List.append_nil]
theorem s_j5 (k : Nat) (W : List ByteArray) (h : LIM (W.length + 2)) (hp : inI st) : script_Tell.j5 (k + 1) W a b c d e fd vl ps mo st = strings_Join.f (W ++ stampW st) spB := by
 rw [script_Tell.j5]
 unfold stampW
 split
 · rw [List.append_nil]
   exact bind_id _
 rw [num_f hp, Option.bind_some, Option.bind_some]
 refine (if_pos h).trans ?_
 exact bind_id _
theorem s_end (k : Nat) (W : List ByteArray) (i : Nat) (hi : ps.length ≤ i) (h : LIM W.length) : script_Tell.l0 (k + 1) W ps (ps.length : Int) (i : Int) a b c d e fd vl ps mo st = script_Tell.j5 k (W ++ moreW mo) a b c d e fd vl ps mo st := by
 rw [script_Tell.l0, if_neg (by omega)]
 unfold moreW
 cases mo
 · rw [if_neg Bool.false_ne_true, if_neg Bool.false_ne_true, List.append_nil]
 rw [if_pos rfl, if_pos rfl, if_pos h]
theorem rd_at (i : Nat) (p : S62) (h : ps[i]? = some p) : rd_T62 ps (i : Int) = p := by
 unfold rd_T62
 rw [Int.toNat_natCast, List.getD_eq_getElem?_getD, h]
 rfl
theorem s_step (k : Nat) (W : List ByteArray) (i : Nat) (p : S62) (hp : ps[i]? = some p) (h0 : p.f0.size ≤ 1099511627776) (h1 : (strOfNums p.f1).size ≤ 1099511627776) (hi : i < 1099511627776) (h : LIM (W.length + 2)) :
 script_Tell.l0 (k + 1) W ps (ps.length : Int) (i : Int) a b c d e fd vl ps mo st = script_Tell.l0 k (W ++ pairW p) ps (ps.length : Int) ((i + 1 : Nat) : Int) a b c d e fd vl ps mo st := by
 have hl := (List.getElem?_eq_some_iff.1 hp).1
 rw [script_Tell.l0, if_pos (Int.ofNat_lt.2 hl), if_pos (Int.natCast_nonneg i), if_pos (Int.ofNat_lt.2 hl), rd_at ps i p hp, quo_f h0, Option.bind_some, quo_f h1, Option.bind_some, Option.bind_some]
 rw [if_pos (show W.length + [quoteB p.f0, quoteB (strOfNums p.f1)].length < 8796093022208 from h), w64 (by omega) (by omega)]
 rfl
theorem s_l0 (M : Nat) (hM : LIM M) (hps : ∀ p ∈ ps, p.f0.size ≤ 1099511627776 ∧ (strOfNums p.f1).size ≤ 1099511627776) (hn : ps.length ≤ 1099511627776) (k q : Nat) : ∀ (i : Nat) (W : List ByteArray), i + q = ps.length → W.length + 2 * q ≤ M →
 script_Tell.l0 (k + 1 + q) W ps (ps.length : Int) (i : Int) a b c d e fd vl ps mo st = script_Tell.j5 k (W ++ (ps.drop i).flatMap pairW ++ moreW mo) a b c d e fd vl ps mo st := by
 induction q with
 | zero =>
  intro i W hi hl
  rw [Nat.add_zero, s_end _ _ _ _ _ _ _ _ _ _ _ _ i (by omega) (lim_le hM (by omega)), List.drop_eq_nil_of_le (by omega), List.flatMap_nil, List.append_nil]
 | succ q ih =>
  intro i W hi hl
  have hlt : i < ps.length := by omega
  have hm := hps _ (List.getElem_mem hlt)
  rw [← Nat.add_assoc, s_step _ _ _ _ _ _ _ _ _ _ _ _ i ps[i] (List.getElem?_eq_getElem hlt) hm.1 hm.2 (by omega) (lim_le hM (by omega)), ih (i + 1) _ (by omega) (by rw [List.length_append]; show W.length + 2 + 2 * q ≤ M; omega), List.drop_eq_getElem_cons hlt, List.flatMap_cons]
  simp only [List.append_assoc]
def tellW : List ByteArray := slotW a b c ++ txnW d e ++ foundW fd ++ valueW vl ++ headW ps ++ ps.flatMap pairW ++ moreW mo ++ stampW st
theorem s_f (hab : inI a ∧ inI b ∧ inI c ∧ inI d ∧ inI e ∧ inI st) (M : Nat) (hM : LIM M) (hl : 17 + 2 * ps.length ≤ M) (hv : (strOfNums vl).size ≤ 1099511627776)
 (hps : ∀ p ∈ ps, p.f0.size ≤ 1099511627776 ∧ (strOfNums p.f1).size ≤ 1099511627776) (hn : ps.length ≤ 1099511627776) (k : Nat) :
 script_Tell.f (k + 1 + 1 + ps.length + 1 + 1 + 1 + 1) a b c d e fd vl ps mo st = strings_Join.f (tellW a b c d e fd vl ps mo st) spB := by
 obtain ⟨h1, h2, h3, h4, h5, h6⟩ := hab
 have hp : inI (ps.length : Int) := ⟨by omega, by omega⟩
 have lt : (txnW d e).length ≤ 3 := by unfold txnW; split <;> simp
 have lf : (foundW fd).length ≤ 1 := by unfold foundW; split <;> simp
 have lv : (valueW vl).length ≤ 2 := by unfold valueW; split <;> simp
 have lh : (headW ps).length ≤ 2 := by unfold headW; split <;> simp
 have lm : (moreW mo).length ≤ 1 := by unfold moreW; split <;> simp
 have ls : (slotW a b c).length = 6 := rfl
 have lp := pairs_len ps
 have hbase : script_Tell.f (k + 1 + 1 + ps.length + 1 + 1 + 1 + 1) a b c d e fd vl ps mo st = script_Tell.j0 (k + 1 + 1 + ps.length + 1 + 1 + 1 + 1) (slotW a b c ++ txnW d e) a b c d e fd vl ps mo st := by
  unfold script_Tell.f
  rw [num_f h1, Option.bind_some, num_f h2, Option.bind_some, num_f h3, Option.bind_some, Option.bind_some]
  unfold txnW
  split
  · rw [num_f h4, Option.bind_some, num_f h5, Option.bind_some, Option.bind_some]
    exact if_pos (lim_le hM (show 6 + 3 ≤ M by omega))
  rw [List.append_nil]
  rfl
 rw [hbase, s_j0, s_j1 (hv := hv), s_j2 (hp := hp), script_Tell.j3]
 · have := s_l0 a b c d e fd vl ps mo st M hM hps hn (k + 1) ps.length 0 (slotW a b c ++ txnW d e ++ foundW fd ++ valueW vl ++ headW ps) (by omega) (by simp only [List.length_append]; omega)
   rw [show ((0 : Nat) : Int) = 0 from rfl] at this
   rw [List.drop_zero] at this
   rw [this, s_j5 (hp := h6)]
   · rfl
   refine lim_le hM ?_
   simp only [List.length_append]
   omega
 · refine lim_le hM ?_
   simp only [List.length_append]
   omega
 · refine lim_le hM ?_
   simp only [List.length_append]
   omega
 refine lim_le hM ?_
 simp only [List.length_append]
 omega
theorem tellW_len (M : Nat) (hl : 17 + 2 * ps.length ≤ M) : (tellW a b c d e fd vl ps mo st).length ≤ M := by
 have lt : (txnW d e).length ≤ 3 := by unfold txnW; split <;> simp
 have lf : (foundW fd).length ≤ 1 := by unfold foundW; split <;> simp
 have lv : (valueW vl).length ≤ 2 := by unfold valueW; split <;> simp
 have lh : (headW ps).length ≤ 2 := by unfold headW; split <;> simp
 have lm : (moreW mo).length ≤ 1 := by unfold moreW; split <;> simp
 have l9 : (stampW st).length ≤ 2 := by unfold stampW; split <;> simp
 have ls : (slotW a b c).length = 6 := rfl
 have lp := pairs_len ps
 unfold tellW
 simp only [List.length_append]
 omega
end
end Go.Proofs.YtndbbgihpoiojaaGreatDoor.Q
namespace Go.Proofs.YtndbbgihpoiojaaGreatDoor.sc
open Go.RowKit
def Clean (b : UInt8) : Prop := 32 < b.toNat ∧ b.toNat ≠ 34 ∧ b.toNat ≠ 127
theorem enc_hi (r : Int) (h : 128 ≤ r) : ∀ b ∈ Lib.encodeRune r, 128 ≤ b.toNat := by
 intro b hb
 unfold Lib.encodeRune at hb
 obtain ⟨x, hx, rfl⟩ := List.mem_map.1 hb
 have hb := Lib.encodeRuneZ_byte r x hx
 have h1 : 128 ≤ x := by
  unfold Lib.encodeRuneZ at hx
  split at hx
  · omega
  split at hx
  · simp at hx; omega
  split at hx
  · simp at hx; omega
  split at hx
  · simp at hx; omega
  simp at hx; omega
 have e : x.toNat.toUInt8.toNat = x.toNat := by
  show x.toNat % 2 ^ 8 = x.toNat
  omega
 omega
theorem hexD_cases : ∀ k : Fin 16, hexV (hexD k.val) = some k.val ∧ 48 ≤ (hexD k.val).toNat ∧ (hexD k.val).toNat ≤ 70 := by decide +kernel
theorem hexV_D {k : Nat} (h : k < 16) : hexV (hexD k) = some k := (hexD_cases ⟨k, h⟩).1
theorem hexD_clean {k : Nat} (h : k < 16) : Clean (hexD k) := by
 have := (hexD_cases ⟨k, h⟩).2
 unfold Clean
 have e : (⟨k, h⟩ : Fin 16).val = k := rfl
 rw [e] at this
 omega
theorem hex_back (b : UInt8) : UInt8.ofNat (16 * (b.toNat / 16) + b.toNat % 16) = b := by
 have : 16 * (b.toNat / 16) + b.toNat % 16 = b.toNat := by omega
 rw [this]; simp
theorem unqL_pcts (t : List UInt8) : ∀ (l : List UInt8), unqL (l.flatMap pct ++ t) = (unqL t).map (l ++ ·)
 | [] => by cases h : unqL t <;> simp [h]
 | b :: l => by
  have hb := b.toNat_lt
  show unqL (37 :: hexD (b.toNat / 16) :: hexD (b.toNat % 16) :: (l.flatMap pct ++ t)) = _
  rw [unqL_pct, hexV_D (by omega), hexV_D (by omega)]
  show (unqL (l.flatMap pct ++ t)).map _ = _
  rw [unqL_pcts t l, hex_back]
  cases h : unqL t <;> simp
theorem unqL_plains (t : List UInt8) : ∀ (l : List UInt8), (∀ b ∈ l, b ≠ 37) → unqL (l ++ t) = (unqL t).map (l ++ ·)
 | [], _ => by cases h : unqL t <;> simp [h]
 | b :: l, hl => by
  rw [List.cons_append, unqL_plain _ (hl b (List.mem_cons_self ..)), unqL_plains t l (fun x hx => hl x (List.mem_cons_of_mem _ hx))]
  cases h : unqL t <;> simp
theorem ok_bytes (l : List UInt8) (hne : l ≠ []) (h : qok (Lib.decodeL l).1 (Lib.decodeL l).2 = true) : ∀ b ∈ l.take (Lib.decodeL l).2, Clean b ∧ b.toNat ≠ 37 := by
 intro b hb
 unfold qok at h
 simp only [Bool.and_eq_true, Bool.or_eq_true, bne_iff_ne, ne_eq, decide_eq_true_eq] at h
 by_cases h128 : 128 ≤ (Lib.decodeL l).1
 · have he := Lib.encode_decode l hne (by omega)
   rw [← he] at hb
   have := enc_hi _ (by omega) b hb
   unfold Clean
   omega
 cases l with
 | nil => exact absurd rfl hne
 | cons c l =>
  by_cases hc : c.toNat < 128
  · rw [Lib.decodeL_ascii c l hc] at h hb
    simp only [List.take_succ_cons, List.take_zero, List.mem_singleton] at hb
    subst hb
    simp only at h
    unfold Clean
    omega
  exfalso
  rw [Lib.decodeL_N] at h128
  have e : ((c :: l).getD 0 0).toNat = c.toNat := rfl
  rcases Lib.decodeN_shape (c :: l).length ((c :: l).getD 0 0).toNat ((c :: l).getD 1 0).toNat ((c :: l).getD 2 0).toNat ((c :: l).getD 3 0).toNat with ⟨c0, e1⟩ | ⟨_, _, _, _, e1⟩ | ⟨_, _, _, _, _, _, e1⟩ | ⟨_, _, _, _, _, _, _, e1⟩ | e1
  · omega
  all_goals (rw [e1] at h128; simp only at h128; omega)
theorem qform_clean (l : List UInt8) (hne : l ≠ []) : ∀ b ∈ qform l (Lib.decodeL l).1 (Lib.decodeL l).2, Clean b := by
 intro b hb
 unfold qform at hb
 split at hb
 · rename_i h; exact (ok_bytes l hne h b hb).1
 obtain ⟨x, hx, hb⟩ := List.mem_flatMap.1 hb
 have hx' := x.toNat_lt
 unfold pct at hb
 simp only [List.mem_cons, List.not_mem_nil, or_false] at hb
 rcases hb with rfl | rfl | rfl
 · exact ⟨by decide, by decide, by decide⟩
 · exact hexD_clean (by omega)
 exact hexD_clean (by omega)
theorem qform_back (l t : List UInt8) (hne : l ≠ []) : unqL (qform l (Lib.decodeL l).1 (Lib.decodeL l).2 ++ t) = (unqL t).map (l.take (Lib.decodeL l).2 ++ ·) := by
 unfold qform
 split
 · rename_i h
   refine unqL_plains t _ (fun b hb e => ?_)
   have := (ok_bytes l hne h b hb).2
   rw [e] at this
   exact this rfl
 exact unqL_pcts t _
theorem qt_ind {P : List UInt8 → Prop} (h0 : P []) (hs : ∀ l, l ≠ [] → P (l.drop (Lib.decodeL l).2) → P l) : ∀ l, P l := by
 have : ∀ (n : Nat) (l : List UInt8), l.length ≤ n → P l := by
  intro n
  induction n with
  | zero =>
   intro l h
   have : l = [] := List.length_eq_zero_iff.1 (by omega)
   rw [this]; exact h0
  | succ n ih =>
   intro l h
   by_cases hne : l = []
   · rw [hne]; exact h0
   have hw := width_posL l
   have hp := List.length_pos_iff.2 hne
   exact hs l hne (ih _ (by rw [List.length_drop]; omega))
 exact fun l => this l.length l (Nat.le_refl _)
theorem qt_clean : ∀ l, ∀ b ∈ qt l, Clean b := by
 refine qt_ind (by intro b hb; cases hb) (fun l hne ih b hb => ?_)
 rw [qt_step hne] at hb
 rcases List.mem_append.1 hb with hb | hb
 · exact qform_clean l hne b hb
 exact ih b hb
theorem unqL_qt : ∀ l, unqL (qt l) = some l := by
 refine qt_ind rfl (fun l hne ih => ?_)
 rw [qt_step hne, qform_back l _ hne, ih]
 simp
theorem quoteL_eq (l : List UInt8) : quoteL l = 34 :: (qt l ++ [34]) := rfl
theorem unquote_quote (l : List UInt8) : unquoteL (quoteL l) = some l := by
 unfold unquoteL
 rw [if_pos ⟨by rw [quoteL_eq]; simp, by rw [quoteL_eq]; rfl, by rw [quoteL_eq, ← List.cons_append, List.getLast?_append]; simp⟩]
 have e : ((quoteL l).drop 1).take ((quoteL l).length - 2) = qt l := by
  rw [quoteL_eq]
  simp
 rw [e, unqL_qt]
 simp
theorem quote_inj {a b : List UInt8} (h : quoteL a = quoteL b) : a = b := by
 have := unquote_quote a
 rw [h, unquote_quote] at this
 exact (Option.some.inj this).symm
theorem quote_clean (l : List UInt8) : ∀ b ∈ quoteL l, 32 < b.toNat ∧ b.toNat ≠ 127 := by
 intro b hb
 rw [quoteL_eq] at hb
 rcases List.mem_cons.1 hb with rfl | hb
 · exact ⟨by decide, by decide⟩
 rcases List.mem_append.1 hb with hb | hb
 · have := qt_clean l b hb; unfold Clean at this; omega
 rw [List.mem_singleton.1 hb]; exact ⟨by decide, by decide⟩
theorem parseUintM_append (M : Nat) (r : List UInt8) : ∀ (l : List UInt8) (acc : Nat), Lib.parseUintM M acc (l ++ r) = (match Lib.parseUintM M acc l with
 | .ok a => Lib.parseUintM M a r
 | e => e)
 | [], acc => rfl
 | c :: l, acc => by
  rw [List.cons_append, Lib.parseUintM, Lib.parseUintM]
  split
  · split
    · rfl
    split
    · rfl
    exact parseUintM_append M r l _
  rfl
theorem dig_nat (k : Nat) (h : k < 10) : (UInt8.ofNat (48 + k)).toNat = 48 + k := by
 show (48 + k) % 2 ^ 8 = _
 omega
theorem dec_step {u : Nat} (h : ¬ u < 10) : Lib.decDigits u = Lib.decDigits (u / 10) ++ [UInt8.ofNat (48 + u % 10)] := by
 rw [Lib.decDigits, dif_neg h]
theorem parse_dec : ∀ (n u : Nat), u < n → u ≤ 18446744073709551615 → Lib.parseUintM 18446744073709551615 0 (Lib.decDigits u) = .ok u := by
 intro n
 induction n with
 | zero => intro u h; omega
 | succ n ih =>
  intro u h hu
  by_cases h10 : u < 10
  · rw [Lib.decDigits_one h10, Lib.parseUintM, dig_nat u h10, if_pos (by omega), if_neg (by omega), if_neg (by omega), Lib.parseUintM]
    congr 1
    omega
  rw [dec_step h10, parseUintM_append, ih (u / 10) (by omega) (by omega)]
  show Lib.parseUintM _ (u / 10) [UInt8.ofNat (48 + u % 10)] = _
  rw [Lib.parseUintM, dig_nat (u % 10) (by omega), if_pos (by omega), if_neg (by omega), if_neg (by omega), Lib.parseUintM]
  congr 1
  omega
theorem dec_digits : ∀ (n u : Nat), u < n → ∀ b ∈ Lib.decDigits u, 48 ≤ b.toNat ∧ b.toNat ≤ 57 := by
 intro n
 induction n with
 | zero => intro u h; omega
 | succ n ih =>
  intro u h b hb
  by_cases h10 : u < 10
  · rw [Lib.decDigits_one h10, List.mem_singleton] at hb
    rw [hb, dig_nat u h10]; omega
  rw [dec_step h10] at hb
  rcases List.mem_append.1 hb with hb | hb
  · exact ih (u / 10) (by omega) b hb
  rw [List.mem_singleton.1 hb, dig_nat (u % 10) (by omega)]; omega
theorem dec_dig (u : Nat) : ∀ b ∈ Lib.decDigits u, 48 ≤ b.toNat ∧ b.toNat ≤ 57 := dec_digits (u + 1) u (by omega)
theorem dec_ne (u : Nat) : Lib.decDigits u ≠ [] := by
 intro h
 have := Lib.decDigits_length u
 rw [h] at this
 have := Lib.nDigits_pos u
 simp at *
 omega
theorem parseUintB_dec (u : Nat) (h : u ≤ 18446744073709551615) : Lib.parseUintB 64 (Lib.decDigits u) = .ok u := by
 unfold Lib.parseUintB
 rw [if_neg (dec_ne u)]
 exact parse_dec (u + 1) u (by omega) h
theorem parseIntB_itoa (n : Int) (h : InInt n) : Lib.parseIntB 64 (Lib.itoa n) = .ok n := by
 unfold InInt at h
 unfold Lib.itoa
 split
 · rw [Lib.parseIntB_minus, parseUintB_dec _ (by omega)]
   show Lib.signedC 9223372036854775808 _ = _
   unfold Lib.signedC
   simp only
   rw [if_neg (by omega)]
   congr 1
   omega
 have hd := dec_dig n.toNat
 have hp := parseUintB_dec n.toNat (by omega)
 cases hl : Lib.decDigits n.toNat with
 | nil => exact absurd hl (dec_ne _)
 | cons c r =>
  rw [hl] at hd hp
  have := hd c (List.mem_cons_self ..)
  rw [Lib.parseIntB_plain 64 c r (by omega) (by omega), hp]
  show Lib.signlessC 9223372036854775808 _ = _
  unfold Lib.signlessC
  simp only
  rw [if_neg (by omega)]
  congr 1
  omega
theorem numOf_iff (s : ByteArray) (n : Int) : numOf s = some n ↔ InInt n ∧ s.data.toList = Lib.itoa n := by
 constructor
 · intro h
   unfold numOf at h
   split at h
   · rename_i v hv
     split at h
     · rename_i e
       cases h
       have := Lib.parseIntB_bounds hv
       refine ⟨⟨?_, ?_⟩, e.symm⟩
       · have := this.1; simp at this; omega
       have := this.2; simp at this; omega
     cases h
   cases h
 rintro ⟨h, e⟩
 unfold numOf
 rw [e, parseIntB_itoa n h]
 simp
theorem itoa_clean (n : Int) : ∀ b ∈ Lib.itoa n, b.toNat = 45 ∨ (48 ≤ b.toNat ∧ b.toNat ≤ 57) := by
 intro b hb
 unfold Lib.itoa at hb
 split at hb
 · rcases List.mem_cons.1 hb with rfl | hb
   · exact .inl rfl
   exact .inr (dec_dig _ b hb)
 exact .inr (dec_dig _ b hb)
theorem itoa_ne (n : Int) : Lib.itoa n ≠ [] := by
 unfold Lib.itoa
 split
 · simp
 exact dec_ne _
end Go.Proofs.YtndbbgihpoiojaaGreatDoor.sc
namespace Go.Proofs.YtndbbgihpoiojaaGreatDoor.Q
open Go.RowKit
open Go.Proofs.YtndbbgihpoiojaaGreatDoor.it (linesS splitS splitF linesF wordsOfL trimL linesS_nil linesS_last linesS_cons splitS_last splitS_cons indexByte_lt extract_size')
theorem splitOn_miss {c : UInt8} : ∀ {l : List UInt8}, Lib.indexByte l c < 0 → splitOn c l = [l]
 | [], _ => rfl
 | b :: l, h => by
  unfold Lib.indexByte at h
  by_cases hb : b = c
  · subst hb; simp at h
  have h1 : Lib.indexByte l c < 0 := by
   have := Lib.indexByte_ge l c
   simp only [beq_iff_eq, hb, if_false] at h
   split at h
   · rename_i e; omega
   omega
  unfold splitOn
  rw [if_neg hb, splitOn_miss h1]
def wordsL (l : List UInt8) : List (List UInt8) := (splitOn 32 l).filter (!·.isEmpty)
theorem idx_none : ∀ {l : List UInt8} {c : UInt8}, c ∉ l → Lib.indexByte l c < 0
 | [], _, _ => by unfold Lib.indexByte; decide
 | b :: l, c, h => by
  have h1 : b ≠ c := fun e => h (by simp [e])
  have h2 := idx_none (l := l) (c := c) (fun e => h (List.mem_cons_of_mem _ e))
  have hge := Lib.indexByte_ge l c
  unfold Lib.indexByte
  simp only [beq_iff_eq, h1, if_false]
  rw [if_pos (by omega)]
  decide
theorem splitOn_app (c : UInt8) : ∀ (x t : List UInt8), c ∉ x → splitOn c (x ++ c :: t) = x :: splitOn c t
 | [], t, _ => by
  show splitOn c (c :: t) = _
  conv => lhs; unfold splitOn
  rw [if_pos rfl]
 | b :: x, t, h => by
  have h1 : b ≠ c := fun e => h (by simp [e])
  have ih := splitOn_app c x t (fun e => h (List.mem_cons_of_mem _ e))
  rw [List.cons_append, splitOn, if_neg h1, ih]
theorem splitOn_plain (c : UInt8) (x : List UInt8) (h : c ∉ x) : splitOn c x = [x] := splitOn_miss (idx_none h)
theorem split_join (c : UInt8) : ∀ (ws : List (List UInt8)), ws ≠ [] → (∀ x ∈ ws, c ∉ x) → splitOn c (Lib.join ws [c]) = ws
 | [], h, _ => absurd rfl h
 | [x], _, h => by rw [Lib.join_one, splitOn_plain c x (h x (List.mem_cons_self ..))]
 | x :: y :: r, _, h => by
  have e : Lib.join (x :: y :: r) [c] = x ++ c :: Lib.join (y :: r) [c] := by
   rw [Lib.join_cons, Lib.join_cons]
   simp [Lib.joinTail]
  rw [e, splitOn_app c x _ (h x (List.mem_cons_self ..)), split_join c (y :: r) (by simp) (fun z hz => h z (List.mem_cons_of_mem _ hz))]
theorem words_join (ws : List (List UInt8)) (h : ∀ x ∈ ws, (32 : UInt8) ∉ x ∧ x ≠ []) : wordsL (Lib.join ws [32]) = ws := by
 by_cases hn : ws = []
 · subst hn; rfl
 unfold wordsL
 rw [split_join 32 ws hn (fun x hx => (h x hx).1), List.filter_eq_self]
 intro x hx
 have := (h x hx).2
 cases x with
 | nil => exact absurd rfl this
 | cons a x => rfl
theorem join_notin (c d : UInt8) (hcd : d ≠ c) : ∀ (ws : List (List UInt8)), (∀ x ∈ ws, d ∉ x) → d ∉ Lib.join ws [c]
 | [], _ => by simp [Lib.join_nil]
 | x :: r, h => by
  rw [Lib.join_cons]
  intro hd
  rcases List.mem_append.1 hd with hd | hd
  · exact h x (List.mem_cons_self ..) hd
  unfold Lib.joinTail at hd
  rw [List.mem_flatten] at hd
  obtain ⟨l, hl, hd⟩ := hd
  obtain ⟨y, hy, rfl⟩ := List.mem_map.1 hl
  rcases List.mem_append.1 hd with hd | hd
  · simp at hd; exact hcd hd
  exact h y (List.mem_cons_of_mem _ hy) hd
theorem data_inj {a b : List ByteArray} (h : a.map (·.data.toList) = b.map (·.data.toList)) : a = b := by
 induction a generalizing b with
 | nil => cases b with
  | nil => rfl
  | cons y b => simp at h
 | cons x a ih => cases b with
  | nil => simp at h
  | cons y b =>
   simp only [List.map_cons, List.cons.injEq] at h
   rw [ih h.2, ba_ext h.1]
end Go.Proofs.YtndbbgihpoiojaaGreatDoor.Q
namespace Go.Proofs.YtndbbgihpoiojaaGreatDoor.Q
open Go.RowKit
theorem num_iff (s : ByteArray) (n : Int) : sc.numOf s = some n ↔ sc.InInt n ∧ s = itoaB n := by
 rw [sc.numOf_iff]
 exact ⟨fun h => ⟨h.1, ba_ext h.2⟩, fun h => ⟨h.1, by rw [h.2]; rfl⟩⟩
theorem num_of {n : Int} (h : sc.InInt n) : sc.numOf (itoaB n) = some n := (num_iff _ _).2 ⟨h, rfl⟩
end Go.Proofs.YtndbbgihpoiojaaGreatDoor.Q
namespace Go.Proofs.YtndbbgihpoiojaaGreatDoor.Q
open Go.RowKit Go.Proofs.YtndbbgihpoiojaaGreatDoorW.PrintWords Go.Proofs.YtndbbgihpoiojaaGreatDoorW.PrintLast
def WdOK (x : ByteArray) : Prop := x.data.toList ≠ [] ∧ ∀ b ∈ x.data.toList, 32 < b.toNat
theorem itoa_wd (n : Int) : WdOK (itoaB n) := ⟨sc.itoa_ne n, fun b hb => by
 have := sc.itoa_clean n b hb
 omega⟩
theorem quote_wd (x : ByteArray) : WdOK (quoteB x) := ⟨by
 show sc.quoteL x.data.toList ≠ []
 rw [sc.quoteL_eq]
 exact List.cons_ne_nil _ _, fun b hb => (sc.quote_clean x.data.toList b hb).1⟩
theorem lit_wd (l : List UInt8) (h : (!l.isEmpty && l.all (fun b => decide (32 < b.toNat))) = true) : WdOK ⟨l.toArray⟩ := by
 rw [Bool.and_eq_true, List.all_eq_true] at h
 exact ⟨fun e => by
  have e' : l = [] := e
  rw [e'] at h
  exact absurd h.1 (by decide), fun b hb => of_decide_eq_true (h.2 b hb)⟩
theorem tellW_wd (a b c d e : Int) (fd : Bool) (vl : List Int) (ps : List S62) (mo : Bool) (st : Int) : ∀ x ∈ tellW a b c d e fd vl ps mo st, WdOK x := by
 intro x hx
 unfold tellW at hx
 simp only [List.mem_append] at hx
 rcases hx with ((((((hx | hx) | hx) | hx) | hx) | hx) | hx) | hx
 · unfold slotW at hx
   simp only [List.mem_cons, List.not_mem_nil, or_false] at hx
   rcases hx with rfl | rfl | rfl | rfl | rfl | rfl
   · exact lit_wd _ (by decide)
   · exact itoa_wd _
   · exact lit_wd _ (by decide)
   · exact itoa_wd _
   · exact lit_wd _ (by decide)
   exact itoa_wd _
 · unfold txnW at hx
   split at hx
   · simp only [List.mem_cons, List.not_mem_nil, or_false] at hx
     rcases hx with rfl | rfl | rfl
     · exact lit_wd _ (by decide)
     · exact itoa_wd _
     exact itoa_wd _
   cases hx
 · unfold foundW at hx
   split at hx
   · simp only [List.mem_cons, List.not_mem_nil, or_false] at hx
     rw [hx]; exact lit_wd _ (by decide)
   cases hx
 · unfold valueW at hx
   split at hx
   · simp only [List.mem_cons, List.not_mem_nil, or_false] at hx
     rcases hx with rfl | rfl
     · exact lit_wd _ (by decide)
     exact quote_wd _
   cases hx
 · unfold headW at hx
   split at hx
   · simp only [List.mem_cons, List.not_mem_nil, or_false] at hx
     rcases hx with rfl | rfl
     · exact lit_wd _ (by decide)
     exact itoa_wd _
   cases hx
 · obtain ⟨p, _, hx⟩ := List.mem_flatMap.1 hx
   unfold pairW at hx
   simp only [List.mem_cons, List.not_mem_nil, or_false] at hx
   rcases hx with rfl | rfl
   · exact quote_wd _
   exact quote_wd _
 · unfold moreW at hx
   split at hx
   · simp only [List.mem_cons, List.not_mem_nil, or_false] at hx
     rw [hx]; exact lit_wd _ (by decide)
   cases hx
 unfold stampW at hx
 split at hx
 · cases hx
 simp only [List.mem_cons, List.not_mem_nil, or_false] at hx
 rcases hx with rfl | rfl
 · exact lit_wd _ (by decide)
 exact itoa_wd _
theorem joinB_data (ws : List ByteArray) : (joinB ws spB).data.toList = Lib.join (ws.map (·.data.toList)) [32] := rfl
theorem line_inj {ws us : List ByteArray} (hw : ∀ x ∈ ws, WdOK x) (hu : ∀ x ∈ us, WdOK x) (h : joinB ws spB = joinB us spB) : ws = us := by
 have key : ∀ vs : List ByteArray, (∀ x ∈ vs, WdOK x) → wordsL (joinB vs spB).data.toList = vs.map (·.data.toList) := fun vs hv => by
  rw [joinB_data]
  refine words_join _ (fun x hx => ?_)
  obtain ⟨y, hy, rfl⟩ := List.mem_map.1 hx
  refine ⟨fun hm => ?_, (hv y hy).1⟩
  have := (hv y hy).2 _ hm
  exact absurd this (by decide)
 have h1 := key ws hw
 rw [h, key us hu] at h1
 exact (data_inj h1).symm
theorem line_nonl {ws : List ByteArray} (hw : ∀ x ∈ ws, WdOK x) : (10 : UInt8) ∉ (joinB ws spB).data.toList := by
 rw [joinB_data]
 refine join_notin 32 10 (by decide) _ (fun x hx hm => ?_)
 obtain ⟨y, hy, rfl⟩ := List.mem_map.1 hx
 exact absurd ((hw y hy).2 _ hm) (by decide)
theorem hd_app {X Y : List ByteArray} {k : ByteArray} (hX : X.head? ≠ some k) (hY : Y.head? ≠ some k) : (X ++ Y).head? ≠ some k := by
 cases X with
 | nil => exact hY
 | cons x X => exact hX
theorem seg {X X' Y Y' : List ByteArray} {k : ByteArray} {n : Nat} (hX : X = [] ∨ ∃ t, X = k :: t ∧ t.length = n) (hX' : X' = [] ∨ ∃ t, X' = k :: t ∧ t.length = n) (hY : Y.head? ≠ some k) (hY' : Y'.head? ≠ some k) (h : X ++ Y = X' ++ Y') : X = X' ∧ Y = Y' := by
 rcases hX with rfl | ⟨t, rfl, ht⟩
 · rcases hX' with rfl | ⟨t', rfl, ht'⟩
   · exact ⟨rfl, h⟩
   exact absurd (show Y.head? = some k by rw [show Y = _ from h]; rfl) hY
 rcases hX' with rfl | ⟨t', rfl, ht'⟩
 · exact absurd (show Y'.head? = some k by rw [← show _ = Y' from h]; rfl) hY'
 exact List.append_inj h (by simp [ht, ht'])
abbrev kTxn : ByteArray := ⟨#[116, 120, 110]⟩
abbrev kFound : ByteArray := ⟨#[102, 111, 117, 110, 100]⟩
abbrev kValue : ByteArray := ⟨#[118, 97, 108, 117, 101]⟩
abbrev kPairs : ByteArray := ⟨#[112, 97, 105, 114, 115]⟩
abbrev kMore : ByteArray := ⟨#[109, 111, 114, 101]⟩
abbrev kStamp : ByteArray := ⟨#[115, 116, 97, 109, 112]⟩
theorem txn_seg (d e : Int) : txnW d e = [] ∨ ∃ t, txnW d e = kTxn :: t ∧ t.length = 2 := by
 unfold txnW; split
 · exact .inr ⟨_, rfl, rfl⟩
 exact .inl rfl
theorem found_seg (b : Bool) : foundW b = [] ∨ ∃ t, foundW b = kFound :: t ∧ t.length = 0 := by
 unfold foundW; split
 · exact .inr ⟨_, rfl, rfl⟩
 exact .inl rfl
theorem value_seg (l : List Int) : valueW l = [] ∨ ∃ t, valueW l = kValue :: t ∧ t.length = 1 := by
 unfold valueW; split
 · exact .inr ⟨_, rfl, rfl⟩
 exact .inl rfl
theorem head_seg (l : List S62) : headW l = [] ∨ ∃ t, headW l = kPairs :: t ∧ t.length = 1 := by
 unfold headW; split
 · exact .inr ⟨_, rfl, rfl⟩
 exact .inl rfl
theorem more_seg (b : Bool) : moreW b = [] ∨ ∃ t, moreW b = kMore :: t ∧ t.length = 0 := by
 unfold moreW; split
 · exact .inr ⟨_, rfl, rfl⟩
 exact .inl rfl
theorem stamp_seg (x : Int) : stampW x = [] ∨ ∃ t, stampW x = kStamp :: t ∧ t.length = 1 := by
 unfold stampW; split
 · exact .inl rfl
 exact .inr ⟨_, rfl, rfl⟩
theorem seg_hd {X : List ByteArray} {k k' : ByteArray} {n : Nat} (hX : X = [] ∨ ∃ t, X = k :: t ∧ t.length = n) (hk : k ≠ k') : X.head? ≠ some k' := by
 rcases hX with rfl | ⟨t, rfl, _⟩
 · exact fun e => by cases e
 exact fun e => hk (Option.some.inj e)
theorem pairs_hd (ps : List S62) (k : ByteArray) (hk : k.data.toList.head? ≠ some 34) : (ps.flatMap pairW).head? ≠ some k := by
 cases ps with
 | nil => exact fun e => by cases e
 | cons p ps =>
  intro e
  have e1 : some (quoteB p.f0) = some k := e
  apply hk
  rw [← Option.some.inj e1]
  show (sc.quoteL p.f0.data.toList).head? = _
  rw [sc.quoteL_eq]
  rfl
theorem itoa_inj {a b : Int} (ha : inI a) (hb : inI b) (h : itoaB a = itoaB b) : a = b := by
 have h1 : sc.numOf (itoaB a) = some a := num_of ha
 rw [h, num_of hb] at h1
 exact (Option.some.inj h1).symm
theorem quoteB_inj {a b : ByteArray} (h : quoteB a = quoteB b) : a = b := by
 have h1 : sc.quoteL a.data.toList = sc.quoteL b.data.toList := congrArg (fun x : ByteArray => x.data.toList) h
 exact ba_ext (sc.quote_inj h1)
theorem strOf_inj : ∀ {l m : List Int}, (∀ x ∈ l, 0 ≤ x ∧ x ≤ 255) → (∀ x ∈ m, 0 ≤ x ∧ x ≤ 255) → strOfNums l = strOfNums m → l = m := by
 intro l m hl hm h
 have h1 : l.map (fun n => UInt8.ofNat n.toNat) = m.map (fun n => UInt8.ofNat n.toNat) := congrArg (fun x : ByteArray => x.data.toList) h
 clear h
 induction l generalizing m with
 | nil => cases m with
  | nil => rfl
  | cons y m => cases h1
 | cons x l ih => cases m with
  | nil => cases h1
  | cons y m =>
   simp only [List.map_cons, List.cons.injEq] at h1
   have hx := hl x (.head _)
   have hy := hm y (.head _)
   have e : x.toNat % 256 = y.toNat % 256 := congrArg UInt8.toNat h1.1
   rw [show x = y by omega, ih (fun z hz => hl z (.tail _ hz)) (fun z hz => hm z (.tail _ hz)) h1.2]
theorem pairs_inj : ∀ {ps qs : List S62}, (∀ p ∈ ps, ∀ x ∈ p.f1, 0 ≤ x ∧ x ≤ 255) → (∀ p ∈ qs, ∀ x ∈ p.f1, 0 ≤ x ∧ x ≤ 255) → ps.flatMap pairW = qs.flatMap pairW → ps = qs
 | [], [], _, _, _ => rfl
 | [], q :: qs, _, _, h => by cases h
 | p :: ps, [], _, _, h => by cases h
 | p :: ps, q :: qs, hp, hq, h => by
  have h' : quoteB p.f0 :: quoteB (strOfNums p.f1) :: ps.flatMap pairW = quoteB q.f0 :: quoteB (strOfNums q.f1) :: qs.flatMap pairW := h
  simp only [List.cons.injEq] at h'
  obtain ⟨h1, h2, h3⟩ := h'
  have e0 := quoteB_inj h1
  have e1 := strOf_inj (hp p (.head _)) (hq q (.head _)) (quoteB_inj h2)
  have e2 : p = q := by
   cases p; cases q
   simp only at e0 e1
   rw [e0, e1]
  rw [e2, pairs_inj (fun z hz => hp z (.tail _ hz)) (fun z hz => hq z (.tail _ hz)) h3]
theorem tell_inj {a b c d e st a' b' c' d' e' st' : Int} {fd fd' mo mo' : Bool} {vl vl' : List Int} {ps ps' : List S62}
 (h : inI a ∧ inI b ∧ inI c ∧ inI d ∧ inI e ∧ inI st) (h' : inI a' ∧ inI b' ∧ inI c' ∧ inI d' ∧ inI e' ∧ inI st')
 (hv : ∀ x ∈ vl, 0 ≤ x ∧ x ≤ 255) (hv' : ∀ x ∈ vl', 0 ≤ x ∧ x ≤ 255) (hp : ∀ p ∈ ps, ∀ x ∈ p.f1, 0 ≤ x ∧ x ≤ 255) (hp' : ∀ p ∈ ps', ∀ x ∈ p.f1, 0 ≤ x ∧ x ≤ 255)
 (hn : inI (ps.length : Int)) (hn' : inI (ps'.length : Int))
 (he : joinB (tellW a b c d e fd vl ps mo st) spB = joinB (tellW a' b' c' d' e' fd' vl' ps' mo' st') spB) :
 a = a' ∧ b = b' ∧ c = c' ∧ d = d' ∧ e = e' ∧ fd = fd' ∧ vl = vl' ∧ ps = ps' ∧ mo = mo' ∧ st = st' := by
 obtain ⟨i1, i2, i3, i4, i5, i6⟩ := h
 obtain ⟨j1, j2, j3, j4, j5, j6⟩ := h'
 have hw := line_inj (tellW_wd _ _ _ _ _ _ _ _ _ _) (tellW_wd _ _ _ _ _ _ _ _ _ _) he
 unfold tellW at hw
 simp only [List.append_assoc] at hw
 obtain ⟨s0, hw⟩ := List.append_inj hw (by rfl)
 have hS : ∀ (x : Int) (k : ByteArray), kStamp ≠ k → (stampW x).head? ≠ some k := fun x k hk => seg_hd (stamp_seg x) hk
 have hM : ∀ (m : Bool) (x : Int) (k : ByteArray), kMore ≠ k → kStamp ≠ k → (moreW m ++ stampW x).head? ≠ some k := fun m x k h1 h2 => hd_app (seg_hd (more_seg m) h1) (hS x k h2)
 have hP : ∀ (q : List S62) (m : Bool) (x : Int) (k : ByteArray), k.data.toList.head? ≠ some 34 → kMore ≠ k → kStamp ≠ k → (q.flatMap pairW ++ (moreW m ++ stampW x)).head? ≠ some k := fun q m x k h0 h1 h2 => hd_app (pairs_hd q k h0) (hM m x k h1 h2)
 have hH : ∀ (q : List S62) (m : Bool) (x : Int) (k : ByteArray), kPairs ≠ k → k.data.toList.head? ≠ some 34 → kMore ≠ k → kStamp ≠ k → (headW q ++ (q.flatMap pairW ++ (moreW m ++ stampW x))).head? ≠ some k := fun q m x k h3 h0 h1 h2 => hd_app (seg_hd (head_seg q) h3) (hP q m x k h0 h1 h2)
 have hV : ∀ (v : List Int) (q : List S62) (m : Bool) (x : Int) (k : ByteArray), kValue ≠ k → kPairs ≠ k → k.data.toList.head? ≠ some 34 → kMore ≠ k → kStamp ≠ k → (valueW v ++ (headW q ++ (q.flatMap pairW ++ (moreW m ++ stampW x)))).head? ≠ some k := fun v q m x k h4 h3 h0 h1 h2 => hd_app (seg_hd (value_seg v) h4) (hH q m x k h3 h0 h1 h2)
 have hF : ∀ (f : Bool) (v : List Int) (q : List S62) (m : Bool) (x : Int) (k : ByteArray), kFound ≠ k → kValue ≠ k → kPairs ≠ k → k.data.toList.head? ≠ some 34 → kMore ≠ k → kStamp ≠ k → (foundW f ++ (valueW v ++ (headW q ++ (q.flatMap pairW ++ (moreW m ++ stampW x))))).head? ≠ some k := fun f v q m x k h5 h4 h3 h0 h1 h2 => hd_app (seg_hd (found_seg f) h5) (hV v q m x k h4 h3 h0 h1 h2)
 obtain ⟨s1, hw⟩ := seg (txn_seg d e) (txn_seg d' e') (hF _ _ _ _ _ _ (by decide) (by decide) (by decide) (by decide) (by decide) (by decide)) (hF _ _ _ _ _ _ (by decide) (by decide) (by decide) (by decide) (by decide) (by decide)) hw
 obtain ⟨s2, hw⟩ := seg (found_seg fd) (found_seg fd') (hV _ _ _ _ _ (by decide) (by decide) (by decide) (by decide) (by decide)) (hV _ _ _ _ _ (by decide) (by decide) (by decide) (by decide) (by decide)) hw
 obtain ⟨s3, hw⟩ := seg (value_seg vl) (value_seg vl') (hH _ _ _ _ (by decide) (by decide) (by decide) (by decide)) (hH _ _ _ _ (by decide) (by decide) (by decide) (by decide)) hw
 obtain ⟨s4, hw⟩ := seg (head_seg ps) (head_seg ps') (hP _ _ _ _ (by decide) (by decide) (by decide)) (hP _ _ _ _ (by decide) (by decide) (by decide)) hw
 have hlen : ps.length = ps'.length := by
  unfold headW at s4
  split at s4
  · split at s4
    · simp only [List.cons.injEq, and_true, true_and] at s4
      have := itoa_inj hn hn' s4
      omega
    cases s4
  split at s4
  · cases s4
  omega
 obtain ⟨s5, hw⟩ := List.append_inj hw (by rw [pairs_len, pairs_len, hlen])
 obtain ⟨s6, s7⟩ := seg (more_seg mo) (more_seg mo') (hS _ _ (by decide)) (hS _ _ (by decide)) hw
 unfold slotW at s0
 simp only [List.cons.injEq, and_true, true_and] at s0
 obtain ⟨e1, e2, e3⟩ := s0
 have hde : d = d' ∧ e = e' := by
  unfold txnW at s1
  split at s1
  · split at s1
    · simp only [List.cons.injEq, and_true, true_and] at s1
      exact ⟨itoa_inj i4 j4 s1.1, itoa_inj i5 j5 s1.2⟩
    cases s1
  rename_i g1
  split at s1
  · cases s1
  rename_i g2
  simp only [Bool.not_eq_true, Bool.or_eq_false_iff, Bool.not_eq_false', beq_iff_eq] at g1 g2
  exact ⟨g1.1.trans g2.1.symm, g1.2.trans g2.2.symm⟩
 have hfd : fd = fd' := by
  unfold foundW at s2
  cases fd <;> cases fd' <;> first | rfl | cases s2
 have hvl : vl = vl' := by
  unfold valueW at s3
  split at s3
  · split at s3
    · simp only [List.cons.injEq, and_true, true_and] at s3
      exact strOf_inj hv hv' (quoteB_inj s3)
    cases s3
  rename_i g1
  split at s3
  · cases s3
  rename_i g2
  rw [List.eq_nil_of_length_eq_zero (show vl.length = 0 by omega), List.eq_nil_of_length_eq_zero (show vl'.length = 0 by omega)]
 have hmo : mo = mo' := by
  unfold moreW at s6
  cases mo <;> cases mo' <;> first | rfl | cases s6
 have hst : st = st' := by
  unfold stampW at s7
  split at s7
  · rename_i g1
    split at s7
    · rename_i g2; rw [g1, g2]
    cases s7
  split at s7
  · cases s7
  simp only [List.cons.injEq, and_true, true_and] at s7
  exact itoa_inj i6 j6 s7
 exact ⟨itoa_inj i1 j1 e1, itoa_inj i2 j2 e2, itoa_inj i3 j3 e3, hde.1, hde.2, hfd, hvl, pairs_inj hp hp' s5, hmo, hst⟩
end Go.Proofs.YtndbbgihpoiojaaGreatDoor.Q
namespace Go.Proofs.YtndbbgihpoiojaaGreatDoor.ev
open Go.RowKit Go.Lib
abbrev laidL : List (String × DataW Unit) := Rows.scriptQuotesRow.laid
theorem pow_eq : (Rows.laid_internal_strconv_uint64pow10 : DataW Unit) = tabData .u64 Lib.pow10Tab := by kernel_rfl
theorem acc_eq : (Rows.laid_unicode_utf8_acceptRanges : DataW Unit) = acceptData := by kernel_rfl
theorem first_eq : Rows.laid_unicode_utf8_first = firstData := Pinned.utf8First_eq
theorem nm0 : Tryz.prog.globalNamed "unicode/utf8.first" = some 0 := by kernel_rfl
theorem nm1 : Tryz.prog.globalNamed "unicode/utf8.acceptRanges" = some 1 := by kernel_rfl
theorem nm2 : Tryz.prog.globalNamed "internal/strconv.uint64pow10" = some 2 := by kernel_rfl
theorem nm6 : Tryz.prog.globalNamed "strconv.ErrSyntax" = some 6 := by kernel_rfl
theorem nm7 : Tryz.prog.globalNamed "strconv.ErrRange" = some 7 := by kernel_rfl
theorem ty2 : (Tryz.prog.globals[2]?).map (·.type) = some 163 := by kernel_rfl
theorem ty6 : (Tryz.prog.globals[6]?).map (·.type) = some 117 := by kernel_rfl
theorem ty7 : (Tryz.prog.globals[7]?).map (·.type) = some 117 := by kernel_rfl
theorem cells163 : Tryz.prog.cellsOf 163 = 20 := by kernel_rfl
theorem cellsU64 : Tryz.prog.cellsOf 67 = 1 := by kernel_rfl
theorem u8extra : U8Extra Tryz.prog Tryz.lays260_ren where
 n3 := nm0
 n4 := nm1
 y3 := by kernel_rfl
 y4 := by kernel_rfl
 c5 := by kernel_rfl
 c119 := by kernel_rfl
 c138 := by kernel_rfl
theorem iface_at {W : World} {n : String} {d : DataW Unit} {g : Nat} {nm : String} {d' : DataW Unit} (h : VarReads Tryz.prog W n d) (hd : d = .iface nm d') (hg : Tryz.prog.globalNamed n = some g) (ht : (Tryz.prog.globals[g]?).map (·.type) = some 117) : ∃ te pe, W.cell? ⟨g, 0, none⟩ = some (.iface te pe) := by
 subst hd
 obtain ⟨g', t, cs, fuel, p, hg', hty, hvar, hd⟩ := h
 obtain rfl := Option.some.inj (hg.symm.trans hg')
 obtain rfl := Option.some.inj (ht.symm.trans hty)
 obtain ⟨f1, u, v, hcs, _, _⟩ := iface_of_trod Tryz.underlying117 hd
 refine ⟨u, v, ?_⟩
 rw [World.var?_cell hg hvar 0, ← Array.getElem?_toList, hcs]
 rfl
theorem env_of {W : World} (hL : laidMet Tryz.prog laidL W) (hsh : W.ShapedOpen Tryz.prog) : sc.Env W where
 pow := by
  have h := Go.Lib.laidMet.reads hL (n := "internal/strconv.uint64pow10") (d := Rows.laid_internal_strconv_uint64pow10) (.tail _ (.tail _ (.head _)))
  rw [pow_eq] at h
  obtain ⟨g, t, cs, fuel, p, hg, hty, hvar, hd⟩ := h
  obtain rfl := Option.some.inj (nm2.symm.trans hg)
  obtain rfl := Option.some.inj (ty2.symm.trans hty)
  have hcs := cells_of_tab Tryz.underlying163 Tryz.underlying67 cellsU64 cells163 hd
  unfold TabIs
  rw [hvar, ← hcs]
 utf := by
  have h3 := Go.Lib.laidMet.reads hL (n := "unicode/utf8.first") (d := Rows.laid_unicode_utf8_first) (.tail _ (.tail _ (.tail _ (.tail _ (.tail _ (.tail _ (.head _)))))))
  have h4 := Go.Lib.laidMet.reads hL (n := "unicode/utf8.acceptRanges") (d := Rows.laid_unicode_utf8_acceptRanges) (.tail _ (.tail _ (.tail _ (.head _))))
  rw [first_eq] at h3
  rw [acc_eq] at h4
  exact utf8Tabs_of_readsT (U8Types.of260 Tryz.lays260) u8extra h3 h4
 max := Go.Proofs.cell_of_shapedOpen_int (zero := #[.int .i64 0]) (t := 3) hsh (of_decide_eq_true (by kernel_rfl)) (by kernel_rfl) rfl (by kernel_rfl) (by kernel_rfl) Tryz.underlying3
 syn := iface_at (Go.Lib.laidMet.reads hL (n := "strconv.ErrSyntax") (d := Rows.laid_strconv_ErrSyntax) (.tail _ (.tail _ (.tail _ (.tail _ (.tail _ (.head _))))))) rfl nm6 ty6
 rng := iface_at (Go.Lib.laidMet.reads hL (n := "strconv.ErrRange") (d := Rows.laid_strconv_ErrRange) (.tail _ (.tail _ (.tail _ (.tail _ (.head _)))))) rfl nm7 ty7
theorem own : ownKnob Tryz.prog.godebug = none := by kernel_rfl
abbrev synS : ByteArray := { data := #[105, 110, 118, 97, 108, 105, 100, 32, 115, 121, 110, 116, 97, 120] }
abbrev rngS : ByteArray := { data := #[118, 97, 108, 117, 101, 32, 111, 117, 116, 32, 111, 102, 32, 114, 97, 110, 103, 101] }
noncomputable def low : Nat := (World.holding Tryz.prog default ⟨#[], #[], []⟩).heap.size
def put (cs : Array Value) : Obj → Obj
 | .cells _ t frozen => .cells cs t frozen
 | o => o
def flat : DataW Unit → List Value
 | .agg l => l.flatMap fun d => match d with
  | .lit (.int k z) => [.int k z]
  | .agg m => m.flatMap fun d => match d with
   | .lit (.int k z) => [.int k z]
   | _ => []
  | _ => []
 | _ => []
noncomputable def laidWorld (os : Os) : World :=
 let w0 := World.holding Tryz.prog os ⟨#[.cells #[.string synS] 195, .cells #[.string rngS] 195], #[], []⟩
 { w0 with heap := (((((((w0.heap.modify 0 (put (flat firstData).toArray)).modify 1 (put (flat acceptData).toArray)).modify 2 (put (flat (tabData .u64 Lib.pow10Tab)).toArray)).modify 4 (put (flat Rows.laid_math_bits_deBruijn32tab).toArray)).modify 5 (put (flat Rows.laid_math_bits_deBruijn64tab).toArray)).modify 6 (put #[.iface 193 (.pointer (some ⟨low, 0, none⟩))])).modify 7 (put #[.iface 193 (.pointer (some ⟨low + 1, 0, none⟩))])) }
theorem laidWorld_met (os : Os) (args : Array Value) : laidMet Tryz.prog laidL ((laidWorld os).forCall (fun _ _ => 0) ⟨#[], args, []⟩).memory :=
 laidMet_of_run' 8 (by kernel_rfl) (by kernel_rfl)
theorem laidWorld_metH (os : Os) (args : Array Value) : laidMetH Tryz.prog laidL ((laidWorld os).forCall (fun _ _ => 0) ⟨#[], args, []⟩).memory := by
 rw [Go.MakeChecks.laidMetH_plain _ _ _ (by kernel_rfl)]
 exact laidWorld_met os args
end Go.Proofs.YtndbbgihpoiojaaGreatDoor.ev
namespace Go.Proofs.YtndbbgihpoiojaaGreatDoor.ev
open Go.RowKit Go.Lib Go.ChangeShapes Go.Proofs.YtndbbgihpoiojaaGreatDoorW.PrintWords Go.Proofs.YtndbbgihpoiojaaGreatDoor.Q
def Opens {α : Type} (d : Kd α) (t : TypeId) (wf : α → Prop) (wt : α → Nat) : Prop :=
 ∀ (H : Type) (enc : TypeId × Value → H) (w : World) (base : Nat) (sp : Nat → Bool) (held : Bool) (fuel : Nat) (cs : List Value) (x : DataW H × List MemPlace),
  DataW.trod enc Tryz.prog w base sp held fuel t cs = some x → ∃ a : α, d.K w a cs ∧ wf a ∧ wt a ≤ Rows.uptoBulk x.1
def InK (k : IntKind) (n : Int) : Prop := k.min ≤ n ∧ n ≤ k.max
theorem opens_int {t : TypeId} {k : IntKind} (ht : Tryz.prog.underlying t = some (.int k)) : Opens (Kd.int k) t (InK k) (fun _ => 1) := by
 intro H enc w base sp held fuel cs x h
 obtain ⟨n, rfl, rfl, hwf⟩ := DataW.trod_int ht h
 simp only [Lit.wf, Bool.and_eq_true, decide_eq_true_eq] at hwf
 exact ⟨n, rfl, hwf, by simp [Rows.uptoBulk]⟩
theorem opens_bool {t : TypeId} (ht : Tryz.prog.underlying t = some .bool) : Opens Kd.bool t (fun _ => True) (fun _ => 1) := by
 intro H enc w base sp held fuel cs x h
 obtain ⟨n, rfl, rfl⟩ := DataW.trod_bool ht h
 exact ⟨n, rfl, trivial, by simp [Rows.uptoBulk]⟩
theorem opens_string {t : TypeId} (ht : Tryz.prog.underlying t = some .string) : Opens Kd.string t (fun _ => True) (fun s => s.size + 1) := by
 intro H enc w base sp held fuel cs x h
 obtain ⟨n, rfl, rfl, _⟩ := DataW.trod_string ht h
 refine ⟨n, rfl, trivial, ?_⟩
 simp only [Rows.uptoBulk]
 have : n.data.toList.length = n.size := Array.length_toList
 omega
theorem bulkAll_map {H β : Type} (l : List β) (f : β → DataW H) : Rows.uptoBulkAll (l.map f) = (l.map fun b => Rows.uptoBulk (f b)).sum := by
 induction l with
 | nil => simp [Rows.uptoBulkAll]
 | cons b l ih => simp [Rows.uptoBulkAll, ih]
theorem sum_le_sum {β : Type} {f g : β → Nat} (l : List β) (h : ∀ b ∈ l, f b ≤ g b) : (l.map f).sum ≤ (l.map g).sum := by
 induction l with
 | nil => simp
 | cons b l ih =>
  have h0 := h b (.head _)
  have h1 := ih (fun c hc => h c (.tail _ hc))
  simp only [List.map_cons, List.sum_cons]
  omega
theorem list_of' {β : Type} (n : Nat) (Pr : Nat → β → Prop) (h : ∀ i, i < n → ∃ b, Pr i b) : ∃ l : List β, l.length = n ∧ ∀ (i : Nat) (b : β), l[i]? = some b → Pr i b := by
 induction n with
 | zero => exact ⟨[], rfl, fun i b hb => by simp at hb⟩
 | succ n ih =>
  obtain ⟨l, hl, hp⟩ := ih (fun i hi => h i (by omega))
  obtain ⟨b, hb⟩ := h n (by omega)
  refine ⟨l ++ [b], by simp [hl], fun i c hc => ?_⟩
  by_cases hi : i < n
  · rw [List.getElem?_append_left (by omega)] at hc
    exact hp i c hc
  have hil : i < (l ++ [b]).length := (List.getElem?_eq_some_iff.1 hc).1
  have : i = n := by simp [hl] at hil; omega
  subst this
  rw [List.getElem?_append_right (by omega), hl] at hc
  simp at hc
  rw [← hc]
  exact hb
theorem sum_range {β : Type} (l : List β) (f : β → Nat) (g : Nat → Nat) (h : ∀ i b, l[i]? = some b → f b ≤ g i) : (l.map f).sum ≤ ((List.range l.length).map g).sum := by
 have e : l.map f = (List.range l.length).map fun i => match l[i]? with | some b => f b | none => 0 := by
  apply List.ext_getElem?
  intro i
  simp only [List.getElem?_map]
  by_cases hi : i < l.length
  · simp [hi]
  simp [hi]
 rw [e]
 apply sum_le_sum
 intro i hi
 simp only [List.mem_range] at hi
 rw [List.getElem?_eq_getElem hi]
 exact h i _ (List.getElem?_eq_getElem hi)
theorem opens_slice {α : Type} {d : Kd α} {t te : TypeId} {wf : α → Prop} {wt : α → Nat} (e : Nat) (ht : Tryz.prog.underlying t = some (.slice te)) (hs : Tryz.prog.cellsOf te = d.sz) (hd : Opens d te wf wt) :
 Opens (Kd.slice e d) t (fun xs => ∀ a ∈ xs, wf a) (fun xs => (xs.map wt).sum + 1) := by
 intro H enc w base sp held fuel cs x h
 rcases Go.Deep.open_slice ht h with ⟨rfl, rfl⟩ | ⟨a, len, cap, m, n, D, Pl, rfl, hb, hlc, hcap, hm, rfl, hx⟩
 · refine ⟨[], ⟨none, 0, rfl, Nat.le_refl _, rfl, by simp, fun h => absurd h (by simp)⟩, ?_, ?_⟩
   · intro a ha
     exact absurd ha List.not_mem_nil
   show 0 + 1 ≤ Rows.uptoBulk (DataW.nil (H := H))
   simp [Rows.uptoBulk]
 have hle : len ≤ m := by rw [hm]; split <;> omega
 obtain ⟨l, hl, hp⟩ := list_of' len (fun i b => ∃ c, c.length = d.sz ∧ d.K w b c ∧ (∀ j u, c[j]? = some u → w.cell? (a.add (i * d.sz + j)) = some u) ∧ wf b ∧ wt b ≤ Rows.uptoBulk (D i)) (fun i hi => by
  obtain ⟨cs', h1, h2⟩ := hx i (by omega)
  obtain ⟨b, k1, k2, k3⟩ := hd H enc w base sp held n cs' _ h2
  refine ⟨b, cs', d.K_len k1, k1, ?_, k2, k3⟩
  obtain ⟨_, hlen, hcell⟩ := World.cells?_some h1
  rw [hs] at hcell hlen
  intro j u hu
  have hj : j < cs'.length := (List.getElem?_eq_some_iff.1 hu).1
  have := hcell j (by omega)
  rw [add_add] at this
  exact this.trans hu)
 subst hl
 refine ⟨l, ⟨some a, cap, rfl, hlc, rfl, ?_, fun _ => ⟨a, rfl, fun j p hj => ?_⟩⟩, fun b hb => ?_, ?_⟩
 · unfold maxLen at hcap; omega
 · obtain ⟨c, h1, h2, h3, _⟩ := hp j p hj
   exact ⟨c, h1, h2, h3⟩
 · obtain ⟨i, hi, rfl⟩ := List.mem_iff_getElem.1 hb
   obtain ⟨c, _, _, _, h4, _⟩ := hp i _ (List.getElem?_eq_getElem hi)
   exact h4
 simp only [Rows.uptoBulk]
 rw [bulkAll_map]
 have := sum_range l wt (fun i => Rows.uptoBulk (D i)) (fun i b hb => by obtain ⟨c, _, _, _, _, h5⟩ := hp i b hb; exact h5)
 omega
theorem fld {H : Type} {enc : TypeId × Value → H} {w : World} {base n : Nat} {sp : Nat → Bool} {held : Bool} {fs : Array Field} {cs : List Value} {xs : List (DataW H × List MemPlace)}
 (hf : ∀ (i : Nat) (f : Field), fs[i]? = some f → DataW.trod enc Tryz.prog w base sp held n f.type ((cs.drop f.offset).take (Tryz.prog.cellsOf f.type)) = xs[i]?)
 (i off ty sz : Nat) (y : DataW H × List MemPlace) (hfi : (fs[i]?).map (fun f => (f.offset, f.type)) = some (off, ty)) (hsz : Tryz.prog.cellsOf ty = sz) (hx : xs[i]? = some y) :
 DataW.trod enc Tryz.prog w base sp held n ty ((cs.drop off).take sz) = some y := by
 obtain ⟨f, h1, h2⟩ := Option.map_eq_some_iff.1 hfi
 obtain ⟨rfl, rfl⟩ := Prod.mk.inj h2
 rw [← hsz, ← hx]
 exact hf i f h1
theorem opens62 : Opens k62 62 (fun p => ∀ n ∈ p.f1, InK .u8 n) (fun p => p.f0.size + 1 + ((p.f1.map fun _ => 1).sum + 1)) := by
 intro H enc w base sp held fuel cs x h
 obtain ⟨xs, n, rfl, rfl, hl, hxl, hf⟩ := DataW.trod_struct Tryz.underlying62 h
 rw [show Tryz.prog.cellsOf 62 = 2 by kernel_rfl] at hl
 match xs, hxl, cs, hl with
 | [y0, y1], _, [v0, v1], _ =>
  have g0 := fld hf 0 0 9 1 y0 rfl (by kernel_rfl) rfl
  have g1 := fld hf 1 1 38 1 y1 rfl (by kernel_rfl) rfl
  obtain ⟨s, hs, _, ws⟩ := opens_string Tryz.underlying9 H enc w base sp held n [v0] y0 g0
  obtain ⟨l, hk, hwf, wl⟩ := opens_slice 5 Tryz.underlying38 (by kernel_rfl) (opens_int Tryz.underlying5) H enc w base sp held n [v1] y1 g1
  refine ⟨⟨s, l⟩, ⟨[v0], [v1], rfl, hs, hk⟩, hwf, ?_⟩
  simp only [List.map_cons, List.map_nil, Rows.uptoBulk, Rows.uptoBulkAll] at ws wl ⊢
  omega
theorem opens37 : Opens k37 37 (fun p => InK .i64 p.f0 ∧ InK .i64 p.f1) (fun _ => 2) := by
 intro H enc w base sp held fuel cs x h
 obtain ⟨xs, n, rfl, rfl, hl, hxl, hf⟩ := DataW.trod_struct Tryz.underlying37 h
 rw [show Tryz.prog.cellsOf 37 = 2 by kernel_rfl] at hl
 match xs, hxl, cs, hl with
 | [y0, y1], _, [v0, v1], _ =>
  have g0 := fld hf 0 0 3 1 y0 rfl (by kernel_rfl) rfl
  have g1 := fld hf 1 1 3 1 y1 rfl (by kernel_rfl) rfl
  obtain ⟨a0, h0, q0, w0⟩ := opens_int Tryz.underlying3 H enc w base sp held n [v0] y0 g0
  obtain ⟨a1, h1, q1, w1⟩ := opens_int Tryz.underlying3 H enc w base sp held n [v1] y1 g1
  refine ⟨⟨a0, a1⟩, ⟨[v0], [v1], rfl, h0, h1⟩, ⟨q0, q1⟩, ?_⟩
  simp only [List.map_cons, List.map_nil, Rows.uptoBulk, Rows.uptoBulkAll] at w0 w1 ⊢
  omega
theorem open41 {H : Type} {enc : TypeId × Value → H} {w : World} {base : Nat} {sp : Nat → Bool} {held : Bool} {fuel : Nat} {cs : List Value} {x : DataW H × List MemPlace}
 (h : DataW.trod enc Tryz.prog w base sp held fuel 41 cs = some x) :
 ∃ (a b c d e : Int) (fd : Bool) (A6 : Option Addr) (c6 : Nat) (vl : List Int) (A7 : Option Addr) (c7 : Nat) (ps : List S62) (mo : Bool) (st : Int),
  cs = [.int .i64 a, .int .i64 b, .int .i64 c, .int .i64 d, .int .i64 e, .bool fd, .slice A6 vl.length c6, .slice A7 ps.length c7, .bool mo, .int .i64 st] ∧
  (InK .i64 a ∧ InK .i64 b ∧ InK .i64 c ∧ InK .i64 d ∧ InK .i64 e ∧ InK .i64 st) ∧ (vl.length ≤ c6 ∧ Kd.C (Kd.int .u8) w A6 vl.length vl) ∧ (ps.length ≤ c7 ∧ Kd.C k62 w A7 ps.length ps) ∧
  (∀ n ∈ vl, InK .u8 n) ∧ (∀ p ∈ ps, ∀ n ∈ p.f1, InK .u8 n) ∧
  (vl.map fun _ => 1).sum + (ps.map fun p => p.f0.size + 1 + ((p.f1.map fun _ => 1).sum + 1)).sum ≤ Rows.uptoBulk x.1 := by
 obtain ⟨xs, n, rfl, rfl, hl, hxl, hf⟩ := DataW.trod_struct Tryz.underlying41 h
 rw [show Tryz.prog.cellsOf 41 = 10 by kernel_rfl] at hl
 match xs, hxl, cs, hl with
 | [y0, y1, y2, y3, y4, y5, y6, y7, y8], _, [v0, v1, v2, v3, v4, v5, v6, v7, v8, v9], _ =>
  have g0 := fld hf 0 0 3 1 y0 rfl (by kernel_rfl) rfl
  have g1 := fld hf 1 1 3 1 y1 rfl (by kernel_rfl) rfl
  have g2 := fld hf 2 2 31 1 y2 rfl (by kernel_rfl) rfl
  have g3 := fld hf 3 3 37 2 y3 rfl (by kernel_rfl) rfl
  have g4 := fld hf 4 5 4 1 y4 rfl (by kernel_rfl) rfl
  have g5 := fld hf 5 6 38 1 y5 rfl (by kernel_rfl) rfl
  have g6 := fld hf 6 7 39 1 y6 rfl (by kernel_rfl) rfl
  have g7 := fld hf 7 8 4 1 y7 rfl (by kernel_rfl) rfl
  have g8 := fld hf 8 9 3 1 y8 rfl (by kernel_rfl) rfl
  obtain ⟨a, h0, q0, _⟩ := opens_int Tryz.underlying3 H enc w base sp held n [v0] y0 g0
  obtain ⟨b, h1, q1, _⟩ := opens_int Tryz.underlying3 H enc w base sp held n [v1] y1 g1
  obtain ⟨c, h2, q2, _⟩ := opens_int Tryz.underlying31 H enc w base sp held n [v2] y2 g2
  obtain ⟨p, ⟨c30, c31, e3, h3, h3'⟩, q3, _⟩ := opens37 H enc w base sp held n [v3, v4] y3 g3
  obtain ⟨fd, h4, _, _⟩ := opens_bool Tryz.underlying4 H enc w base sp held n [v5] y4 g4
  obtain ⟨vl, ⟨A6, c6, e6, l6, k6⟩, q5, w5⟩ := opens_slice 5 Tryz.underlying38 (by kernel_rfl) (opens_int Tryz.underlying5) H enc w base sp held n [v6] y5 g5
  obtain ⟨ps, ⟨A7, c7, e7, l7, k7⟩, q6, w6⟩ := opens_slice 62 Tryz.underlying39 (by kernel_rfl) opens62 H enc w base sp held n [v7] y6 g6
  obtain ⟨mo, h7, _, _⟩ := opens_bool Tryz.underlying4 H enc w base sp held n [v8] y7 g7
  obtain ⟨st, h8, q8, _⟩ := opens_int Tryz.underlying3 H enc w base sp held n [v9] y8 g8
  obtain ⟨rfl, _⟩ := List.cons.inj (show [v0] = [.int .i64 a] from h0)
  obtain ⟨rfl, _⟩ := List.cons.inj (show [v1] = [.int .i64 b] from h1)
  obtain ⟨rfl, _⟩ := List.cons.inj (show [v2] = [.int .i64 c] from h2)
  obtain rfl : c30 = [.int .i64 p.f0] := h3
  obtain rfl : c31 = [.int .i64 p.f1] := h3'
  obtain ⟨rfl, e3b⟩ := List.cons.inj (show v3 :: [v4] = .int .i64 p.f0 :: [.int .i64 p.f1] from e3)
  obtain ⟨rfl, _⟩ := List.cons.inj e3b
  obtain ⟨rfl, _⟩ := List.cons.inj (show [v5] = [.bool fd] from h4)
  obtain ⟨rfl, _⟩ := List.cons.inj e6
  obtain ⟨rfl, _⟩ := List.cons.inj e7
  obtain ⟨rfl, _⟩ := List.cons.inj (show [v8] = [.bool mo] from h7)
  obtain ⟨rfl, _⟩ := List.cons.inj (show [v9] = [.int .i64 st] from h8)
  refine ⟨a, b, c, p.f0, p.f1, fd, A6, c6, vl, A7, c7, ps, mo, st, rfl, ⟨q0, q1, q2, q3.1, q3.2, q8⟩, ⟨l6, k6⟩, ⟨l7, k7⟩, q5, q6, ?_⟩
  simp only [List.map_cons, List.map_nil, Rows.uptoBulk, Rows.uptoBulkAll] at w5 w6 ⊢
  omega
end Go.Proofs.YtndbbgihpoiojaaGreatDoor.ev
namespace Go.Proofs.YtndbbgihpoiojaaGreatDoor.scriptTells
open Go.ChangeShapes Go.WideShapes Go.ChangeAt Go.RowKit Go.Proofs.YtndbbgihpoiojaaGreatDoor.ev Go.Proofs.YtndbbgihpoiojaaGreatDoor.Q
theorem qt_len : ∀ (n : Nat) (l : List UInt8), l.length ≤ n → (sc.qt l).length ≤ 3 * l.length := by
 intro n
 induction n with
 | zero =>
  intro l h
  have : l = [] := List.length_eq_zero_iff.1 (by omega)
  subst this
  exact Nat.le_refl _
 | succ n ih =>
  intro l h
  by_cases hne : l = []
  · subst hne
    exact Nat.le_refl _
  have h1 := sc.width_posL l
  have h2 := Lib.decodeL_le l hne
  have h3 := sc.qform_length l (Lib.decodeL l).1 (Lib.decodeL l).2
  have h4 := ih (l.drop (Lib.decodeL l).2) (by rw [List.length_drop]; omega)
  rw [List.length_drop] at h4
  rw [sc.qt_step hne, List.length_append]
  omega
theorem quoteB_size (x : ByteArray) : (quoteB x).size ≤ 3 * x.size + 2 := by
 show (sc.quoteL x.data.toList).toArray.size ≤ _
 have h : sc.quoteL x.data.toList = 34 :: (sc.qt x.data.toList ++ [34]) := rfl
 have := qt_len _ x.data.toList (Nat.le_refl _)
 rw [← Lib.size_eq] at this
 rw [h]
 simp
 omega
theorem strNums_size (l : List Int) : (strOfNums l).size = l.length := by
 unfold strOfNums
 simp [ByteArray.size]
theorem sum_ones {α : Type} (l : List α) : (l.map fun _ => 1).sum = l.length := by
 induction l with
 | nil => rfl
 | cons x l ih => rw [List.map_cons, List.sum_cons, ih, List.length_cons, Nat.add_comm]
def szs (l : List ByteArray) : Nat := (l.map ByteArray.size).sum
theorem szs_app (a b : List ByteArray) : szs (a ++ b) = szs a + szs b := by unfold szs; rw [List.map_append, List.sum_append]
def wt62 (p : S62) : Nat := p.f0.size + 1 + ((p.f1.map fun _ => 1).sum + 1)
theorem szs_pairs (ps : List S62) : szs (ps.flatMap pairW) ≤ 3 * (ps.map wt62).sum := by
 induction ps with
 | nil => exact Nat.le_refl _
 | cons p ps ih =>
  have h1 := quoteB_size p.f0
  have h2 := quoteB_size (strOfNums p.f1)
  rw [strNums_size] at h2
  rw [List.flatMap_cons, szs_app, List.map_cons, List.sum_cons]
  have h3 : szs (pairW p) = (quoteB p.f0).size + ((quoteB (strOfNums p.f1)).size + 0) := rfl
  have h4 : wt62 p = p.f0.size + 1 + (p.f1.length + 1) := by unfold wt62; rw [sum_ones]
  omega
theorem len_le_wt (ps : List S62) : ps.length ≤ (ps.map wt62).sum := by
 induction ps with
 | nil => exact Nat.le_refl _
 | cons p ps ih =>
  rw [List.map_cons, List.sum_cons, List.length_cons]
  have : 1 ≤ wt62 p := by unfold wt62; omega
  omega
theorem mem_le (f : S62 → Nat) (ps : List S62) (p : S62) (h : p ∈ ps) : f p ≤ (ps.map f).sum := by
 induction ps with
 | nil => cases h
 | cons q ps ih =>
  rw [List.map_cons, List.sum_cons]
  cases h with
  | head => omega
  | tail _ h => have := ih h; omega
theorem tell_size (a b c d e : Int) (fd : Bool) (vl : List Int) (ps : List S62) (mo : Bool) (st : Int) (h : sc.InInt a ∧ sc.InInt b ∧ sc.InInt c ∧ sc.InInt d ∧ sc.InInt e ∧ sc.InInt st) (hn : sc.InInt (ps.length : Int)) (N : Nat) (hN : vl.length + (ps.map wt62).sum ≤ N) :
 (joinB (tellW a b c d e fd vl ps mo st) spB).size ≤ 10 * N + 400 := by
 obtain ⟨h1, h2, h3, h4, h5, h6⟩ := h
 have i1 := itoaB_size a h1
 have i2 := itoaB_size b h2
 have i3 := itoaB_size c h3
 have i4 := itoaB_size d h4
 have i5 := itoaB_size e h5
 have i6 := itoaB_size st h6
 have i7 := itoaB_size _ hn
 have q1 := quoteB_size (strOfNums vl)
 rw [strNums_size] at q1
 have p1 := szs_pairs ps
 have p2 := len_le_wt ps
 have hj := joinB_le (tellW a b c d e fd vl ps mo st) spB
 have hl := tellW_len a b c d e fd vl ps mo st (17 + 2 * ps.length) (Nat.le_refl _)
 have e0 : ((tellW a b c d e fd vl ps mo st).map ByteArray.size).sum = szs (tellW a b c d e fd vl ps mo st) := rfl
 have e1 : szs (tellW a b c d e fd vl ps mo st) = szs (slotW a b c) + szs (txnW d e) + szs (foundW fd) + szs (valueW vl) + szs (headW ps) + szs (ps.flatMap pairW) + szs (moreW mo) + szs (stampW st) := by
  unfold tellW
  simp only [szs_app]
 have s1 : szs (slotW a b c) ≤ 100 := by
  show 4 + ((itoaB a).size + (7 + ((itoaB b).size + (4 + ((itoaB c).size + 0))))) ≤ 100
  omega
 have s2 : szs (txnW d e) ≤ 50 := by
  unfold txnW
  split
  · show 3 + ((itoaB d).size + ((itoaB e).size + 0)) ≤ 50
    omega
  exact Nat.zero_le _
 have s3 : szs (foundW fd) ≤ 5 := by unfold foundW; split <;> decide
 have s4 : szs (valueW vl) ≤ 3 * vl.length + 10 := by
  unfold valueW
  split
  · show 5 + ((quoteB (strOfNums vl)).size + 0) ≤ _
    omega
  exact Nat.zero_le _
 have s5 : szs (headW ps) ≤ 30 := by
  unfold headW
  split
  · show 5 + ((itoaB (ps.length : Int)).size + 0) ≤ _
    omega
  exact Nat.zero_le _
 have s6 : szs (moreW mo) ≤ 5 := by unfold moreW; split <;> decide
 have s7 : szs (stampW st) ≤ 30 := by
  unfold stampW
  split
  · exact Nat.zero_le _
  show 5 + ((itoaB st).size + 0) ≤ _
  omega
 have hsp : spB.size = 1 := rfl
 rw [e0, e1, hsp, Nat.mul_one] at hj
 omega
end Go.Proofs.YtndbbgihpoiojaaGreatDoor.scriptTells
namespace Go.Proofs.YtndbbgihpoiojaaGreatDoor.Q
open Go.RowKit Go.Proofs.YtndbbgihpoiojaaGreatDoorW.PrintWords Go.Proofs.YtndbbgihpoiojaaGreatDoorW.PrintLast Go.Proofs.YtndbbgihpoiojaaGreatDoorW.PrintMore
noncomputable instance s62dec : DecidableEq S62 := fun _ _ => Classical.propDecidable _
def Ev {α : Type} (f : Nat → Option α) (r : α) : Prop := ∃ K, ∀ k, K ≤ k → f k = some r
theorem rd_nat (l : List Int) (i : Nat) (h : i < l.length) : rd l (i : Int) = l[i] := by
 unfold rd
 rw [Int.toNat_natCast, List.getD_eq_getElem?_getD, List.getElem?_eq_getElem h]
 rfl
theorem eq_l0 (l m : List Int) (hlm : l.length = m.length) (hl : l.length ≤ 1099511627776) : ∀ (q i : Nat), i + q = l.length → Ev (fun k => slices_Equal_byte_byte.l0 k l m (l.length : Int) (i : Int)) (decide (l.drop i = m.drop i)) := by
 intro q
 induction q with
 | zero =>
  intro i hi
  refine ⟨1, fun k hk => ?_⟩
  obtain ⟨k, rfl⟩ : ∃ j, k = j + 1 := ⟨k - 1, by omega⟩
  show slices_Equal_byte_byte.l0 (k + 1) l m (l.length : Int) (i : Int) = _
  rw [slices_Equal_byte_byte.l0, if_neg (by omega), List.drop_eq_nil_of_le (by omega), List.drop_eq_nil_of_le (by omega)]
  rfl
 | succ q ih =>
  intro i hi
  obtain ⟨K, hK⟩ := ih (i + 1) (by omega)
  refine ⟨K + 1, fun k hk => ?_⟩
  obtain ⟨k, rfl⟩ : ∃ j, k = j + 1 := ⟨k - 1, by omega⟩
  have h1 : i < l.length := by omega
  have h2 : i < m.length := by omega
  show slices_Equal_byte_byte.l0 (k + 1) l m (l.length : Int) (i : Int) = _
  rw [slices_Equal_byte_byte.l0, if_pos (by omega), if_pos (by omega), if_pos (by omega), if_pos (by omega), rd_nat l i h1, rd_nat m i h2, w64 (by omega) (by omega)]
  have hk' := hK k (by omega)
  rw [show ((i + 1 : Nat) : Int) = (i : Int) + 1 from rfl] at hk'
  rw [List.drop_eq_getElem_cons h1, List.drop_eq_getElem_cons h2]
  by_cases he : l[i] = m[i]
  · rw [if_pos he]
    refine hk'.trans ?_
    rw [he]
    congr 1
    simp only [List.cons.injEq, true_and]
  rw [if_neg he]
  congr 1
  symm
  exact decide_eq_false (fun e => he (List.cons.inj e).1)
theorem eq_ev (l m : List Int) (hl : l.length ≤ 1099511627776) : Ev (fun k => slices_Equal_byte_byte.f k l m) (decide (l = m)) := by
 by_cases h : l.length = m.length
 · obtain ⟨K, hK⟩ := eq_l0 l m h hl l.length 0 (by omega)
   refine ⟨K, fun k hk => ?_⟩
   show slices_Equal_byte_byte.f k l m = _
   unfold slices_Equal_byte_byte.f
   rw [if_pos (by omega)]
   exact hK k hk
 refine ⟨0, fun k _ => ?_⟩
 show slices_Equal_byte_byte.f k l m = _
 unfold slices_Equal_byte_byte.f
 rw [if_neg (by omega)]
 congr 1
 symm
 exact decide_eq_false (fun e => h (by rw [e]))
theorem l1_ev (A B : ByteArray) (x7 : Bool) (hA : (10 : UInt8) ∉ A.data.toList) (hs : A.size ≤ 1099511627776) : ∀ (q i : Nat), i + q = A.size → Ev (fun k => cloisterlaw26_ScriptLines.l1 k A B x7 (A.size : Int) (i : Int)) ((A.toList == B.toList) == x7) := by
 intro q
 induction q with
 | zero =>
  intro i hi
  refine ⟨1, fun k hk => ?_⟩
  obtain ⟨k, rfl⟩ : ∃ j, k = j + 1 := ⟨k - 1, by omega⟩
  show cloisterlaw26_ScriptLines.l1 (k + 1) A B x7 (A.size : Int) (i : Int) = _
  rw [cloisterlaw26_ScriptLines.l1, if_neg (by omega)]
  generalize ((A.toList == B.toList) == x7) = b
  cases b
  · rw [if_neg Bool.false_ne_true]
  rw [if_pos rfl]; rfl
 | succ q ih =>
  intro i hi
  obtain ⟨K, hK⟩ := ih (i + 1) (by omega)
  refine ⟨K + 1, fun k hk => ?_⟩
  obtain ⟨k, rfl⟩ : ∃ j, k = j + 1 := ⟨k - 1, by omega⟩
  have h1 : i < A.size := by omega
  have hl : i < A.data.toList.length := by rw [← Lib.size_eq]; exact h1
  have hb : bt A (i : Int) ≠ 10 := fun e => hA (by
   have e1 : (A.data.toList[i].toNat : Int) = bt A (i : Int) := bt_at A (i : Int) h1
   rw [e] at e1
   rw [← show A.data.toList[i] = 10 from UInt8.toNat_inj.1 (show A.data.toList[i].toNat = 10 by omega)]
   exact List.getElem_mem hl)
  show cloisterlaw26_ScriptLines.l1 (k + 1) A B x7 (A.size : Int) (i : Int) = _
  rw [cloisterlaw26_ScriptLines.l1, if_pos (by omega), if_pos (by omega), if_pos (by omega), if_neg hb, w64 (by omega) (by omega)]
  exact hK k (by omega)
section
variable (A B : ByteArray) (a b c d e : Int) (fd : Bool) (vl : List Int) (ps : List S62) (mo : Bool) (st : Int) (a' b' c' d' e' : Int) (fd' : Bool) (vl' : List Int) (qs : List S62) (mo' : Bool) (st' : Int)
theorem l0_ev (hA : (10 : UInt8) ∉ A.data.toList) (hs : A.size ≤ 1099511627776) (n : Nat) (hn1 : n ≤ ps.length) (hn2 : n ≤ qs.length) (hn : n ≤ 1099511627776) (hps : ∀ p ∈ ps, p.f1.length ≤ 1099511627776) : ∀ (q i : Nat) (x7 : Bool), i + q = n →
 Ev (fun k => cloisterlaw26_ScriptLines.l0 k A B x7 (n : Int) (i : Int) a b c d e fd vl ps mo st a' b' c' d' e' fd' vl' qs mo' st') ((A.toList == B.toList) == (x7 && decide ((ps.take n).drop i = (qs.take n).drop i))) := by
 intro q
 induction q with
 | zero =>
  intro i x7 hi
  obtain ⟨K, hK⟩ := l1_ev A B x7 hA hs A.size 0 (by omega)
  refine ⟨K + 1, fun k hk => ?_⟩
  obtain ⟨k, rfl⟩ : ∃ j, k = j + 1 := ⟨k - 1, by omega⟩
  show cloisterlaw26_ScriptLines.l0 (k + 1) A B x7 (n : Int) (i : Int) a b c d e fd vl ps mo st a' b' c' d' e' fd' vl' qs mo' st' = _
  rw [cloisterlaw26_ScriptLines.l0, if_neg (by omega), List.drop_eq_nil_of_le (by rw [List.length_take]; omega), List.drop_eq_nil_of_le (by rw [List.length_take]; omega), decide_eq_true rfl, Bool.and_true]
  exact hK k (by omega)
 | succ q ih =>
  intro i x7 hi
  have h1 : i < ps.length := by omega
  have h2 : i < qs.length := by omega
  obtain ⟨K0, hK0⟩ := ih (i + 1) false (by omega)
  obtain ⟨K1, hK1⟩ := ih (i + 1) (decide (ps[i].f1 = qs[i].f1)) (by omega)
  obtain ⟨K2, hK2⟩ := eq_ev ps[i].f1 qs[i].f1 (hps _ (List.getElem_mem h1))
  refine ⟨K0 + K1 + K2 + 1, fun k hk => ?_⟩
  obtain ⟨k, rfl⟩ : ∃ j, k = j + 1 := ⟨k - 1, by omega⟩
  have k0 := hK0 k (by omega)
  have k1 := hK1 k (by omega)
  have k2 : slices_Equal_byte_byte.f k ps[i].f1 qs[i].f1 = some (decide (ps[i].f1 = qs[i].f1)) := hK2 k (by omega)
  rw [show ((i + 1 : Nat) : Int) = (i : Int) + 1 from rfl] at k0 k1
  show cloisterlaw26_ScriptLines.l0 (k + 1) A B x7 (n : Int) (i : Int) a b c d e fd vl ps mo st a' b' c' d' e' fd' vl' qs mo' st' = _
  rw [cloisterlaw26_ScriptLines.l0, if_pos (by omega), w64 (by omega) (by omega)]
  have ht1 : i < (ps.take n).length := by rw [List.length_take]; omega
  have ht2 : i < (qs.take n).length := by rw [List.length_take]; omega
  rw [List.drop_eq_getElem_cons ht1, List.drop_eq_getElem_cons ht2, List.getElem_take, List.getElem_take]
  cases x7 with
  | false =>
   rw [if_neg Bool.false_ne_true]
   refine k0.trans ?_
   rw [Bool.false_and, Bool.false_and]
  | true =>
   rw [if_pos rfl, if_pos (by omega), if_pos (by omega), if_pos (by omega), rd_at ps i ps[i] (List.getElem?_eq_getElem h1), rd_at qs i qs[i] (List.getElem?_eq_getElem h2), toList_data, toList_data, Bool.true_and]
   by_cases hf : ps[i].f0.data.toList = qs[i].f0.data.toList
   · rw [if_pos hf, k2, Option.bind_some]
     refine k1.trans ?_
     have hf' : ps[i].f0 = qs[i].f0 := ba_ext hf
     congr 2
     rw [Bool.eq_iff_iff, Bool.and_eq_true, decide_eq_true_iff, decide_eq_true_iff, decide_eq_true_iff]
     constructor
     · rintro ⟨g1, g2⟩
       rw [g2]
       congr 1
       cases hp : ps[i]; cases hq : qs[i]
       rw [hp, hq] at hf' g1
       simp only at hf' g1
       rw [hf', g1]
     intro g
     obtain ⟨g1, g2⟩ := List.cons.inj g
     exact ⟨by rw [g1], g2⟩
   rw [if_neg hf]
   refine k0.trans ?_
   rw [Bool.false_and]
   congr 2
   symm
   refine decide_eq_false (fun g => hf ?_)
   rw [(List.cons.inj g).1]
theorem j0_ev (hA : (10 : UInt8) ∉ A.data.toList) (hs : A.size ≤ 1099511627776) (hn1 : ps.length ≤ 1099511627776) (hn2 : qs.length ≤ 1099511627776) (hps : ∀ p ∈ ps, p.f1.length ≤ 1099511627776) (x7 : Bool) :
 Ev (fun k => cloisterlaw26_ScriptLines.j0 k A B x7 a b c d e fd vl ps mo st a' b' c' d' e' fd' vl' qs mo' st') ((A.toList == B.toList) == (x7 && decide (ps.take (min ps.length qs.length) = qs.take (min ps.length qs.length)))) := by
 obtain ⟨K, hK⟩ := l0_ev A B a b c d e fd vl ps mo st a' b' c' d' e' fd' vl' qs mo' st' hA hs (min ps.length qs.length) (by omega) (by omega) (by omega) hps (min ps.length qs.length) 0 x7 (by omega)
 refine ⟨K + 1, fun k hk => ?_⟩
 obtain ⟨k, rfl⟩ : ∃ j, k = j + 1 := ⟨k - 1, by omega⟩
 show cloisterlaw26_ScriptLines.j0 (k + 1) A B x7 a b c d e fd vl ps mo st a' b' c' d' e' fd' vl' qs mo' st' = _
 have e1 : mn (ps.length : Int) (qs.length : Int) = ((min ps.length qs.length : Nat) : Int) := by unfold mn; split <;> omega
 rw [cloisterlaw26_ScriptLines.j0, e1]
 exact hK k (by omega)
end
theorem tell_ev (a b c d e : Int) (fd : Bool) (vl : List Int) (ps : List S62) (mo : Bool) (st : Int) (h : inI a ∧ inI b ∧ inI c ∧ inI d ∧ inI e ∧ inI st) (hN : vl.length + (ps.map scriptTells.wt62).sum ≤ 1048576) :
 (∀ k, ps.length + 6 ≤ k → script_Tell.f k a b c d e fd vl ps mo st = some (joinB (tellW a b c d e fd vl ps mo st) spB)) ∧ (joinB (tellW a b c d e fd vl ps mo st) spB).size ≤ 1099511627776 ∧ ps.length ≤ 1048576 ∧ (∀ p ∈ ps, p.f1.length ≤ 1048576) := by
 have p2 := scriptTells.len_le_wt ps
 have hp1 : ∀ p ∈ ps, p.f0.size ≤ 1048576 ∧ p.f1.length ≤ 1048576 := fun p hp => by
  have h1 := scriptTells.mem_le scriptTells.wt62 ps p hp
  have h2 : scriptTells.wt62 p = p.f0.size + 1 + (p.f1.length + 1) := by unfold scriptTells.wt62; rw [scriptTells.sum_ones]
  omega
 have hsz := scriptTells.tell_size a b c d e fd vl ps mo st h ⟨by omega, by omega⟩ 1048576 hN
 refine ⟨fun k hk => ?_, by omega, by omega, fun p hp => (hp1 p hp).2⟩
 obtain ⟨j, rfl⟩ : ∃ j, k = j + 1 + 1 + ps.length + 1 + 1 + 1 + 1 := ⟨k - ps.length - 6, by omega⟩
 rw [s_f a b c d e fd vl ps mo st h (17 + 2 * ps.length) (show 17 + 2 * ps.length < 8796093022208 by omega) (Nat.le_refl _) (by rw [scriptTells.strNums_size]; omega) (fun p hp => by
  have := hp1 p hp
  rw [scriptTells.strNums_size]
  omega) (by omega) j]
 have hl := tellW_len a b c d e fd vl ps mo st (17 + 2 * ps.length) (Nat.le_refl _)
 unfold strings_Join.f
 rw [if_pos ⟨by omega, by omega⟩]
theorem lines_of {a b c d e st a' b' c' d' e' st' : Int} {fd fd' mo mo' : Bool} {vl vl' : List Int} {ps qs : List S62}
 (h : inI a ∧ inI b ∧ inI c ∧ inI d ∧ inI e ∧ inI st) (h' : inI a' ∧ inI b' ∧ inI c' ∧ inI d' ∧ inI e' ∧ inI st')
 (hv : ∀ x ∈ vl, 0 ≤ x ∧ x ≤ 255) (hv' : ∀ x ∈ vl', 0 ≤ x ∧ x ≤ 255) (hp : ∀ p ∈ ps, ∀ x ∈ p.f1, 0 ≤ x ∧ x ≤ 255) (hp' : ∀ p ∈ qs, ∀ x ∈ p.f1, 0 ≤ x ∧ x ≤ 255)
 (hN : vl.length + (ps.map scriptTells.wt62).sum ≤ 1048576) (hN' : vl'.length + (qs.map scriptTells.wt62).sum ≤ 1048576) :
 ∃ k, cloisterlaw26_ScriptLines.f k a b c d e fd vl ps mo st a' b' c' d' e' fd' vl' qs mo' st' = some true := by
 obtain ⟨tA, sA, lA, qA⟩ := tell_ev a b c d e fd vl ps mo st h hN
 obtain ⟨tB, sB, lB, qB⟩ := tell_ev a' b' c' d' e' fd' vl' qs mo' st' h' hN'
 have hnl : (10 : UInt8) ∉ (joinB (tellW a b c d e fd vl ps mo st) spB).data.toList := line_nonl (tellW_wd _ _ _ _ _ _ _ _ _ _)
 have hinj := tell_inj (fd := fd) (fd' := fd') (mo := mo) (mo' := mo') h h' hv hv' hp hp' ⟨by omega, by omega⟩ ⟨by omega, by omega⟩
 have hsame : a = a' → b = b' → c = c' → d = d' → e = e' → fd = fd' → vl = vl' → ps = qs → mo = mo' → st = st' → joinB (tellW a b c d e fd vl ps mo st) spB = joinB (tellW a' b' c' d' e' fd' vl' qs mo' st') spB := by
  rintro rfl rfl rfl rfl rfl rfl rfl rfl rfl rfl
  rfl
 revert tA tB sA hnl hinj hsame
 generalize joinB (tellW a b c d e fd vl ps mo st) spB = A
 generalize joinB (tellW a' b' c' d' e' fd' vl' qs mo' st') spB = B
 intro tA sA tB hnl hinj hsame
 obtain ⟨K0, F0⟩ := j0_ev A B a b c d e fd vl ps mo st a' b' c' d' e' fd' vl' qs mo' st' hnl sA (by omega) (by omega) (fun p hp => by have := qA p hp; omega) false
 obtain ⟨K1, F1⟩ := j0_ev A B a b c d e fd vl ps mo st a' b' c' d' e' fd' vl' qs mo' st' hnl sA (by omega) (by omega) (fun p hp => by have := qA p hp; omega) ((ps.length : Int) == (qs.length : Int))
 obtain ⟨K2, F2⟩ := eq_ev vl vl' (by omega)
 have f0 := F0 (K0 + K1 + K2 + ps.length + qs.length + 12) (by omega)
 have f1 := F1 (K0 + K1 + K2 + ps.length + qs.length + 12) (by omega)
 have f2 : slices_Equal_byte_byte.f (K0 + K1 + K2 + ps.length + qs.length + 12) vl vl' = some (decide (vl = vl')) := F2 (K0 + K1 + K2 + ps.length + qs.length + 12) (by omega)
 refine ⟨K0 + K1 + K2 + ps.length + qs.length + 12, ?_⟩
 have no : A ≠ B → some ((A.toList == B.toList) == (false && decide (ps.take (min ps.length qs.length) = qs.take (min ps.length qs.length)))) = some true := fun hne => by
  rw [Bool.false_and, toList_data, toList_data, beq_eq_false_iff_ne.mpr (fun e => hne (ba_ext e))]
  rfl
 rw [cloisterlaw26_ScriptLines.f, tA _ (by omega), Option.bind_some, tB _ (by omega), Option.bind_some]
 by_cases g1 : a = a'
 rotate_left
 · rw [if_neg g1]; exact f0.trans (no (fun he => g1 (hinj he).1))
 rw [if_pos g1]
 by_cases g2 : b = b'
 rotate_left
 · rw [if_neg g2]; exact f0.trans (no (fun he => g2 (hinj he).2.1))
 rw [if_pos g2]
 by_cases g3 : c = c'
 rotate_left
 · rw [if_neg g3]; exact f0.trans (no (fun he => g3 (hinj he).2.2.1))
 rw [if_pos g3]
 by_cases g4 : (d == d' && (e == e')) = true
 rotate_left
 · rw [if_neg g4]; exact f0.trans (no (fun he => g4 (by rw [(hinj he).2.2.2.1, (hinj he).2.2.2.2.1]; simp)))
 rw [if_pos g4]
 by_cases g5 : (fd == fd') = true
 rotate_left
 · rw [if_neg g5]; exact f0.trans (no (fun he => g5 (by rw [(hinj he).2.2.2.2.2.1]; simp)))
 rw [if_pos g5, f2, Option.bind_some]
 by_cases g6 : vl = vl'
 rotate_left
 · rw [decide_eq_false g6, if_neg Bool.false_ne_true]; exact f0.trans (no (fun he => g6 (hinj he).2.2.2.2.2.2.1))
 rw [decide_eq_true g6, if_pos rfl]
 by_cases g8 : (mo == mo') = true
 rotate_left
 · rw [if_neg g8]; exact f0.trans (no (fun he => g8 (by rw [(hinj he).2.2.2.2.2.2.2.2.1]; simp)))
 rw [if_pos g8]
 by_cases g9 : st = st'
 rotate_left
 · rw [if_neg g9]; exact f0.trans (no (fun he => g9 (hinj he).2.2.2.2.2.2.2.2.2))
 rw [if_pos g9]
 refine f1.trans ?_
 have g4' : d = d' ∧ e = e' := by simpa using g4
 by_cases g7 : ps = qs
 · rw [hsame g1 g2 g3 g4'.1 g4'.2 (by simpa using g5) g6 g7 (by simpa using g8) g9, g7]
   simp
 have hne : A ≠ B := fun he => g7 (hinj he).2.2.2.2.2.2.2.1
 rw [toList_data, toList_data, beq_eq_false_iff_ne.mpr (fun e => hne (ba_ext e))]
 have : (((ps.length : Int) == (qs.length : Int)) && decide (ps.take (min ps.length qs.length) = qs.take (min ps.length qs.length))) = false := by
  rw [Bool.and_eq_false_iff]
  by_cases hl : ps.length = qs.length
  · right
    rw [hl, Nat.min_self, List.take_length]
    rw [List.take_of_length_le (by omega)]
    exact decide_eq_false g7
  left
  exact beq_eq_false_iff_ne.mpr (by omega)
 rw [this]
 rfl
end Go.Proofs.YtndbbgihpoiojaaGreatDoor.Q
namespace Go.Proofs.YtndbbgihpoiojaaGreatDoor.scriptLines
open Go.ChangeShapes Go.WideShapes Go.ChangeAt Go.RowKit Go.Proofs.YtndbbgihpoiojaaGreatDoor.ev Go.Proofs.YtndbbgihpoiojaaGreatDoor.Q Go.Proofs.YtndbbgihpoiojaaGreatDoorW.PrintWords Go.Proofs.YtndbbgihpoiojaaGreatDoorW.PrintLast
theorem laidOut : laidOutB Tryz.prog = true := by kernel_rfl
abbrev args0 : Array Value := #[.agg #[.int .i64 0, .int .i64 0, .int .i64 0, .int .i64 0, .int .i64 0, .bool false, .slice none 0 0, .slice none 0 0, .bool false, .int .i64 0], .agg #[.int .i64 0, .int .i64 0, .int .i64 0, .int .i64 0, .int .i64 0, .bool false, .slice none 0 0, .slice none 0 0, .bool false, .int .i64 0]]
theorem contract (H : Type) (enc : TypeId × Value → H) (W : World) (base : Nat) (args : Array Value) (ds gs : List (DataW H)) (before : List MemPlace)
 (hval : ∀ (j : Nat) t v, Tryz.f12.params[j]? = some t → args[j]? = some v → Value.okWide Tryz.prog W .any base t v)
 (hW : DataW.Whole enc Tryz.prog Tryz.f12.params.toList Rows.scriptLinesSpec.vars false W args.toList ds gs before)
 (hk : Rows.uptoSmall H (ds ++ gs) = true) (hL : laidMetH Tryz.prog laidL W) (hsh : W.ShapedOpen Tryz.prog) :
 Calls Tryz.prog 12 args W fun e W' => ∃ v, e = .returned v ∧ Rows.scriptLinesSpec.post enc Tryz.prog Tryz.f12 false true false false W args v W' := by
 have hW' := hW
 obtain ⟨p, q, hA0, hV, rfl, hfz, hnd⟩ := hW
 have hA : DataW.TrodAll enc Tryz.prog W 0 (fun _ => true) true Tryz.f12.params.toList args.toList ds p := hA0
 rw [Tryz.params12] at hA hval
 obtain ⟨v0, vs0, d0, ds0, p0, q0, hargs, rfl, rfl, h0, r0⟩ := trodAll_cons hA
 obtain ⟨v1, vs1, d1, ds1, p1, q1, rfl, rfl, rfl, h1, r1⟩ := trodAll_cons r0
 obtain ⟨rfl, rfl, rfl⟩ := trodAll_nil r1
 obtain rfl : args = #[v0, v1] := by cases args; simp_all
 obtain ⟨rfl, rfl⟩ := trodVars_none hV
 obtain ⟨cs, rfl, hcs⟩ := okWide_struct Tryz.underlying41 (hval 0 41 v0 rfl rfl)
 obtain ⟨es, rfl, hes⟩ := okWide_struct Tryz.underlying41 (hval 1 41 v1 rfl rfl)
 have k0 := h0
 have k1 := h1
 have lt0 : ∀ x ∈ p0, x.block < W.heap.size := by obtain ⟨m, hm⟩ := k0; exact DataW.trod_lt m _ _ _ hm
 have lt1 : ∀ x ∈ p1, x.block < W.heap.size := by obtain ⟨m, hm⟩ := k1; exact DataW.trod_lt m _ _ _ hm
 obtain ⟨fuel, hf⟩ := h0
 obtain ⟨a, b, c, d, e, fd, A6, c6, vl, A7, c7, ps, mo, st, hcl, hin, ⟨l6, r6⟩, ⟨l7, r7⟩, u6, u7, hb⟩ := open41 hf
 obtain rfl : cs = #[.int .i64 a, .int .i64 b, .int .i64 c, .int .i64 d, .int .i64 e, .bool fd, .slice A6 vl.length c6, .slice A7 ps.length c7, .bool mo, .int .i64 st] := by
  have : cs.toList = _ := hcl
  cases cs
  simpa using this
 obtain ⟨fuel', hf'⟩ := h1
 obtain ⟨a', b', c', d', e', fd', B6, g6, vl', B7, g7, qs, mo', st', hcl', hin', ⟨l6', r6'⟩, ⟨l7', r7'⟩, u6', u7', hb'⟩ := open41 hf'
 obtain rfl : es = #[.int .i64 a', .int .i64 b', .int .i64 c', .int .i64 d', .int .i64 e', .bool fd', .slice B6 vl'.length g6, .slice B7 qs.length g7, .bool mo', .int .i64 st'] := by
  have : es.toList = _ := hcl'
  cases es
  simpa using this
 have hN : vl.length + (ps.map scriptTells.wt62).sum ≤ 1048576 ∧ vl'.length + (qs.map scriptTells.wt62).sum ≤ 1048576 := by
  have h1 := of_decide_eq_true hk
  simp only [List.append_nil, Rows.uptoBulkAll] at h1
  rw [scriptTells.sum_ones] at hb hb'
  have h2 : (ps.map fun p => p.f0.size + 1 + ((p.f1.map fun _ => 1).sum + 1)).sum = (ps.map scriptTells.wt62).sum := rfl
  have h3 : (qs.map fun p => p.f0.size + 1 + ((p.f1.map fun _ => 1).sum + 1)).sum = (qs.map scriptTells.wt62).sum := rfl
  rw [h2] at hb
  rw [h3] at hb'
  have h4 : (d0, p0).1 = d0 := rfl
  have h5 : (d1, p1).1 = d1 := rfl
  rw [h4] at hb
  rw [h5] at hb'
  omega
 rw [Go.MakeChecks.laidMetH_plain _ _ _ (by kernel_rfl)] at hL
 have rg : ∀ n : Int, InK .u8 n → 0 ≤ n ∧ n ≤ 255 := fun n h => h
 obtain ⟨k, hfk⟩ := lines_of (fd := fd) (fd' := fd') (mo := mo) (mo' := mo') hin hin' (fun x hx => rg x (u6 x hx)) (fun x hx => rg x (u6' x hx)) (fun p hp x hx => rg x (u7 p hp x hx)) (fun p hp x hx => rg x (u7' p hp x hx)) hN.1 hN.2
 refine (cloisterlaw26_ScriptLines.calls k a b c d e fd A6 c6 vl A7 c7 ps mo st a' b' c' d' e' fd' B6 g6 vl' B7 g7 qs mo' st' true W r6 l6 r7 l7 r6' l6' r7' l7' (env_of hL hsh) hfk).mono fun e W' ⟨he, bel⟩ => ?_
 subst he
 exact ⟨_, rfl, _, _, _, [], _, [], hW', trodAll_mk1 (shut_bool Tryz.underlying4 _), (trodAll_cons_mk (Below.trod laidOut (by kernel_rfl) (of_decide_eq_true (by kernel_rfl)) k0 bel lt0) (trodAll_cons_mk (Below.trod laidOut (by kernel_rfl) (of_decide_eq_true (by kernel_rfl)) k1 bel lt1) trodAll_mk0)), rfl, bel.frame _, fun h => by cases h⟩
theorem reads (os : Os) {H : Type} (enc : TypeId × Value → H) : ∃ places, DataW.whole enc Tryz.prog ((laidWorld os).forCall (fun _ _ => 0) ⟨#[], args0, []⟩).memory Tryz.f12.params.toList Rows.scriptLinesSpec.vars false args0.toList 8 = some ([.agg [.lit (.int .i64 0), .lit (.int .i64 0), .lit (.int .i64 0), .agg [.lit (.int .i64 0), .lit (.int .i64 0)], .lit (.bool false), .nil, .nil, .lit (.bool false), .lit (.int .i64 0)], .agg [.lit (.int .i64 0), .lit (.int .i64 0), .lit (.int .i64 0), .agg [.lit (.int .i64 0), .lit (.int .i64 0)], .lit (.bool false), .nil, .nil, .lit (.bool false), .lit (.int .i64 0)]], [], places) :=
 ⟨[], by kernel_rfl⟩
theorem liftedUpto (os : Os) (started : os.Started) (H : Type) (enc : TypeId × Value → H) (F : Stop.Interp) :
 ReturnsInHanded {} Tryz.checked os 12 .any ((Rows.OpenSpec.upto Rows.scriptLinesSpec).preRow enc Tryz.prog Tryz.f12 Rows.scriptLinesUptoRow.domain false Rows.scriptLinesUptoRow.laid) (((Rows.OpenSpec.upto Rows.scriptLinesSpec).at F).post enc Tryz.prog Tryz.f12 false true false false) := by
 obtain ⟨places, hx⟩ := reads os enc
 refine returnsInHanded_of_row (C := Tryz.checked) (s := Rows.OpenSpec.upto Rows.scriptLinesSpec) own started (by kernel_rfl) Tryz.func12
  (witness_row_atRef (enc := enc) (C := Tryz.checked) false (laidWorld os) args0 rfl (by kernel_rfl) (by kernel_rfl) (by kernel_rfl)
   (OpenSpec.preRow_of_cond 8 hx (by kernel_rfl) (fun k hk => by cases hk; kernel_rfl) (by kernel_rfl) (laidWorld_metH os _))) ?_
 intro W base args ds gs before hval hW _ hcnd _ hL hsh _
 exact contract H enc W base args ds gs before hval hW (hcnd _ rfl) hL hsh
theorem saidUpto : Rows.ScriptLinesUptoSaid :=
 OpenClaim.holds_of_cond 12 Tryz.f12 rfl rfl rfl rfl rfl rfl rfl ⟨rfl, rfl, rfl, rfl, rfl⟩ rfl rfl rfl rfl rfl (by kernel_rfl) Tryz.func12 (by kernel_rfl)
  (of_decide_eq_true (by kernel_rfl)) (by unfold Func.isWrapper; first | (rw [if_pos (by decide +kernel)]; kernel_rfl) | (rw [if_neg (by decide +kernel)]; exact ⟨rfl, rfl⟩))
  (fun os started H enc _ F => by rw [OpenClaim.pre_eq_preRow]; exact liftedUpto os started H enc F)
theorem plain (f : FuncId) (fn : Func) (hf : Tryz.pinned.checked.prog.funcNamed "cloister/cloisterlaw26.ScriptLines" = some f) (hfn : Tryz.pinned.checked.prog.funcs[f]? = some fn) :
 true = Tryz.pinned.checked.prog.looks [] ∧ ∀ (j : Nat) t, fn.params[j]? = some t → Tryz.pinned.checked.prog.wantsStandIn t = false := by
 obtain rfl : f = 12 := Option.some.inj ((show Tryz.prog.funcNamed "cloister/cloisterlaw26.ScriptLines" = some 12 by kernel_rfl).symm.trans hf) |>.symm
 obtain rfl : fn = Tryz.f12 := (Option.some.inj (Tryz.func12.symm.trans hfn)).symm
 have w41 : Tryz.prog.wantsStandIn 41 = false := by kernel_rfl
 refine ⟨by kernel_rfl, fun j t ht => ?_⟩
 rw [Tryz.params12] at ht
 obtain rfl : t = 41 := by simpa using Array.mem_of_getElem? ht
 exact w41
theorem cardUpto : Rows.ScriptLinesUptoCardSaid :=
 Claim7.holds_tied_plain_at .later [] _ _ _ _ saidUpto (fun _ h => by cases h) (by kernel_rfl) (fun _ h => by cases h) scriptLinesUpto_row_tie rfl ⟨rfl, rfl⟩ (by kernel_rfl) rfl plain (by kernel_rfl)
end Go.Proofs.YtndbbgihpoiojaaGreatDoor.scriptLines
