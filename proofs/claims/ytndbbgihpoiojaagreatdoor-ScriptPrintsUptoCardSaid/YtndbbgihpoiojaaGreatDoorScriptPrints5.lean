/- Script: texts merged, part 5: cut to what the claim uses. -/
import Derived.Test.YtndbbgihpoiojaaGreatDoorScriptPrints4
set_option linter.unusedVariables false
set_option linter.unusedSimpArgs false
set_option maxRecDepth 100000
set_option maxHeartbeats 8000000
namespace Go.Proofs.YtndbbgihpoiojaaGreatDoor.Q
open Go.RowKit Go.Proofs.YtndbbgihpoiojaaGreatDoorW.PrintWords Go.Proofs.YtndbbgihpoiojaaGreatDoorW.PrintLast Go.Proofs.YtndbbgihpoiojaaGreatDoorW.PrintMore
attribute [local go_sem] max2_int min2_int max_two min_two max_three min_three max_four min_four   -- for this text's walks alone
mutual
def cloisterlaw26_vast.l0 : Nat → Int → List (S52) → Int → Int → Option (Bool)
 | 0, _, _, _, _ => none
 | k + 1, x3, x8, x9, x10 => if x10 < x9 then (if 0 ≤ x10 then (if x10 < (x8.length : Int) then (cloisterlaw26_vast.l1 k (wrap64 (x3 + (wrap64 ((wrap64 ((wrap64 (1 + (((rd_T52 x8 x10).f2.f3).size : Int))) + (((rd_T52 x8 x10).f2.f4).size : Int))) + (((rd_T52 x8 x10).f2.f5).length : Int))))) x8 x9 x10 ((rd_T52 x8 x10).f4) (((rd_T52 x8 x10).f4).length : Int) 0) else (none)) else (none)) else (some false)
def cloisterlaw26_vast.l1 : Nat → Int → List (S52) → Int → Int → List (List (S66)) → Int → Int → Option (Bool)
 | 0, _, _, _, _, _, _, _ => none
 | k + 1, x3, x8, x9, x10, x32, x33, x34 => if x34 < x33 then (if 0 ≤ x34 then (if x34 < (x32.length : Int) then (if (wrap64 (x3 + (wrap64 (1 + ((rd_L7 x32 x34).length : Int))))) > 268435456 then (some true) else (cloisterlaw26_vast.l1 k (wrap64 (x3 + (wrap64 (1 + ((rd_L7 x32 x34).length : Int))))) x8 x9 x10 x32 x33 (wrap64 (x34 + 1)))) else (none)) else (none)) else (if x3 > 268435456 then (some true) else (cloisterlaw26_vast.l0 k x3 x8 x9 (wrap64 (x10 + 1))))
end
def cloisterlaw26_vast.f (k : Nat) (l0 : List (S52)) : Option (Bool) := cloisterlaw26_vast.l0 k 0 l0 (l0.length : Int) 0
theorem cloisterlaw26_vast.calls (k : Nat) (A0 : Option Addr) (c0 : Nat) (l0 : List (S52)) (r : Bool) (w : World) (hr0 : Kd.C k52 w A0 l0.length l0) (hc0 : l0.length ≤ c0) (h : cloisterlaw26_vast.f k l0 = some r) :
 Calls Tryz.prog 14 #[.slice A0 l0.length c0] w fun e w' => e = .returned (.bool r) ∧ Below w.heap.size w w' := by
 have hu52 := Tryz.underlying52
 have HR0 := am_ hr0
 have HC0 := am_ hc0
 clear hr0 hc0
 have HB := am_ (Below.refl w.heap.size w)
 have H : (cloisterlaw26_vast.l0 k 0 l0 (l0.length : Int) 0) = some r := h
 clear h
 have H' := am_ H
 clear H
 go_enter Tryz.func14, Tryz.ntmps14
 go_wp2
 go_loopg [3, 10] k (fun kq v3 v10 w' => ∃ (x3_1 : Int) (x10_1 : Int), v3 = .int .i64 x3_1 ∧ v10 = .int .i64 x10_1 ∧ Aside0 (cloisterlaw26_vast.l0 kq x3_1 l0 (l0.length : Int) x10_1 = some r) ∧ Aside0 (kq ≤ k) ∧ Aside0 (Below w.heap.size w w'))
 case atStart => exact ⟨(0), (0), (by first | rfl | (simp; done) | (simp [*]; done)), (by first | rfl | (simp; done) | (simp [*]; done)), H', ⟨Nat.le_refl _⟩, ⟨by repeat (first | (with_reducible first | exact HB.out | apply b1_ | apply b2_ | apply b3_) | exact HB.out)⟩⟩
 case round =>
  clear H'
  try clear c1
  obtain ⟨x3_1, x10_1, rfl, rfl, HA, HK1, HB⟩ := hrel
  cases gk with
  | zero => exact absurd HA.out (by simp [cloisterlaw26_vast.l0])
  | succ k1 =>
   have H := HA.out
   clear HA
   simp only [cloisterlaw26_vast.l0] at H
   by_cases c2 : x10_1 < (l0.length : Int)
   · rw [if_pos c2] at H
     have c2b0 : decide (x10_1 < (l0.length : Int)) = true := decide_eq_true c2
     clear c2
     by_cases c3 : 0 ≤ x10_1
     · rw [if_pos c3] at H
       have c3b0 : decide (0 ≤ x10_1) = true := decide_eq_true c3
       clear c3
       by_cases c4 : x10_1 < (l0.length : Int)
       · rw [if_pos c4] at H
         have c4b0 : decide (x10_1 < (l0.length : Int)) = true := decide_eq_true c4
         clear c4
         have H' := am_ H
         clear H
         have p101 : 0 ≤ (x10_1 : Int) := of_decide_eq_true (by first | (with_reducible assumption) | assumption)
         have q101 : x10_1 < (l0.length : Int) := of_decide_eq_true (by first | (with_reducible assumption) | assumption)
         obtain ⟨ad101, A101_8, c101_8, A101_11, c101_11, e101, hx101_0, hx101_1, hx101_2, hx101_3, hx101_4, hx101_5, hx101_6, hx101_7, hx101_8, hx101_9, hx101_10, hx101_11, hl101_8, hi101_8, hl101_11, hi101_11⟩ := at_T52 HR0.out x10_1 p101 q101
         cases e101
         replace hx101_0 := (HB.out.cell (World.block_lt_of_cell? w _ hx101_0)).trans hx101_0
         replace hx101_1 := (HB.out.cell (World.block_lt_of_cell? w _ hx101_1)).trans hx101_1
         replace hx101_2 := (HB.out.cell (World.block_lt_of_cell? w _ hx101_2)).trans hx101_2
         replace hx101_3 := (HB.out.cell (World.block_lt_of_cell? w _ hx101_3)).trans hx101_3
         replace hx101_4 := (HB.out.cell (World.block_lt_of_cell? w _ hx101_4)).trans hx101_4
         replace hx101_5 := (HB.out.cell (World.block_lt_of_cell? w _ hx101_5)).trans hx101_5
         replace hx101_6 := (HB.out.cell (World.block_lt_of_cell? w _ hx101_6)).trans hx101_6
         replace hx101_7 := (HB.out.cell (World.block_lt_of_cell? w _ hx101_7)).trans hx101_7
         replace hx101_8 := (HB.out.cell (World.block_lt_of_cell? w _ hx101_8)).trans hx101_8
         replace hx101_9 := (HB.out.cell (World.block_lt_of_cell? w _ hx101_9)).trans hx101_9
         replace hx101_10 := (HB.out.cell (World.block_lt_of_cell? w _ hx101_10)).trans hx101_10
         replace hx101_11 := (HB.out.cell (World.block_lt_of_cell? w _ hx101_11)).trans hx101_11
         have HR101_8 := am_ hi101_8
         have HC101_8 := am_ hl101_8
         clear hi101_8 hl101_8
         have HR101_11 := am_ hi101_11
         have HC101_11 := am_ hl101_11
         clear hi101_11 hl101_11
         replace p101 := eq_true p101
         replace q101 := eq_true q101
         try go_wp2_with (first | ((with_reducible refine gate_dst (N := 5) rfl ?_); refine box_event ?hg (N := 5) ?hd (cs := #[.int .i64 0, .int .i64 0, .int .i64 0, .int .i64 0, .int .i64 0, .int .i64 0, .string (⟨#[]⟩ : ByteArray), .string (⟨#[]⟩ : ByteArray), .slice none 0 0, .int .i64 0, .int .i64 0, .slice none 0 0]) (t := 52) ?hr ?_; (case hd => rfl); (case hg => rfl); (case hr => first | (go_simp; done) | (go_simp; rfl)); intro gb102 hg w5 hbox hb; have BK102 := am_ (hbox); have GW102 := am_ ((by rw [hg]; exact (below_size (by repeat (first | (with_reducible first | exact HB.out | apply b1_ | apply b2_ | apply b3_) | exact HB.out))) : w.heap.size ≤ gb102)); have GE102 := am_ ((by rw [hg]; exact (below_size (by repeat (first | (with_reducible first | exact HB.out | apply b1_ | apply b2_ | apply b3_) | exact HB.out))) : w.heap.size ≤ gb102)); replace HB := am_ (below_step (by repeat (first | (with_reducible first | exact HB.out | apply b1_ | apply b2_ | apply b3_) | exact HB.out)) hb); clear hb hbox hg; have hcz6_0 : w5.cell? ⟨gb102, 0, none⟩ = some (.int .i64 0) := (blk_cell BK102.out 0).trans rfl; have hcz6_1 : w5.cell? ⟨gb102, 1, none⟩ = some (.int .i64 0) := (blk_cell BK102.out 1).trans rfl; have hcz6_2 : w5.cell? ⟨gb102, 2, none⟩ = some (.int .i64 0) := (blk_cell BK102.out 2).trans rfl; have hcz6_3 : w5.cell? ⟨gb102, 3, none⟩ = some (.int .i64 0) := (blk_cell BK102.out 3).trans rfl; have hcz6_4 : w5.cell? ⟨gb102, 4, none⟩ = some (.int .i64 0) := (blk_cell BK102.out 4).trans rfl; have hcz6_5 : w5.cell? ⟨gb102, 5, none⟩ = some (.int .i64 0) := (blk_cell BK102.out 5).trans rfl; have hcz6_6 : w5.cell? ⟨gb102, 6, none⟩ = some (.string (⟨#[]⟩ : ByteArray)) := (blk_cell BK102.out 6).trans rfl; have hcz6_7 : w5.cell? ⟨gb102, 7, none⟩ = some (.string (⟨#[]⟩ : ByteArray)) := (blk_cell BK102.out 7).trans rfl; have hcz6_8 : w5.cell? ⟨gb102, 8, none⟩ = some (.slice none 0 0) := (blk_cell BK102.out 8).trans rfl; have hcz6_9 : w5.cell? ⟨gb102, 9, none⟩ = some (.int .i64 0) := (blk_cell BK102.out 9).trans rfl; have hcz6_10 : w5.cell? ⟨gb102, 10, none⟩ = some (.int .i64 0) := (blk_cell BK102.out 10).trans rfl; have hcz6_11 : w5.cell? ⟨gb102, 11, none⟩ = some (.slice none 0 0) := (blk_cell BK102.out 11).trans rfl; have hfz6_0 := blk_frozen BK102.out 0; have hfz6_1 := blk_frozen BK102.out 1; have hfz6_2 := blk_frozen BK102.out 2; have hfz6_3 := blk_frozen BK102.out 3; have hfz6_4 := blk_frozen BK102.out 4; have hfz6_5 := blk_frozen BK102.out 5; have hfz6_6 := blk_frozen BK102.out 6; have hfz6_7 := blk_frozen BK102.out 7; have hfz6_8 := blk_frozen BK102.out 8; have hfz6_9 := blk_frozen BK102.out 9; have hfz6_10 := blk_frozen BK102.out 10; have hfz6_11 := blk_frozen BK102.out 11))
         go_loopg [3, 34] k1 (fun kq v3 v34 w' => ∃ (x3_2 : Int) (x34_2 : Int), v3 = .int .i64 x3_2 ∧ v34 = .int .i64 x34_2 ∧ Aside0 (cloisterlaw26_vast.l1 kq x3_2 l0 (l0.length : Int) x10_1 ((rd_T52 l0 x10_1).f4) (((rd_T52 l0 x10_1).f4).length : Int) x34_2 = some r) ∧ Aside0 (kq ≤ k1) ∧ Aside0 (w'.heap[gb102]? = some (.cells #[.int .i64 ((rd_T52 l0 x10_1).f0), .int .i64 ((rd_T52 l0 x10_1).f1), .int .i64 ((rd_T52 l0 x10_1).f2.f0), .int .i64 ((rd_T52 l0 x10_1).f2.f1.f0), .int .i64 ((rd_T52 l0 x10_1).f2.f1.f1), .int .i64 ((rd_T52 l0 x10_1).f2.f2), .string ((rd_T52 l0 x10_1).f2.f3), .string ((rd_T52 l0 x10_1).f2.f4), (.slice A101_8 ((rd_T52 l0 x10_1).f2.f5).length c101_8), .int .i64 ((rd_T52 l0 x10_1).f2.f6), .int .i64 ((rd_T52 l0 x10_1).f3), (.slice A101_11 ((rd_T52 l0 x10_1).f4).length c101_11)] 52 (0, 0))) ∧ Aside0 (Below w.heap.size w w'))
         case atStart => exact ⟨(wrap64 (x3_1 + (wrap64 ((wrap64 ((wrap64 (1 + (((rd_T52 l0 x10_1).f2.f3).size : Int))) + (((rd_T52 l0 x10_1).f2.f4).size : Int))) + (((rd_T52 l0 x10_1).f2.f5).length : Int))))), (0), (by first | rfl | (simp; done) | (simp [*]; done)), (by first | rfl | (simp; done) | (simp [*]; done)), H', ⟨Nat.le_refl _⟩, ⟨by (with_reducible repeat (first | refine d1_ ?_ _ | refine d2_ ?_ | refine d3_ ?_ _)); refine blk_put (cs := #[.int .i64 ((rd_T52 l0 x10_1).f0), .int .i64 ((rd_T52 l0 x10_1).f1), .int .i64 ((rd_T52 l0 x10_1).f2.f0), .int .i64 ((rd_T52 l0 x10_1).f2.f1.f0), .int .i64 ((rd_T52 l0 x10_1).f2.f1.f1), .int .i64 ((rd_T52 l0 x10_1).f2.f2), .string ((rd_T52 l0 x10_1).f2.f3), .string ((rd_T52 l0 x10_1).f2.f4), .slice A101_8 ((rd_T52 l0 x10_1).f2.f5).length c101_8, .int .i64 ((rd_T52 l0 x10_1).f2.f6), .int .i64 ((rd_T52 l0 x10_1).f3), .slice none 0 0]) ?_ 11 _ rfl; (with_reducible repeat (first | refine d1_ ?_ _ | refine d2_ ?_ | refine d3_ ?_ _)); refine blk_put (cs := #[.int .i64 ((rd_T52 l0 x10_1).f0), .int .i64 ((rd_T52 l0 x10_1).f1), .int .i64 ((rd_T52 l0 x10_1).f2.f0), .int .i64 ((rd_T52 l0 x10_1).f2.f1.f0), .int .i64 ((rd_T52 l0 x10_1).f2.f1.f1), .int .i64 ((rd_T52 l0 x10_1).f2.f2), .string ((rd_T52 l0 x10_1).f2.f3), .string ((rd_T52 l0 x10_1).f2.f4), .slice A101_8 ((rd_T52 l0 x10_1).f2.f5).length c101_8, .int .i64 ((rd_T52 l0 x10_1).f2.f6), .int .i64 0, .slice none 0 0]) ?_ 10 _ rfl; (with_reducible repeat (first | refine d1_ ?_ _ | refine d2_ ?_ | refine d3_ ?_ _)); refine blk_put (cs := #[.int .i64 ((rd_T52 l0 x10_1).f0), .int .i64 ((rd_T52 l0 x10_1).f1), .int .i64 ((rd_T52 l0 x10_1).f2.f0), .int .i64 ((rd_T52 l0 x10_1).f2.f1.f0), .int .i64 ((rd_T52 l0 x10_1).f2.f1.f1), .int .i64 ((rd_T52 l0 x10_1).f2.f2), .string ((rd_T52 l0 x10_1).f2.f3), .string ((rd_T52 l0 x10_1).f2.f4), .slice A101_8 ((rd_T52 l0 x10_1).f2.f5).length c101_8, .int .i64 0, .int .i64 0, .slice none 0 0]) ?_ 9 _ rfl; (with_reducible repeat (first | refine d1_ ?_ _ | refine d2_ ?_ | refine d3_ ?_ _)); refine blk_put (cs := #[.int .i64 ((rd_T52 l0 x10_1).f0), .int .i64 ((rd_T52 l0 x10_1).f1), .int .i64 ((rd_T52 l0 x10_1).f2.f0), .int .i64 ((rd_T52 l0 x10_1).f2.f1.f0), .int .i64 ((rd_T52 l0 x10_1).f2.f1.f1), .int .i64 ((rd_T52 l0 x10_1).f2.f2), .string ((rd_T52 l0 x10_1).f2.f3), .string ((rd_T52 l0 x10_1).f2.f4), .slice none 0 0, .int .i64 0, .int .i64 0, .slice none 0 0]) ?_ 8 _ rfl; (with_reducible repeat (first | refine d1_ ?_ _ | refine d2_ ?_ | refine d3_ ?_ _)); refine blk_put (cs := #[.int .i64 ((rd_T52 l0 x10_1).f0), .int .i64 ((rd_T52 l0 x10_1).f1), .int .i64 ((rd_T52 l0 x10_1).f2.f0), .int .i64 ((rd_T52 l0 x10_1).f2.f1.f0), .int .i64 ((rd_T52 l0 x10_1).f2.f1.f1), .int .i64 ((rd_T52 l0 x10_1).f2.f2), .string ((rd_T52 l0 x10_1).f2.f3), .string (⟨#[]⟩ : ByteArray), .slice none 0 0, .int .i64 0, .int .i64 0, .slice none 0 0]) ?_ 7 _ rfl; (with_reducible repeat (first | refine d1_ ?_ _ | refine d2_ ?_ | refine d3_ ?_ _)); refine blk_put (cs := #[.int .i64 ((rd_T52 l0 x10_1).f0), .int .i64 ((rd_T52 l0 x10_1).f1), .int .i64 ((rd_T52 l0 x10_1).f2.f0), .int .i64 ((rd_T52 l0 x10_1).f2.f1.f0), .int .i64 ((rd_T52 l0 x10_1).f2.f1.f1), .int .i64 ((rd_T52 l0 x10_1).f2.f2), .string (⟨#[]⟩ : ByteArray), .string (⟨#[]⟩ : ByteArray), .slice none 0 0, .int .i64 0, .int .i64 0, .slice none 0 0]) ?_ 6 _ rfl; (with_reducible repeat (first | refine d1_ ?_ _ | refine d2_ ?_ | refine d3_ ?_ _)); refine blk_put (cs := #[.int .i64 ((rd_T52 l0 x10_1).f0), .int .i64 ((rd_T52 l0 x10_1).f1), .int .i64 ((rd_T52 l0 x10_1).f2.f0), .int .i64 ((rd_T52 l0 x10_1).f2.f1.f0), .int .i64 ((rd_T52 l0 x10_1).f2.f1.f1), .int .i64 0, .string (⟨#[]⟩ : ByteArray), .string (⟨#[]⟩ : ByteArray), .slice none 0 0, .int .i64 0, .int .i64 0, .slice none 0 0]) ?_ 5 _ rfl; (with_reducible repeat (first | refine d1_ ?_ _ | refine d2_ ?_ | refine d3_ ?_ _)); refine blk_put (cs := #[.int .i64 ((rd_T52 l0 x10_1).f0), .int .i64 ((rd_T52 l0 x10_1).f1), .int .i64 ((rd_T52 l0 x10_1).f2.f0), .int .i64 ((rd_T52 l0 x10_1).f2.f1.f0), .int .i64 0, .int .i64 0, .string (⟨#[]⟩ : ByteArray), .string (⟨#[]⟩ : ByteArray), .slice none 0 0, .int .i64 0, .int .i64 0, .slice none 0 0]) ?_ 4 _ rfl; (with_reducible repeat (first | refine d1_ ?_ _ | refine d2_ ?_ | refine d3_ ?_ _)); refine blk_put (cs := #[.int .i64 ((rd_T52 l0 x10_1).f0), .int .i64 ((rd_T52 l0 x10_1).f1), .int .i64 ((rd_T52 l0 x10_1).f2.f0), .int .i64 0, .int .i64 0, .int .i64 0, .string (⟨#[]⟩ : ByteArray), .string (⟨#[]⟩ : ByteArray), .slice none 0 0, .int .i64 0, .int .i64 0, .slice none 0 0]) ?_ 3 _ rfl; (with_reducible repeat (first | refine d1_ ?_ _ | refine d2_ ?_ | refine d3_ ?_ _)); refine blk_put (cs := #[.int .i64 ((rd_T52 l0 x10_1).f0), .int .i64 ((rd_T52 l0 x10_1).f1), .int .i64 0, .int .i64 0, .int .i64 0, .int .i64 0, .string (⟨#[]⟩ : ByteArray), .string (⟨#[]⟩ : ByteArray), .slice none 0 0, .int .i64 0, .int .i64 0, .slice none 0 0]) ?_ 2 _ rfl; (with_reducible repeat (first | refine d1_ ?_ _ | refine d2_ ?_ | refine d3_ ?_ _)); refine blk_put (cs := #[.int .i64 ((rd_T52 l0 x10_1).f0), .int .i64 0, .int .i64 0, .int .i64 0, .int .i64 0, .int .i64 0, .string (⟨#[]⟩ : ByteArray), .string (⟨#[]⟩ : ByteArray), .slice none 0 0, .int .i64 0, .int .i64 0, .slice none 0 0]) ?_ 1 _ rfl; (with_reducible repeat (first | refine d1_ ?_ _ | refine d2_ ?_ | refine d3_ ?_ _)); refine blk_put (cs := #[.int .i64 0, .int .i64 0, .int .i64 0, .int .i64 0, .int .i64 0, .int .i64 0, .string (⟨#[]⟩ : ByteArray), .string (⟨#[]⟩ : ByteArray), .slice none 0 0, .int .i64 0, .int .i64 0, .slice none 0 0]) ?_ 0 _ rfl; (with_reducible repeat (first | refine d1_ ?_ _ | refine d2_ ?_ | refine d3_ ?_ _)); exact BK102.out⟩, ⟨by repeat (first | (with_reducible first | exact HB.out | apply b1_ | apply b2_ | apply b3_ | refine b4_ ?_ GE102.out) | exact HB.out)⟩⟩
         case round =>
          clear H'
          try clear c1
          try clear p1
          try clear q1
          try clear hx1
          try clear c2
          try clear c2b0
          try clear p2
          try clear c3
          try clear c3b0
          try clear c4
          try clear c4b0
          try clear p6
          try clear hcz6_0 hcz6_1 hcz6_10 hcz6_11 hcz6_2 hcz6_3 hcz6_4 hcz6_5 hcz6_6 hcz6_7 hcz6_8 hcz6_9 hfz6_0 hfz6_1 hfz6_10 hfz6_11 hfz6_2 hfz6_3 hfz6_4 hfz6_5 hfz6_6 hfz6_7 hfz6_8 hfz6_9
          try clear hx101_0
          try clear hx101_1
          try clear hx101_10
          try clear hx101_11
          try clear hx101_2
          try clear hx101_3
          try clear hx101_4
          try clear hx101_5
          try clear hx101_6
          try clear hx101_7
          try clear hx101_8
          try clear hx101_9
          try clear p101
          try clear q101
          obtain ⟨x3_2, x34_2, rfl, rfl, HA, HK2, BK102, HB⟩ := hrel
          cases gk with
          | zero => exact absurd HA.out (by simp [cloisterlaw26_vast.l1])
          | succ k2 =>
           have H := HA.out
           clear HA
           simp only [cloisterlaw26_vast.l1] at H
           by_cases c7 : x34_2 < (((rd_T52 l0 x10_1).f4).length : Int)
           · rw [if_pos c7] at H
             have c7b0 : decide (x34_2 < (((rd_T52 l0 x10_1).f4).length : Int)) = true := decide_eq_true c7
             clear c7
             by_cases c8 : 0 ≤ x34_2
             · rw [if_pos c8] at H
               have c8b0 : decide (0 ≤ x34_2) = true := decide_eq_true c8
               clear c8
               by_cases c9 : x34_2 < (((rd_T52 l0 x10_1).f4).length : Int)
               · rw [if_pos c9] at H
                 have c9b0 : decide (x34_2 < (((rd_T52 l0 x10_1).f4).length : Int)) = true := decide_eq_true c9
                 clear c9
                 by_cases c10 : (wrap64 (x3_2 + (wrap64 (1 + ((rd_L7 ((rd_T52 l0 x10_1).f4) x34_2).length : Int))))) > 268435456
                 · rw [if_pos c10] at H
                   have c10b0 : decide (268435456 < (wrap64 (x3_2 + (wrap64 (1 + ((rd_L7 ((rd_T52 l0 x10_1).f4) x34_2).length : Int)))))) = true := decide_eq_true c10
                   clear c10
                   obtain rfl := Option.some.inj H
                   have p103 : 0 ≤ (x34_2 : Int) := of_decide_eq_true (by first | (with_reducible assumption) | assumption)
                   have q103 : x34_2 < (((rd_T52 l0 x10_1).f4).length : Int) := of_decide_eq_true (by first | (with_reducible assumption) | assumption)
                   obtain ⟨ad103, A103_0, c103_0, e103, hx103_0, hl103_0, hi103_0⟩ := at_L7 HR101_11.out x34_2 p103 q103
                   cases e103
                   replace hx103_0 := (HB.out.cell (World.block_lt_of_cell? w _ hx103_0)).trans hx103_0
                   have HR103_0 := am_ hi103_0
                   have HC103_0 := am_ hl103_0
                   clear hi103_0 hl103_0
                   replace p103 := eq_true p103
                   replace q103 := eq_true q103
                   go_wp2
                   go_ret
                   exact ⟨by first | rfl | (simp [errW_none, errW_some] <;> rfl) | (simp [*, errW_none, errW_some] <;> rfl), by repeat (first | (with_reducible first | exact HB.out | apply b1_ | apply b2_ | apply b3_ | refine b4_ ?_ GE102.out) | exact HB.out)⟩
                 rw [if_neg c10] at H
                 have c10b0 : decide (268435456 < (wrap64 (x3_2 + (wrap64 (1 + ((rd_L7 ((rd_T52 l0 x10_1).f4) x34_2).length : Int)))))) = false := decide_eq_false c10
                 clear c10
                 have H' := am_ H
                 clear H
                 have p103 : 0 ≤ (x34_2 : Int) := of_decide_eq_true (by first | (with_reducible assumption) | assumption)
                 have q103 : x34_2 < (((rd_T52 l0 x10_1).f4).length : Int) := of_decide_eq_true (by first | (with_reducible assumption) | assumption)
                 obtain ⟨ad103, A103_0, c103_0, e103, hx103_0, hl103_0, hi103_0⟩ := at_L7 HR101_11.out x34_2 p103 q103
                 cases e103
                 replace hx103_0 := (HB.out.cell (World.block_lt_of_cell? w _ hx103_0)).trans hx103_0
                 have HR103_0 := am_ hi103_0
                 have HC103_0 := am_ hl103_0
                 clear hi103_0 hl103_0
                 replace p103 := eq_true p103
                 replace q103 := eq_true q103
                 go_wp2
                 go_roundg k2
                 case measure => have := HK1.out; have := HK2.out; omega
                 case rel => exact ⟨(wrap64 (x3_2 + (wrap64 (1 + ((rd_L7 ((rd_T52 l0 x10_1).f4) x34_2).length : Int))))), (wrap64 (x34_2 + 1)), (by first | rfl | (simp; done) | (simp [*]; done)), (by first | rfl | (simp; done) | (simp [*]; done)), H', ⟨by have := HK1.out; have := HK2.out; omega⟩, ⟨by (with_reducible repeat (first | refine d1_ ?_ _ | refine d2_ ?_ | refine d3_ ?_ _)); exact BK102.out⟩, ⟨by repeat (first | (with_reducible first | exact HB.out | apply b1_ | apply b2_ | apply b3_ | refine b4_ ?_ GE102.out) | exact HB.out)⟩⟩
               rw [if_neg c9] at H
               exact absurd H (by simp)
             rw [if_neg c8] at H
             exact absurd H (by simp)
           rw [if_neg c7] at H
           have c7b0 : decide (x34_2 < (((rd_T52 l0 x10_1).f4).length : Int)) = false := decide_eq_false c7
           clear c7
           by_cases c11 : x3_2 > 268435456
           · rw [if_pos c11] at H
             have c11b0 : decide (268435456 < x3_2) = true := decide_eq_true c11
             clear c11
             obtain rfl := Option.some.inj H
             go_wp2
             go_ret
             exact ⟨by first | rfl | (simp [errW_none, errW_some] <;> rfl) | (simp [*, errW_none, errW_some] <;> rfl), by repeat (first | (with_reducible first | exact HB.out | apply b1_ | apply b2_ | apply b3_ | refine b4_ ?_ GE102.out) | exact HB.out)⟩
           rw [if_neg c11] at H
           have c11b0 : decide (268435456 < x3_2) = false := decide_eq_false c11
           clear c11
           have H' := am_ H
           clear H
           go_wp2
           go_roundg k2
           case measure => have := HK1.out; have := HK2.out; omega
           case rel => exact ⟨(x3_2), (wrap64 (x10_1 + 1)), (by first | rfl | (simp; done) | (simp [*]; done)), (by first | rfl | (simp; done) | (simp [*]; done)), H', ⟨by have := HK1.out; have := HK2.out; omega⟩, ⟨by repeat (first | (with_reducible first | exact HB.out | apply b1_ | apply b2_ | apply b3_ | refine b4_ ?_ GE102.out) | exact HB.out)⟩⟩
       rw [if_neg c4] at H
       exact absurd H (by simp)
     rw [if_neg c3] at H
     exact absurd H (by simp)
   rw [if_neg c2] at H
   have c2b0 : decide (x10_1 < (l0.length : Int)) = false := decide_eq_false c2
   clear c2
   obtain rfl := Option.some.inj H
   go_wp2
   go_ret
   exact ⟨by first | rfl | (simp [errW_none, errW_some] <;> rfl) | (simp [*, errW_none, errW_some] <;> rfl), by repeat (first | (with_reducible first | exact HB.out | apply b1_ | apply b2_ | apply b3_) | exact HB.out)⟩
def cloisterref26_line.l0 : Nat → ByteArray → List ByteArray → Int → Int → Option (ByteArray)
 | 0, _, _, _, _ => none
 | k + 1, x3, x6, x7, x8 => if x8 < x7 then (if 0 ≤ x8 then (if x8 < (x6.length : Int) then (if x8 > 0 then (if x3.size + 1 ≤ 9223372036854775807 then (if (x3 ++ (⟨#[32]⟩ : ByteArray)).size + (rdOf ByteArray.empty x6 x8).size ≤ 9223372036854775807 then (cloisterref26_line.l0 k ((x3 ++ (⟨#[32]⟩ : ByteArray)) ++ (rdOf ByteArray.empty x6 x8)) x6 x7 (wrap64 (x8 + 1))) else (none)) else (none)) else (if x3.size + (rdOf ByteArray.empty x6 x8).size ≤ 9223372036854775807 then (cloisterref26_line.l0 k (x3 ++ (rdOf ByteArray.empty x6 x8)) x6 x7 (wrap64 (x8 + 1))) else (none))) else (none)) else (none)) else (some x3)
def cloisterref26_line.f (k : Nat) (l0 : List ByteArray) : Option (ByteArray) := cloisterref26_line.l0 k (⟨#[]⟩ : ByteArray) l0 (l0.length : Int) 0
theorem cloisterref26_line.calls (k : Nat) (A0 : Option Addr) (c0 : Nat) (l0 : List ByteArray) (r : ByteArray) (w : World) (hr0 : Kd.C Kd.string w A0 l0.length l0) (hc0 : l0.length ≤ c0) (h : cloisterref26_line.f k l0 = some r) :
 Calls Tryz.prog 28 #[.slice A0 l0.length c0] w fun e w' => e = .returned (.string r) ∧ Drawn0 w w' := by
 have HR0 := am_ hr0
 have HC0 := am_ hc0
 clear hr0 hc0
 have H : (cloisterref26_line.l0 k (⟨#[]⟩ : ByteArray) l0 (l0.length : Int) 0) = some r := h
 clear h
 have H' := am_ H
 clear H
 go_enter Tryz.func28, Tryz.ntmps28
 go_wp2
 go_loopg [3, 8] k (fun kq v3 v8 w' => ∃ (x3_1 : ByteArray) (x8_1 : Int), v3 = .string x3_1 ∧ v8 = .int .i64 x8_1 ∧ Aside0 (cloisterref26_line.l0 kq x3_1 l0 (l0.length : Int) x8_1 = some r) ∧ Aside0 (kq ≤ k) ∧ Drawn0 w w')
 case atStart => exact ⟨((⟨#[]⟩ : ByteArray)), (0), (by first | rfl | (simp; done) | (simp [*]; done)), (by first | rfl | (simp; done) | (simp [*]; done)), H', ⟨Nat.le_refl _⟩, by repeat (first | exact Drawn0.refl _ | apply Drawn0.step)⟩
 case round =>
  clear H'
  obtain ⟨x3_1, x8_1, rfl, rfl, HA, HK1, ⟨m1, rfl⟩⟩ := hrel
  cases gk with
  | zero => exact absurd HA.out (by simp [cloisterref26_line.l0])
  | succ k1 =>
   have H := HA.out
   clear HA
   simp only [cloisterref26_line.l0] at H
   by_cases c2 : x8_1 < (l0.length : Int)
   · rw [if_pos c2] at H
     have c2b0 : decide (x8_1 < (l0.length : Int)) = true := decide_eq_true c2
     clear c2
     by_cases c3 : 0 ≤ x8_1
     · rw [if_pos c3] at H
       have c3b0 : decide (0 ≤ x8_1) = true := decide_eq_true c3
       clear c3
       by_cases c4 : x8_1 < (l0.length : Int)
       · rw [if_pos c4] at H
         have c4b0 : decide (x8_1 < (l0.length : Int)) = true := decide_eq_true c4
         clear c4
         by_cases c5 : x8_1 > 0
         · rw [if_pos c5] at H
           have c5b0 : decide (0 < x8_1) = true := decide_eq_true c5
           clear c5
           by_cases c6 : x3_1.size + 1 ≤ 9223372036854775807
           · rw [if_pos c6] at H
             have c6b0 := eq_true c6
             have c6b1 : decide (x3_1.size + 1 ≤ 9223372036854775807) = true := decide_eq_true c6
             try have c6b2 : (9223372036854775807 < x3_1.size + 1) = False := eq_false (Nat.not_lt.2 c6)
             by_cases c7 : (x3_1 ++ (⟨#[32]⟩ : ByteArray)).size + (rdOf ByteArray.empty l0 x8_1).size ≤ 9223372036854775807
             · rw [if_pos c7] at H
               have c7b0 := eq_true c7
               have c7b1 : decide ((x3_1 ++ (⟨#[32]⟩ : ByteArray)).size + (rdOf ByteArray.empty l0 x8_1).size ≤ 9223372036854775807) = true := decide_eq_true c7
               try have c7b2 : (9223372036854775807 < (x3_1 ++ (⟨#[32]⟩ : ByteArray)).size + (rdOf ByteArray.empty l0 x8_1).size) = False := eq_false (Nat.not_lt.2 c7)
               have H' := am_ H
               clear H
               have p104 : 0 ≤ (x8_1 : Int) := of_decide_eq_true (by first | (with_reducible assumption) | assumption)
               have q104 : x8_1 < (l0.length : Int) := of_decide_eq_true (by first | (with_reducible assumption) | assumption)
               obtain ⟨ad104, e104, hx104_0⟩ := Kd.at_string HR0.out x8_1 p104 q104
               cases e104
               replace p104 := eq_true p104
               replace q104 := eq_true q104
               go_wp2
               go_roundg k1
               case measure => have := HK1.out; omega
               case rel => exact ⟨((x3_1 ++ (⟨#[32]⟩ : ByteArray)) ++ (rdOf ByteArray.empty l0 x8_1)), (wrap64 (x8_1 + 1)), (by first | rfl | (simp; done) | (simp [*]; done)), (by first | rfl | (simp; done) | (simp [*]; done)), H', ⟨by have := HK1.out; omega⟩, by repeat (first | exact Drawn0.refl _ | apply Drawn0.step)⟩
             rw [if_neg c7] at H
             exact absurd H (by simp)
           rw [if_neg c6] at H
           exact absurd H (by simp)
         rw [if_neg c5] at H
         have c5b0 : decide (0 < x8_1) = false := decide_eq_false c5
         clear c5
         by_cases c8 : x3_1.size + (rdOf ByteArray.empty l0 x8_1).size ≤ 9223372036854775807
         · rw [if_pos c8] at H
           have c8b0 := eq_true c8
           have c8b1 : decide (x3_1.size + (rdOf ByteArray.empty l0 x8_1).size ≤ 9223372036854775807) = true := decide_eq_true c8
           try have c8b2 : (9223372036854775807 < x3_1.size + (rdOf ByteArray.empty l0 x8_1).size) = False := eq_false (Nat.not_lt.2 c8)
           have H' := am_ H
           clear H
           have p104 : 0 ≤ (x8_1 : Int) := of_decide_eq_true (by first | (with_reducible assumption) | assumption)
           have q104 : x8_1 < (l0.length : Int) := of_decide_eq_true (by first | (with_reducible assumption) | assumption)
           obtain ⟨ad104, e104, hx104_0⟩ := Kd.at_string HR0.out x8_1 p104 q104
           cases e104
           replace p104 := eq_true p104
           replace q104 := eq_true q104
           go_wp2
           go_roundg k1
           case measure => have := HK1.out; omega
           case rel => exact ⟨(x3_1 ++ (rdOf ByteArray.empty l0 x8_1)), (wrap64 (x8_1 + 1)), (by first | rfl | (simp; done) | (simp [*]; done)), (by first | rfl | (simp; done) | (simp [*]; done)), H', ⟨by have := HK1.out; omega⟩, by repeat (first | exact Drawn0.refl _ | apply Drawn0.step)⟩
         rw [if_neg c8] at H
         exact absurd H (by simp)
       rw [if_neg c4] at H
       exact absurd H (by simp)
     rw [if_neg c3] at H
     exact absurd H (by simp)
   rw [if_neg c2] at H
   have c2b0 : decide (x8_1 < (l0.length : Int)) = false := decide_eq_false c2
   clear c2
   obtain rfl := Option.some.inj H
   go_wp2
   go_ret
   exact ⟨by first | rfl | (simp; done) | (simp [*]; done), by repeat (first | exact Drawn0.refl _ | apply Drawn0.step)⟩
def script_number.f (a0 : Int) : Option (ByteArray) := (strconv_Itoa.f a0).bind fun t143 => (some t143)
theorem script_number.calls (a0 : Int) (r : ByteArray) (w : World) (hE : sc.Env w) (h : script_number.f a0 = some r) :
 Calls Tryz.prog 33 #[.int .i64 a0] w fun e w' => e = .returned (.string r) ∧ Below w.heap.size w w' := by
 have HE := am_ hE
 clear hE
 have HB := am_ (Below.refl w.heap.size w)
 have H : ((strconv_Itoa.f a0).bind fun t143 => (some t143)) = some r := h
 clear h
 replace H := Option.bind_eq_some_iff.mp H
 obtain ⟨t143, A20, H⟩ := H
 have A2 := am_ A20
 clear A20
 obtain rfl := Option.some.inj H
 go_enter Tryz.func33, Tryz.ntmps33
 go_wp2_with (first | ((with_reducible refine gate_callee (f := 29) rfl ?_); refine goesL_ (some 4) rfl rfl Tryz.func29 (by kernel_rfl) rfl #[.int .i64 a0] rfl (by (try simp only [aT, aK, aL]); first | done | rfl | (simp only [List.length_drop, List.length_take]; rfl)) ?_; (with_reducible refine (strconv_Itoa.calls a0 t143 _ ?side1 A2.out).mono ?_); (case side1 => exact sc.Env.below HE.out (by repeat (first | (with_reducible first | exact HB.out | apply b1_ | apply b2_ | apply b3_) | exact HB.out))); rintro e w3 ⟨rfl, hb⟩; refine ⟨_, rfl, ?_⟩; replace HB := am_ (below_step (by repeat (first | (with_reducible first | exact HB.out | apply b1_ | apply b2_ | apply b3_) | exact HB.out)) hb); (try clear hb)))
 go_ret
 exact ⟨by first | rfl | (simp [errW_none, errW_some] <;> rfl) | (simp [*, errW_none, errW_some] <;> rfl), by repeat (first | (with_reducible first | exact HB.out | apply b1_ | apply b2_ | apply b3_) | exact HB.out)⟩
end Go.Proofs.YtndbbgihpoiojaaGreatDoor.Q
namespace Go.Proofs.YtndbbgihpoiojaaGreatDoor.Q
open Go.RowKit Go.Proofs.YtndbbgihpoiojaaGreatDoorW.PrintWords Go.Proofs.YtndbbgihpoiojaaGreatDoorW.PrintLast
def zeroB (x : S49) (b1 b2 b3 b4 b5 b6 : Bool) : Bool := (b1 || (x.f1.f0 == 0 && x.f1.f1 == 0)) && (b2 || x.f2 == 0) && (b3 || x.f3.toList == []) && (b4 || x.f4.toList == []) && (b5 || (x.f5.length : Int) == 0) && (b6 || x.f6 == 0)
theorem zero_calls (x : S49) (A : Option Addr) (c : Nat) (b1 b2 b3 b4 b5 b6 : Bool) (w : World)
 (hb : (b1, b2, b3, b4, b5, b6) ∈ [(false, false, false, false, false, false), (true, true, true, false, false, false), (true, true, true, true, false, true), (true, true, true, false, true, false), (true, false, false, false, false, false)]) :
 Calls Tryz.prog 56 #[.agg #[.int .i64 x.f0, .int .i64 x.f1.f0, .int .i64 x.f1.f1, .int .i64 x.f2, .string x.f3, .string x.f4, .slice A x.f5.length c, .int .i64 x.f6], .bool b1, .bool b2, .bool b3, .bool b4, .bool b5, .bool b6] w fun e w' => e = .returned (.bool (zeroB x b1 b2 b3 b4 b5 b6)) ∧ Below w.heap.size w w' := by
 obtain ⟨f0, ⟨g0, g1⟩, f2, f3, f4, f5, f6⟩ := x
 simp only [List.mem_cons, Prod.mk.injEq, List.not_mem_nil, or_false] at hb
 obtain ⟨q1, hq1⟩ : ∃ q, q = (g0 == 0 && g1 == 0) := ⟨_, rfl⟩
 obtain ⟨q2, hq2⟩ : ∃ q, q = (f2 == 0) := ⟨_, rfl⟩
 obtain ⟨q3, hq3⟩ : ∃ q, q = (f3.toList == []) := ⟨_, rfl⟩
 obtain ⟨q4, hq4⟩ : ∃ q, q = (f4.toList == []) := ⟨_, rfl⟩
 obtain ⟨q5, hq5⟩ : ∃ q, q = ((f5.length : Int) == 0) := ⟨_, rfl⟩
 obtain ⟨q6, hq6⟩ : ∃ q, q = (f6 == 0) := ⟨_, rfl⟩
 have hz : zeroB ⟨f0, ⟨g0, g1⟩, f2, f3, f4, f5, f6⟩ b1 b2 b3 b4 b5 b6 = ((b1 || q1) && (b2 || q2) && (b3 || q3) && (b4 || q4) && (b5 || q5) && (b6 || q6)) := by rw [hq1, hq2, hq3, hq4, hq5, hq6]; rfl
 rw [hz]
 have HQ1 := am_ hq1
 have HQ2 := am_ hq2
 have HQ3 := am_ hq3
 have HQ4 := am_ hq4
 have HQ5 := am_ hq5
 have HQ6 := am_ hq6
 clear hz hq1 hq2 hq3 hq4 hq5 hq6
 rcases hb with ⟨rfl, rfl, rfl, rfl, rfl, rfl⟩ | ⟨rfl, rfl, rfl, rfl, rfl, rfl⟩ | ⟨rfl, rfl, rfl, rfl, rfl, rfl⟩ | ⟨rfl, rfl, rfl, rfl, rfl, rfl⟩ | ⟨rfl, rfl, rfl, rfl, rfl, rfl⟩
 all_goals
  go_enter Tryz.func56, Tryz.ntmps56
  go_wp2
  all_goals
   go_ret
   have e1 := HQ1.out
   have e2 := HQ2.out
   have e3 := HQ3.out
   have e4 := HQ4.out
   have e5 := HQ5.out
   have e6 := HQ6.out
   clear HQ1 HQ2 HQ3 HQ4 HQ5 HQ6
   refine ⟨?_, b1_ (Below.refl _ _) _⟩
   simp_all
end Go.Proofs.YtndbbgihpoiojaaGreatDoor.Q
namespace Go.Proofs.YtndbbgihpoiojaaGreatDoor.Q
open Go.RowKit Go.Proofs.YtndbbgihpoiojaaGreatDoorW.PrintWords Go.Proofs.YtndbbgihpoiojaaGreatDoorW.PrintLast Go.Proofs.YtndbbgihpoiojaaGreatDoorW.PrintMore
attribute [local go_sem] max2_int min2_int max_two min_two max_three min_three max_four min_four   -- for this text's walks alone
mutual
def cloisterref26_Quote.l0 : Nat → ByteArray → List Int → Option (ByteArray)
 | 0, _, _ => none
 | k + 1, x0, x3 => if (x0.size : Int) > 0 then ((utf8_DecodeRuneInString.f x0).bind fun bt204 => (if bt204.1 = 65533 then (cloisterref26_Quote.j1 k x0 x3 bt204.1 bt204.2 (decide (bt204.2 > 1))) else (cloisterref26_Quote.j1 k x0 x3 bt204.1 bt204.2 true))) else (if x3.length < 140737488355328 then (some (strOfNums (x3 ++ [34]))) else (none))
def cloisterref26_Quote.j1 : Nat → ByteArray → List Int → Int → Int → Bool → Option (ByteArray)
 | 0, _, _, _, _, _ => none
 | k + 1, x0, x3, x4, x5, x6 => if x6 = true then (if x4 ≥ 33 then (if x4 ≤ 126 then (if x4 = 34 then (cloisterref26_Quote.j2 k x0 x3 x5 (decide (x4 ≥ 161))) else (if x4 = 37 then (cloisterref26_Quote.j2 k x0 x3 x5 (decide (x4 ≥ 161))) else (cloisterref26_Quote.j2 k x0 x3 x5 true))) else (cloisterref26_Quote.j2 k x0 x3 x5 (decide (x4 ≥ 161)))) else (cloisterref26_Quote.j2 k x0 x3 x5 (decide (x4 ≥ 161)))) else (cloisterref26_Quote.j2 k x0 x3 x5 false)
def cloisterref26_Quote.j2 : Nat → ByteArray → List Int → Int → Bool → Option (ByteArray)
 | 0, _, _, _, _ => none
 | k + 1, x0, x3, x5, x43 => if x43 = true then (if 0 ≤ x5 then (if x5 ≤ (x0.size : Int) then (if x3.length + (x0.extract 0 (x5 : Int).toNat).size < 140737488355328 then (cloisterref26_Quote.l0 k (x0.extract (x5 : Int).toNat x0.size) (x3 ++ bytesOf (x0.extract 0 (x5 : Int).toNat))) else (none)) else (none)) else (none)) else (cloisterref26_Quote.l1 k x0 x3 x5 0)
def cloisterref26_Quote.l1 : Nat → ByteArray → List Int → Int → Int → Option (ByteArray)
 | 0, _, _, _, _ => none
 | k + 1, x0, x3, x5, x7 => if x7 < x5 then (if 0 ≤ x7 then (if x7 < (x0.size : Int) then (if 0 ≤ ((Int.tdiv (bt x0 x7) 16) % 256) then (if ((Int.tdiv (bt x0 x7) 16) % 256) < 16 then (if 0 ≤ (Int.tmod (bt x0 x7) 16) then (if (Int.tmod (bt x0 x7) 16) < 16 then ((some (([37, bt (⟨#[48, 49, 50, 51, 52, 53, 54, 55, 56, 57, 65, 66, 67, 68, 69, 70]⟩ : ByteArray) ((Int.tdiv (bt x0 x7) 16) % 256), bt (⟨#[48, 49, 50, 51, 52, 53, 54, 55, 56, 57, 65, 66, 67, 68, 69, 70]⟩ : ByteArray) (Int.tmod (bt x0 x7) 16)] : List Int) : List Int)).bind fun y209 => (if x3.length + y209.length < 140737488355328 then (cloisterref26_Quote.l1 k x0 (x3 ++ y209) x5 (wrap64 (x7 + 1))) else (none))) else (none)) else (none)) else (none)) else (none)) else (none)) else (none)) else (if 0 ≤ x5 then (if x5 ≤ (x0.size : Int) then (cloisterref26_Quote.l0 k (x0.extract (x5 : Int).toNat x0.size) x3) else (none)) else (none))
end
def cloisterref26_Quote.f (k : Nat) (a0 : ByteArray) : Option (ByteArray) := cloisterref26_Quote.l0 k a0 (([34] : List Int))
def cloisterref26_Quote.T10 : Bool × List (List Nat × List Nat) := (true, [([], []), ([], []), ([], []), ([1, 2], [1, 2]), ([3], [3]), ([4], [4]), ([], []), ([], []), ([6, 7], [6, 7]), ([8], [8]), ([9], [9]), ([5, 10], [5, 10]), ([0, 11], [0, 11]), ([12, 12, 0, 1, 2, 3, 4, 5, 6, 7, 8, 9, 10, 11, 12], [0, 12])])
def cloisterref26_Quote.B10 : List Nat := [0, 0, 0, 6, 14, 30, 0, 0, 192, 448, 960, 2046, 4095, 8191]
theorem cloisterref26_Quote.tab10 : rtab .any (opsOf Tryz.f21 10) = cloisterref26_Quote.T10 := by kernel_rfl
theorem cloisterref26_Quote.bits10 : waitsOk cloisterref26_Quote.T10.2 cloisterref26_Quote.B10 = true := by kernel_rfl
theorem cloisterref26_Quote.calls (k : Nat) (a0 : ByteArray) (r : ByteArray) (w : World) (hE : sc.Env w) (h : cloisterref26_Quote.f k a0 = some r) :
 Calls Tryz.prog 21 #[.string a0] w fun e w' => e = .returned (.string r) ∧ Below w.heap.size w w' := by
 have HE := am_ hE
 clear hE
 have HB := am_ (Below.refl w.heap.size w)
 have H : (cloisterref26_Quote.l0 k a0 (([34] : List Int))) = some r := h
 clear h
 obtain ⟨y198, hy198⟩ : ∃ y_ : List Int, y_ = (([34] : List Int)) := ⟨_, rfl⟩
 replace H : (cloisterref26_Quote.l0 k a0 y198) = some r := by first | (rw [hy198]; with_reducible exact H) | (have H2_ := (Option.bind_some _ _).symm.trans H; rw [hy198]; with_reducible exact H2_) | (have H2_ := (Option.bind_some _ _).symm.trans H; with_reducible exact H2_) | with_reducible exact H | (rw [hy198]; exact H) | exact H
 have Ny198 := am_ hy198
 clear hy198
 have H' := am_ H
 clear H
 go_enter Tryz.func21, Tryz.ntmps21
 go_wp2_with (first | ((with_reducible refine gate_dst (N := 8) rfl ?_); refine Kd.R_lit (Kd.int .u8) _ 5 ?hg (N := 8) ?hd (xs := ([34] : List Int)) (inner := [.int .u8 34]) (ok := fun _ => True) (okp := fun _ => True) ?hr ?hp (fun _ hk => hk) trivial (Below.refl _ _) (Nat.le_refl _) (by simp) ?_; (case hd => rfl); (case hg => rfl); (case hr => first | (go_simp; done) | (go_simp; rfl)); (case hp => exact (Reps.one (show Kd.M (Kd.int .u8) _ _ _ 34 [.int .u8 34] from rfl) (Reps.none _ _))); intro v199 w2 ho3 hb hg_ hnew_; clear hg_ hnew_; (first | rw [← Ny198.out] at ho3 | (simp only [Int.reduceToNat] at ho3; rw [← Ny198.out] at ho3)); have HO200 := am_ (Kd.R_lower ho3 (below_size (by repeat (first | (with_reducible first | exact HB.out | apply b1_ | apply b2_ | apply b3_) | exact HB.out)))); replace HB := am_ (below_step (by repeat (first | (with_reducible first | exact HB.out | apply b1_ | apply b2_ | apply b3_) | exact HB.out)) hb); clear hb ho3))
 go_loopg [0, 3] k (fun kq v0 v3 w' => ∃ (x0_1 : ByteArray) (x3_1 : List Int), v0 = .string x0_1 ∧ Aside0 (cloisterref26_Quote.l0 kq x0_1 x3_1 = some r) ∧ Aside0 (kq ≤ k) ∧ Aside0 (Kd.R (Kd.int .u8) 5 w' w.heap.size (fun _ => True) v3 x3_1) ∧ Aside0 (Below w.heap.size w w'))
 case atStart => exact ⟨(a0), (y198), (by first | rfl | (simp; done) | (simp [*]; done)), H', ⟨Nat.le_refl _⟩, ⟨by (with_reducible repeat (first | apply r1_ | apply r2_ | apply r3_)); exact HO200.out⟩, ⟨by repeat (first | (with_reducible first | exact HB.out | apply b1_ | apply b2_ | apply b3_) | exact HB.out)⟩⟩
 case round =>
  clear H'
  try clear c2
  try clear p2
  obtain ⟨x0_1, x3_1, rfl, HA, HK1, HO_3, HB⟩ := hrel
  cases gk with
  | zero => exact absurd HA.out (by simp [cloisterref26_Quote.l0])
  | succ k1 =>
   have H := HA.out
   clear HA
   simp only [cloisterref26_Quote.l0] at H
   by_cases c4 : (x0_1.size : Int) > 0
   · rw [if_pos c4] at H
     have c4b0 : decide (0 < (x0_1.size : Int)) = true := decide_eq_true c4
     have c4b1 : decide (0 < x0_1.size) = true := decide_eq_true (by omega)
     clear c4
     replace H := Option.bind_eq_some_iff.mp H
     obtain ⟨⟨t204, t205⟩, A50, H⟩ := H
     replace H : (if t204 = 65533 then (cloisterref26_Quote.j1 k1 x0_1 x3_1 t204 t205 (decide (t205 > 1))) else (cloisterref26_Quote.j1 k1 x0_1 x3_1 t204 t205 true)) = some r := H
     have A5 := am_ A50
     clear A50
     have HC6 := am_ H
     clear H
     go_upto_region 4 with (first | ((with_reducible refine gate_callee (f := 36) rfl ?_); refine goesL_ (some 14) rfl rfl Tryz.func36 (by kernel_rfl) rfl #[.string x0_1] rfl (by (try simp only [aT, aK, aL]); first | done | rfl | (simp only [List.length_drop, List.length_take]; rfl)) ?_; (with_reducible refine (utf8_DecodeRuneInString.calls x0_1 t204 t205 _ ?side1 A5.out).mono ?_); (case side1 => exact sc.Env.below HE.out (by repeat (first | (with_reducible first | exact HB.out | apply b1_ | apply b2_ | apply b3_) | exact HB.out))); rintro e w7 ⟨rfl, hb⟩; refine ⟨_, rfl, ?_⟩; replace HO_3 := am_ (Kd.R_below (by (with_reducible repeat (first | apply r1_ | apply r2_ | apply r3_)); exact HO_3.out) hb); replace HB := am_ (below_step (by repeat (first | (with_reducible first | exact HB.out | apply b1_ | apply b2_ | apply b3_) | exact HB.out)) hb); (try clear hb); (try clear hk)))
     (try simp only [Act.put, List.setIfInBounds_toArray, List.set_cons_zero, List.set_cons_succ])
     go_cut [6] (fun v6 wc => ∃ (kq : Nat) (x6_5 : Bool), v6 = .bool x6_5 ∧ Aside0 (cloisterref26_Quote.j1 kq x0_1 x3_1 t204 t205 x6_5 = some r) ∧ Aside0 (kq ≤ k1) ∧ Aside0 (Kd.R (Kd.int .u8) 5 wc w.heap.size (fun _ => True) u3 x3_1) ∧ Aside0 (Below w.heap.size w wc))
     case first =>
      have H := HC6.out
      clear HC6
      by_cases c8 : t204 = 65533
      · rw [if_pos c8] at H
        have c8b0 : (t204 == 65533) = true := beq_iff_eq.mpr c8
        have c8b1 : (t204 != 65533) = false := bne_eq_false_iff_eq.mpr c8
        clear c8
        (first | rw [c8b0] | rw [c8b1] | rw [c8b2] | (simp only [i64_w, i32_w]; rw [c8b0]) | (simp only [i64_w, i32_w]; rw [c8b1]) | skip)
        have H' := am_ H
        clear H
        go_wp2
        go_meet
        case rel => exact ⟨_, (decide (t205 > 1)), (by first | rfl | (simp; done) | (simp [*]; done)), H', ⟨by have := HK1.out; first | omega | exact Nat.le_refl _⟩, ⟨by (with_reducible repeat (first | apply r1_ | apply r2_ | apply r3_)); exact HO_3.out⟩, ⟨by repeat (first | (with_reducible first | exact HB.out | apply b1_ | apply b2_ | apply b3_) | exact HB.out)⟩⟩
      rw [if_neg c8] at H
      have c8b0 : (t204 == 65533) = false := beq_eq_false_iff_ne.mpr c8
      have c8b1 : (t204 != 65533) = true := bne_iff_ne.mpr c8
      (first | rw [c8b0] | rw [c8b1] | rw [c8b2] | (simp only [i64_w, i32_w]; rw [c8b0]) | (simp only [i64_w, i32_w]; rw [c8b1]) | skip)
      have H' := am_ H
      clear H
      go_wp2
      go_meet
      case rel => exact ⟨_, (true), (by first | rfl | (simp; done) | (simp [*]; done)), H', ⟨by have := HK1.out; first | omega | exact Nat.le_refl _⟩, ⟨by (with_reducible repeat (first | apply r1_ | apply r2_ | apply r3_)); exact HO_3.out⟩, ⟨by repeat (first | (with_reducible first | exact HB.out | apply b1_ | apply b2_ | apply b3_) | exact HB.out)⟩⟩
     case rest =>
      clear HC6
      try clear c2
      try clear p2
      try clear c3
      try clear c4
      try clear c4b0
      try clear c4b1
      try clear c8
      try clear c8b0
      try clear c8b1
      try clear c8b2
      try clear p2
      obtain ⟨kq, x6_5, rfl, HA, HJ5, HO_3, HB⟩ := hcut
      cases kq with
      | zero => exact absurd HA.out (by simp [cloisterref26_Quote.j1])
      | succ kj5 =>
       have H := HA.out
       clear HA
       simp only [cloisterref26_Quote.j1] at H
       have HC9 := am_ H
       clear H
       go_upto_region 5 with (fail)
       go_cut [43] (fun v43 wc => ∃ (kq : Nat) (x43_8 : Bool), v43 = .bool x43_8 ∧ Aside0 (cloisterref26_Quote.j2 kq x0_1 x3_1 t205 x43_8 = some r) ∧ Aside0 (kq ≤ kj5) ∧ Aside0 (Kd.R (Kd.int .u8) 5 wc w.heap.size (fun _ => True) u3 x3_1) ∧ Aside0 (Below w.heap.size w wc))
       case first =>
        have H := HC9.out
        clear HC9
        by_cases c10 : x6_5 = true
        · subst c10
          have H1 : (if t204 ≥ 33 then (if t204 ≤ 126 then (if t204 = 34 then (cloisterref26_Quote.j2 kj5 x0_1 x3_1 t205 (decide (t204 ≥ 161))) else (if t204 = 37 then (cloisterref26_Quote.j2 kj5 x0_1 x3_1 t205 (decide (t204 ≥ 161))) else (cloisterref26_Quote.j2 kj5 x0_1 x3_1 t205 true))) else (cloisterref26_Quote.j2 kj5 x0_1 x3_1 t205 (decide (t204 ≥ 161)))) else (cloisterref26_Quote.j2 kj5 x0_1 x3_1 t205 (decide (t204 ≥ 161)))) = some r := by rw [if_pos rfl] at H; exact H
          clear H
          have H := H1
          clear H1
          by_cases c11 : t204 ≥ 33
          · rw [if_pos c11] at H
            have c11b0 : decide (33 ≤ t204) = true := decide_eq_true c11
            clear c11
            (first | rw [c11b0] | rw [c11b1] | rw [c11b2] | (simp only [i64_w, i32_w]; rw [c11b0]) | (simp only [i64_w, i32_w]; rw [c11b1]) | skip)
            by_cases c12 : t204 ≤ 126
            · rw [if_pos c12] at H
              have c12b0 : decide (t204 ≤ 126) = true := decide_eq_true c12
              clear c12
              by_cases c13 : t204 = 34
              · rw [if_pos c13] at H
                have c13b0 : (t204 == 34) = true := beq_iff_eq.mpr c13
                have c13b1 : (t204 != 34) = false := bne_eq_false_iff_eq.mpr c13
                clear c13
                have H' := am_ H
                clear H
                go_wp2
                go_meet
                case rel => exact ⟨_, (decide (t204 ≥ 161)), (by first | rfl | (simp; done) | (simp [*]; done)), H', ⟨by have := HK1.out; have := HJ5.out; first | omega | exact Nat.le_refl _⟩, ⟨by (with_reducible repeat (first | apply r1_ | apply r2_ | apply r3_)); exact HO_3.out⟩, ⟨by repeat (first | (with_reducible first | exact HB.out | apply b1_ | apply b2_ | apply b3_) | exact HB.out)⟩⟩
              rw [if_neg c13] at H
              have c13b0 : (t204 == 34) = false := beq_eq_false_iff_ne.mpr c13
              have c13b1 : (t204 != 34) = true := bne_iff_ne.mpr c13
              by_cases c14 : t204 = 37
              · rw [if_pos c14] at H
                have c14b0 : (t204 == 37) = true := beq_iff_eq.mpr c14
                have c14b1 : (t204 != 37) = false := bne_eq_false_iff_eq.mpr c14
                clear c14
                have H' := am_ H
                clear H
                go_wp2
                go_meet
                case rel => exact ⟨_, (decide (t204 ≥ 161)), (by first | rfl | (simp; done) | (simp [*]; done)), H', ⟨by have := HK1.out; have := HJ5.out; first | omega | exact Nat.le_refl _⟩, ⟨by (with_reducible repeat (first | apply r1_ | apply r2_ | apply r3_)); exact HO_3.out⟩, ⟨by repeat (first | (with_reducible first | exact HB.out | apply b1_ | apply b2_ | apply b3_) | exact HB.out)⟩⟩
              rw [if_neg c14] at H
              have c14b0 : (t204 == 37) = false := beq_eq_false_iff_ne.mpr c14
              have c14b1 : (t204 != 37) = true := bne_iff_ne.mpr c14
              have H' := am_ H
              clear H
              go_wp2
              go_meet
              case rel => exact ⟨_, (true), (by first | rfl | (simp; done) | (simp [*]; done)), H', ⟨by have := HK1.out; have := HJ5.out; first | omega | exact Nat.le_refl _⟩, ⟨by (with_reducible repeat (first | apply r1_ | apply r2_ | apply r3_)); exact HO_3.out⟩, ⟨by repeat (first | (with_reducible first | exact HB.out | apply b1_ | apply b2_ | apply b3_) | exact HB.out)⟩⟩
            rw [if_neg c12] at H
            have c12b0 : decide (t204 ≤ 126) = false := decide_eq_false c12
            clear c12
            have H' := am_ H
            clear H
            go_wp2
            go_meet
            case rel => exact ⟨_, (decide (t204 ≥ 161)), (by first | rfl | (simp; done) | (simp [*]; done)), H', ⟨by have := HK1.out; have := HJ5.out; first | omega | exact Nat.le_refl _⟩, ⟨by (with_reducible repeat (first | apply r1_ | apply r2_ | apply r3_)); exact HO_3.out⟩, ⟨by repeat (first | (with_reducible first | exact HB.out | apply b1_ | apply b2_ | apply b3_) | exact HB.out)⟩⟩
          rw [if_neg c11] at H
          have c11b0 : decide (33 ≤ t204) = false := decide_eq_false c11
          clear c11
          (first | rw [c11b0] | rw [c11b1] | rw [c11b2] | (simp only [i64_w, i32_w]; rw [c11b0]) | (simp only [i64_w, i32_w]; rw [c11b1]) | skip)
          have H' := am_ H
          clear H
          go_wp2
          go_meet
          case rel => exact ⟨_, (decide (t204 ≥ 161)), (by first | rfl | (simp; done) | (simp [*]; done)), H', ⟨by have := HK1.out; have := HJ5.out; first | omega | exact Nat.le_refl _⟩, ⟨by (with_reducible repeat (first | apply r1_ | apply r2_ | apply r3_)); exact HO_3.out⟩, ⟨by repeat (first | (with_reducible first | exact HB.out | apply b1_ | apply b2_ | apply b3_) | exact HB.out)⟩⟩
        replace c10 := Bool.eq_false_iff.mpr c10
        subst c10
        have H1 : (cloisterref26_Quote.j2 kj5 x0_1 x3_1 t205 false) = some r := by rw [if_neg (show ¬ (false = true) by decide)] at H; exact H
        clear H
        have H := H1
        clear H1
        have H' := am_ H
        clear H
        go_wp2
        go_meet
        case rel => exact ⟨_, (false), (by first | rfl | (simp; done) | (simp [*]; done)), H', ⟨by have := HK1.out; have := HJ5.out; first | omega | exact Nat.le_refl _⟩, ⟨by (with_reducible repeat (first | apply r1_ | apply r2_ | apply r3_)); exact HO_3.out⟩, ⟨by repeat (first | (with_reducible first | exact HB.out | apply b1_ | apply b2_ | apply b3_) | exact HB.out)⟩⟩
       case rest =>
        clear HC9
        try clear c1
        try clear c2
        try clear p2
        try clear c3
        try clear c4
        try clear c4b0
        try clear c4b1
        try clear c8
        try clear c8b0
        try clear c8b1
        try clear c8b2
        try clear c10
        try clear c11
        try clear c11b0
        try clear c11b1
        try clear c11b2
        try clear c12
        try clear c12b0
        try clear c13
        try clear c13b0
        try clear c13b1
        try clear c14
        try clear c14b0
        try clear c14b1
        try clear p2
        obtain ⟨kq, x43_8, rfl, HA, HJ8, HO_3, HB⟩ := hcut
        cases kq with
        | zero => exact absurd HA.out (by simp [cloisterref26_Quote.j2])
        | succ kj8 =>
         have H := HA.out
         clear HA
         simp only [cloisterref26_Quote.j2] at H
         by_cases c15 : x43_8 = true
         · subst c15
           have H1 : (if 0 ≤ t205 then (if t205 ≤ (x0_1.size : Int) then (if x3_1.length + (x0_1.extract 0 (t205 : Int).toNat).size < 140737488355328 then (cloisterref26_Quote.l0 kj8 (x0_1.extract (t205 : Int).toNat x0_1.size) (x3_1 ++ bytesOf (x0_1.extract 0 (t205 : Int).toNat))) else (none)) else (none)) else (none)) = some r := by rw [if_pos rfl] at H; exact H
           clear H
           have H := H1
           clear H1
           by_cases c16 : 0 ≤ t205
           · rw [if_pos c16] at H
             have c16b0 := eq_true c16
             have c16b1 : decide (0 ≤ t205) = true := decide_eq_true c16
             clear c16
             by_cases c17 : t205 ≤ (x0_1.size : Int)
             · rw [if_pos c17] at H
               have c17b0 := eq_true c17
               have c17b1 : decide (t205 ≤ (x0_1.size : Int)) = true := decide_eq_true c17
               clear c17
               by_cases c18 : x3_1.length + (x0_1.extract 0 (t205 : Int).toNat).size < 140737488355328
               · rw [if_pos c18] at H
                 have LMc18 := am_ c18
                 clear c18
                 obtain ⟨y206, hy206⟩ : ∃ y_ : List Int, y_ = (x3_1 ++ bytesOf (x0_1.extract 0 (t205 : Int).toNat)) := ⟨_, rfl⟩
                 replace H : (cloisterref26_Quote.l0 kj8 (x0_1.extract (t205 : Int).toNat x0_1.size) y206) = some r := by first | (rw [hy206]; with_reducible exact H) | (have H2_ := (Option.bind_some _ _).symm.trans H; rw [hy206]; with_reducible exact H2_) | (have H2_ := (Option.bind_some _ _).symm.trans H; with_reducible exact H2_) | with_reducible exact H | (rw [hy206]; exact H) | exact H
                 have Ny206 := am_ hy206
                 clear hy206
                 have c19b0 := eq_true (of_decide_eq_true (by first | (with_reducible assumption) | assumption) : 0 ≤ t205)
                 have c20b0 := eq_true (of_decide_eq_true (by first | (with_reducible assumption) | assumption) : t205 ≤ (x0_1.size : Int))
                 have H' := am_ H
                 clear H
                 go_wp2_with (first | (at_builtin; refine print_append_str (w0 := w) w.heap.size rfl (.tmp 44) _ 38 9 5 rfl Tryz.underlying38 Tryz.underlying9 info5 u3 x3_1 (x0_1.extract 0 (t205 : Int).toNat) rfl rfl ?aO ?aB ?aS ?aL ?_; (case aB => exact (by repeat (first | (with_reducible first | exact HB.out | apply b1_ | apply b2_ | apply b3_) | exact HB.out))); (case aO => exact (Kd.own_of_R (by (with_reducible repeat (first | apply r1_ | apply r2_ | apply r3_)); exact HO_3.out))); (case aS => exact (below_size (by repeat (first | (with_reducible first | exact HB.out | apply b1_ | apply b2_ | apply b3_) | exact HB.out)))); (case aL => have := LMc18.out; omega); intro v207 w21 ho0 hb hg; have ho := Kd.R_of_own (h1 := fun _ => rfl) (ok := fun _ => True) ho0 (fun _ _ => trivial); clear ho0; have hat := True.intro; rw [← Ny206.out] at ho; change Kd.R (Kd.int .u8) 5 w21 w.heap.size (fun _ => True) v207 y206 at ho; replace HB := am_ (hb); have HO208 := am_ (ho); clear HO_3; clear ho hb hg hat))
                 go_roundg kj8
                 case measure => have := HK1.out; have := HJ5.out; have := HJ8.out; omega
                 case rel => exact ⟨(x0_1.extract (t205 : Int).toNat x0_1.size), (y206), (by first | rfl | (simp; done) | (simp [*]; done)), H', ⟨by have := HK1.out; have := HJ5.out; have := HJ8.out; omega⟩, ⟨by (with_reducible repeat (first | apply r1_ | apply r2_ | apply r3_)); exact HO208.out⟩, ⟨by repeat (first | (with_reducible first | exact HB.out | apply b1_ | apply b2_ | apply b3_) | exact HB.out)⟩⟩
               rw [if_neg c18] at H
               exact absurd H (by simp)
             rw [if_neg c17] at H
             exact absurd H (by simp)
           rw [if_neg c16] at H
           exact absurd H (by simp)
         replace c15 := Bool.eq_false_iff.mpr c15
         subst c15
         have H1 : (cloisterref26_Quote.l1 kj8 x0_1 x3_1 t205 0) = some r := by rw [if_neg (show ¬ (false = true) by decide)] at H; exact H
         clear H
         have H := H1
         clear H1
         have H' := am_ H
         clear H
         go_wp2
         go_loopg [3, 7] kj8 (fun kq v3 v7 w' => ∃ (x3_4 : List Int) (x7_4 : Int), v7 = .int .i64 x7_4 ∧ Aside0 (cloisterref26_Quote.l1 kq x0_1 x3_4 t205 x7_4 = some r) ∧ Aside0 (kq ≤ kj8) ∧ Aside0 (Kd.R (Kd.int .u8) 5 w' w.heap.size (fun _ => True) v3 x3_4) ∧ Aside0 (Below w.heap.size w w'))
         case atStart => exact ⟨(x3_1), (0), (by first | rfl | (simp; done) | (simp [*]; done)), H', ⟨Nat.le_refl _⟩, ⟨by (with_reducible repeat (first | apply r1_ | apply r2_ | apply r3_)); exact HO_3.out⟩, ⟨by repeat (first | (with_reducible first | exact HB.out | apply b1_ | apply b2_ | apply b3_) | exact HB.out)⟩⟩
         case round =>
          clear H'
          try clear c1
          try clear c2
          try clear p2
          try clear c3
          try clear c4
          try clear c4b0
          try clear c4b1
          try clear c8
          try clear c8b0
          try clear c8b1
          try clear c8b2
          try clear c10
          try clear c11
          try clear c11b0
          try clear c11b1
          try clear c11b2
          try clear c12
          try clear c12b0
          try clear c13
          try clear c13b0
          try clear c13b1
          try clear c14
          try clear c14b0
          try clear c14b1
          try clear c15
          try clear c16
          try clear c16b0
          try clear c16b1
          try clear c17
          try clear c17b0
          try clear c17b1
          try clear c18
          try clear c19
          try clear c19b0
          try clear c20
          try clear c20b0
          try clear c21
          try clear p2
          obtain ⟨x3_4, x7_4, rfl, HA, HK4, HO_3, HB⟩ := hrel
          cases gk with
          | zero => exact absurd HA.out (by simp [cloisterref26_Quote.l1])
          | succ k4 =>
           have H := HA.out
           clear HA
           simp only [cloisterref26_Quote.l1] at H
           by_cases c22 : x7_4 < t205
           · rw [if_pos c22] at H
             have c22b0 : decide (x7_4 < t205) = true := decide_eq_true c22
             clear c22
             by_cases c23 : 0 ≤ x7_4
             · rw [if_pos c23] at H
               have c23b0 : decide (0 ≤ x7_4) = true := decide_eq_true c23
               clear c23
               by_cases c24 : x7_4 < (x0_1.size : Int)
               · rw [if_pos c24] at H
                 have c24b0 : decide (x7_4 < (x0_1.size : Int)) = true := decide_eq_true c24
                 clear c24
                 obtain ⟨ji26, hji26⟩ : ∃ j_ : Int, ((Int.tdiv (bt x0_1 x7_4) 16) % 256) = j_ := ⟨_, rfl⟩
                 replace H : (if 0 ≤ (ji26) then (if (ji26) < 16 then (if 0 ≤ (Int.tmod (bt x0_1 x7_4) 16) then (if (Int.tmod (bt x0_1 x7_4) 16) < 16 then ((some (([37, bt (⟨#[48, 49, 50, 51, 52, 53, 54, 55, 56, 57, 65, 66, 67, 68, 69, 70]⟩ : ByteArray) (ji26), bt (⟨#[48, 49, 50, 51, 52, 53, 54, 55, 56, 57, 65, 66, 67, 68, 69, 70]⟩ : ByteArray) (Int.tmod (bt x0_1 x7_4) 16)] : List Int) : List Int)).bind fun y209 => (if x3_4.length + y209.length < 140737488355328 then (cloisterref26_Quote.l1 k4 x0_1 (x3_4 ++ y209) t205 (wrap64 (x7_4 + 1))) else (none))) else (none)) else (none)) else (none)) else (none)) = some r := by first | (rw [hji26] at H; exact H) | (simp only [hji26] at H ⊢; exact H)
                 have hji26w : (IntKind.u8.wrap (Int.tdiv (bt x0_1 x7_4) 16)) = ji26 := (IntKind.wrap_u8 _).trans hji26
                 by_cases c27 : 0 ≤ (ji26)
                 · rw [if_pos c27] at H
                   have c27b0 : decide (0 ≤ (ji26)) = true := decide_eq_true c27
                   clear c27
                   by_cases c28 : (ji26) < 16
                   · rw [if_pos c28] at H
                     have c28b0 : decide ((ji26) < 16) = true := decide_eq_true c28
                     clear c28
                     obtain ⟨ji31, hji31⟩ : ∃ j_ : Int, (Int.tmod (bt x0_1 x7_4) 16) = j_ := ⟨_, rfl⟩
                     replace H : (if 0 ≤ (ji31) then (if (ji31) < 16 then ((some (([37, bt (⟨#[48, 49, 50, 51, 52, 53, 54, 55, 56, 57, 65, 66, 67, 68, 69, 70]⟩ : ByteArray) (ji26), bt (⟨#[48, 49, 50, 51, 52, 53, 54, 55, 56, 57, 65, 66, 67, 68, 69, 70]⟩ : ByteArray) (ji31)] : List Int) : List Int)).bind fun y209 => (if x3_4.length + y209.length < 140737488355328 then (cloisterref26_Quote.l1 k4 x0_1 (x3_4 ++ y209) t205 (wrap64 (x7_4 + 1))) else (none))) else (none)) else (none)) = some r := by first | (rw [hji31] at H; exact H) | (simp only [hji31] at H ⊢; exact H)
                     by_cases c32 : 0 ≤ (ji31)
                     · rw [if_pos c32] at H
                       have c32b0 : decide (0 ≤ (ji31)) = true := decide_eq_true c32
                       clear c32
                       by_cases c33 : (ji31) < 16
                       · rw [if_pos c33] at H
                         have c33b0 : decide ((ji31) < 16) = true := decide_eq_true c33
                         clear c33
                         obtain ⟨y209, hy209⟩ : ∃ y_ : List Int, y_ = (([37, bt (⟨#[48, 49, 50, 51, 52, 53, 54, 55, 56, 57, 65, 66, 67, 68, 69, 70]⟩ : ByteArray) (ji26), bt (⟨#[48, 49, 50, 51, 52, 53, 54, 55, 56, 57, 65, 66, 67, 68, 69, 70]⟩ : ByteArray) (ji31)] : List Int)) := ⟨_, rfl⟩
                         replace H : (if x3_4.length + y209.length < 140737488355328 then (cloisterref26_Quote.l1 k4 x0_1 (x3_4 ++ y209) t205 (wrap64 (x7_4 + 1))) else (none)) = some r := by first | (rw [hy209]; with_reducible exact H) | (have H2_ := (Option.bind_some _ _).symm.trans H; rw [hy209]; with_reducible exact H2_) | (have H2_ := (Option.bind_some _ _).symm.trans H; with_reducible exact H2_) | with_reducible exact H | (rw [hy209]; exact H) | exact H
                         have Ny209 := am_ hy209
                         clear hy209
                         by_cases c35 : x3_4.length + y209.length < 140737488355328
                         · rw [if_pos c35] at H
                           have LMc35 := am_ c35
                           clear c35
                           obtain ⟨y212, hy212⟩ : ∃ y_ : List Int, y_ = (x3_4 ++ y209) := ⟨_, rfl⟩
                           replace H : (cloisterref26_Quote.l1 k4 x0_1 y212 t205 (wrap64 (x7_4 + 1))) = some r := by first | (rw [hy212]; with_reducible exact H) | (have H2_ := (Option.bind_some _ _).symm.trans H; rw [hy212]; with_reducible exact H2_) | (have H2_ := (Option.bind_some _ _).symm.trans H; with_reducible exact H2_) | with_reducible exact H | (rw [hy212]; exact H) | exact H
                           have Ny212 := am_ hy212
                           clear hy212
                           have H' := am_ H
                           clear H
                           try go_wp2
                           replace HO_3 := am_ (r3_ HO_3.out)
                           replace HB := am_ (b3_ HB.out)
                           have p25 : 0 ≤ (x7_4 : Int) := of_decide_eq_true (by first | (with_reducible assumption) | assumption)
                           have q25 : x7_4 < (x0_1.size : Int) := of_decide_eq_true (by first | (with_reducible assumption) | assumption)
                           have hx25 := bt_at x0_1 x7_4
                           replace p25 := eq_true p25
                           replace q25 := eq_true q25
                           have p29 : 0 ≤ ((ji26) : Int) := of_decide_eq_true (by first | (with_reducible assumption) | assumption)
                           have q29 : (ji26) < (16 : Int) := of_decide_eq_true (by first | (with_reducible assumption) | assumption)
                           have hx29 := bt_at (⟨#[48, 49, 50, 51, 52, 53, 54, 55, 56, 57, 65, 66, 67, 68, 69, 70]⟩ : ByteArray) (ji26)
                           replace p29 := eq_true p29
                           replace q29 := eq_true q29
                           have p30 : 0 ≤ (x7_4 : Int) := of_decide_eq_true (by first | (with_reducible assumption) | assumption)
                           have q30 : x7_4 < (x0_1.size : Int) := of_decide_eq_true (by first | (with_reducible assumption) | assumption)
                           have hx30 := bt_at x0_1 x7_4
                           replace p30 := eq_true p30
                           replace q30 := eq_true q30
                           have p34 : 0 ≤ ((ji31) : Int) := of_decide_eq_true (by first | (with_reducible assumption) | assumption)
                           have q34 : (ji31) < (16 : Int) := of_decide_eq_true (by first | (with_reducible assumption) | assumption)
                           have hx34 := bt_at (⟨#[48, 49, 50, 51, 52, 53, 54, 55, 56, 57, 65, 66, 67, 68, 69, 70]⟩ : ByteArray) (ji31)
                           replace p34 := eq_true p34
                           replace q34 := eq_true q34
                           refine start_ (n := 14) (S := fun w' => True) (ds := []) #[false, false, false, false, false, false, false, false, false, false, false, false, false, false] (by kernel_rfl) rfl rfl trivial (fun hHeld => ?_); refine with_tabW cloisterref26_Quote.tab10 cloisterref26_Quote.bits10 (fun HT_ HW_ => ?_)
                           generalize wr.drew = w36 at HO_3 HB hHeld ⊢
                           refine pu_ 0 54 (bs_ 14 1) rfl rfl (any_of HT_.out (by kernel_rfl)) rfl (by intro w'; go_simp; with_reducible rfl) (by simp only [Act.put, aS, aZ, aC, i64_w, i32_w]; rfl) (fun _ _ _ h => h) ?_
                           refine pu_ 1 55 (bs_ 14 3) rfl rfl (any_of HT_.out (by kernel_rfl)) rfl (by intro w'; go_simp; with_reducible rfl) (by simp only [Act.put, aS, aZ, aC, i64_w, i32_w]; rfl) (fun _ _ _ h => h) ?_
                           refine pu_ 2 56 (bs_ 14 7) rfl rfl (any_of HT_.out (by kernel_rfl)) rfl (by intro w'; go_simp; with_reducible rfl) (by simp only [Act.put, aS, aZ, aC, i64_w, i32_w]; rfl) (fun _ _ _ h => h) ?_
                           refine pu_ 6 60 (bs_ 14 71) rfl rfl (any_of HT_.out (by kernel_rfl)) rfl (by intro w'; go_simp; with_reducible rfl) (by simp only [Act.put, aS, aZ, aC, i64_w, i32_w]; rfl) (fun _ _ _ h => h) ?_
                           refine pu_ 7 61 (bs_ 14 199) rfl rfl (any_of HT_.out (by kernel_rfl)) rfl (by intro w'; go_simp; with_reducible rfl) (by simp only [Act.put, aS, aZ, aC, i64_w, i32_w]; rfl) (fun _ _ _ h => h) ?_
                           refine take_ (i := 3) (N := some 57) (v := ?_) (a' := ?_) (bs_ 14 207) rfl rfl (take_ofW HT_.out HW_.out (by kernel_rfl)) (fun _ _ _ h => h) (Or.inl ⟨by rfl, ?_⟩) hHeld ?_ ?_
                           rotate_left
                           · intro w' _
                             go_simp
                             with_reducible rfl
                           rotate_left
                           · simp only [Act.put, aS, aZ, aC, i64_w, i32_w]
                             rfl
                           refine pu_ 4 58 (bs_ 14 223) rfl rfl (any_of HT_.out (by kernel_rfl)) rfl (by intro w'; go_simp; with_reducible rfl) (by simp only [Act.put, aS, aZ, aC, i64_w, i32_w]; rfl) (fun _ _ _ h => h) ?_
                           refine take_ (i := 5) (N := some 59) (v := ?_) (a' := ?_) (bs_ 14 255) rfl rfl (take_ofW HT_.out HW_.out (by kernel_rfl)) (fun _ _ _ h => h) (Or.inl ⟨by rfl, ?_⟩) hHeld ?_ ?_
                           rotate_left
                           · intro w' _
                             go_simp
                             with_reducible rfl
                           rotate_left
                           · simp only [Act.put, aS, aZ, aC, i64_w, i32_w]
                             rfl
                           refine take_ (i := 8) (N := some 62) (v := ?_) (a' := ?_) (bs_ 14 511) rfl rfl (take_ofW HT_.out HW_.out (by kernel_rfl)) (fun _ _ _ h => h) (Or.inl ⟨by rfl, ?_⟩) hHeld ?_ ?_
                           rotate_left
                           · intro w' _
                             go_simp
                             with_reducible rfl
                           rotate_left
                           · simp only [Act.put, aS, aZ, aC, i64_w, i32_w]
                             rfl
                           refine pu_ 9 63 (bs_ 14 1023) rfl rfl (any_of HT_.out (by kernel_rfl)) rfl (by intro w'; go_simp; with_reducible rfl) (by simp only [Act.put, aS, aZ, aC, i64_w, i32_w]; rfl) (fun _ _ _ h => h) ?_
                           refine take_ (i := 10) (N := some 64) (v := ?_) (a' := ?_) (bs_ 14 2047) rfl rfl (take_ofW HT_.out HW_.out (by kernel_rfl)) (fun _ _ _ h => h) (Or.inl ⟨by rfl, ?_⟩) hHeld ?_ ?_
                           rotate_left
                           · intro w' _
                             go_simp
                             with_reducible rfl
                           rotate_left
                           · simp only [Act.put, aS, aZ, aC, i64_w, i32_w]
                             rfl
                           refine one_ (i := 11) (N := some 65) (bs_ 14 4095) rfl rfl (one_of HT_.out (by kernel_rfl)) (by decide) (fun K hK => ?_)
                           refine Kd.R_lit_step (Kd.int .u8) _ 5 ?hg (N := 65) ?hd (xs := ([37, bt (⟨#[48, 49, 50, 51, 52, 53, 54, 55, 56, 57, 65, 66, 67, 68, 69, 70]⟩ : ByteArray) (ji26), bt (⟨#[48, 49, 50, 51, 52, 53, 54, 55, 56, 57, 65, 66, 67, 68, 69, 70]⟩ : ByteArray) (ji31)] : List Int)) (inner := [.int .u8 37, .int .u8 (bt (⟨#[48, 49, 50, 51, 52, 53, 54, 55, 56, 57, 65, 66, 67, 68, 69, 70]⟩ : ByteArray) (ji26)), .int .u8 (bt (⟨#[48, 49, 50, 51, 52, 53, 54, 55, 56, 57, 65, 66, 67, 68, 69, 70]⟩ : ByteArray) (ji31))]) (ok := fun _ => True) (okp := fun _ => True) ?hr ?hp (fun _ hk => hk) trivial (Below.refl _ _) (Nat.le_refl _) (by simp) ?_; (case hd => rfl); (case hg => rfl); (case hr => first | (go_simp; done) | (go_simp; rfl)); (case hp => exact (Reps.one (show Kd.M (Kd.int .u8) _ _ _ 37 [.int .u8 37] from rfl) (Reps.one (show Kd.M (Kd.int .u8) _ _ _ (bt (⟨#[48, 49, 50, 51, 52, 53, 54, 55, 56, 57, 65, 66, 67, 68, 69, 70]⟩ : ByteArray) (ji26)) [.int .u8 (bt (⟨#[48, 49, 50, 51, 52, 53, 54, 55, 56, 57, 65, 66, 67, 68, 69, 70]⟩ : ByteArray) (ji26))] from rfl) (Reps.one (show Kd.M (Kd.int .u8) _ _ _ (bt (⟨#[48, 49, 50, 51, 52, 53, 54, 55, 56, 57, 65, 66, 67, 68, 69, 70]⟩ : ByteArray) (ji31)) [.int .u8 (bt (⟨#[48, 49, 50, 51, 52, 53, 54, 55, 56, 57, 65, 66, 67, 68, 69, 70]⟩ : ByteArray) (ji31))] from rfl) (Reps.none _ _)))))
                           intro v210 w37 ho38 hb hg_ hnew_
                           clear hg_ hnew_
                           (first | rw [← Ny209.out] at ho38 | (simp only [Int.reduceToNat] at ho38; rw [← Ny209.out] at ho38))
                           have HO211 := am_ (Kd.R_lower (Kd.R_new' ho38 (Kd.R_lt (by (with_reducible repeat (first | apply r1_ | apply r2_ | apply r3_)); exact HO_3.out))) (below_size (by repeat (first | (with_reducible first | exact HB.out | apply b1_ | apply b2_ | apply b3_) | exact HB.out))))
                           replace HO_3 := am_ (Kd.R_elder' (by (with_reducible repeat (first | apply r1_ | apply r2_ | apply r3_)); exact HO_3.out) (Kd.R_base ho38) hb)
                           replace HB := am_ (below_step (by repeat (first | (with_reducible first | exact HB.out | apply b1_ | apply b2_ | apply b3_) | exact HB.out)) hb)
                           clear hb ho38
                           obtain ⟨Ao40, co40, eo40⟩ := Kd.R_slice HO211.out
                           (first | subst eo40 | (injection eo40 with f1_ f2_ f3_; have f4_ := f1_.symm; have f5_ := f3_.symm; clear f1_ f2_ f3_; subst f4_; subst f5_))
                           refine hK.out _ _ trivial (fun hHeld => ?_)
                           clear hK K
                           refine no_ (by simp only [Act.put, aS, aZ, aC, i64_w, i32_w]; rfl) ?_
                           refine one_ (i := 12) (N := some 66) (bs_ 14 8191) rfl rfl (one_of HT_.out (by kernel_rfl)) (by decide) (fun K hK => ?_)
                           refine Kd.R_append_rows_step (Kd.int .u8) (w0 := w) w.heap.size (by rfl) (.tmp 54) (.tmp 65) 38 5 (.int .u8 0) 1 rfl Tryz.underlying38 info5 rfl (by decide) (by omega) u3 x3_4 y209 _ _ _ (fun k_ => some k_ ≠ (.slice Ao40 y209.length co40 : Value).ownBlock) (fun _ => False) rfl rfl ?aO ?aR (fun _ _ h => h) (fun _ h => h.elim) ?aF ?aB ?aS ?aL ?_
                           (case aR => repeat (first | exact (Kd.R_reads' HO211.out).2.2 | (with_reducible refine Kd.C_alloc ?_ _) | (with_reducible refine Kd.C_drewN ?_ _) | (with_reducible refine Kd.C_drew ?_)))
                           (case aB => exact (by repeat (first | (with_reducible first | exact HB.out | apply b1_ | apply b2_ | apply b3_) | exact HB.out)))
                           (case aF => exact (fun k_ hk => Kd.fresh' (Kd.R_lt (by (with_reducible repeat (first | apply r1_ | apply r2_ | apply r3_)); exact HO211.out)) k_ hk))
                           (case aO => exact (by (with_reducible repeat (first | apply r1_ | apply r2_ | apply r3_)); exact Kd.R_mono HO_3.out (fun _ hk => hk.2)))
                           (case aS => exact (below_size (by repeat (first | (with_reducible first | exact HB.out | apply b1_ | apply b2_ | apply b3_) | exact HB.out))))
                           (case aL => have := LMc35.out; omega)
                           intro v213 w39 ho hb hg hat
                           rw [← Ny212.out] at ho
                           replace HO211 := am_ (Kd.R_after (ok := (fun _ => True)) (by (with_reducible repeat (first | apply r1_ | apply r2_ | apply r3_)); exact HO211.out) hg hat)
                           replace HB := am_ (hb)
                           have HO214 := am_ (ho)
                           clear HO_3
                           clear ho hb hg hat
                           refine hK.out _ _ trivial (fun hHeld => ?_)
                           clear hK K
                           refine no_ (by simp only [Act.put, aS, aZ, aC, i64_w, i32_w]; rfl) ?_
                           refine pu_ 13 3 (bs_ 14 16383) rfl rfl (any_of HT_.out (by kernel_rfl)) rfl (by intro w'; go_simp; with_reducible rfl) (by simp only [Act.put, aS, aZ, aC, i64_w, i32_w]; rfl) (fun _ _ _ h => h) ?_
                           refine done_ (done_of HT_.out (by kernel_rfl)) ?_
                           try go_wp2
                           go_roundg k4
                           case measure => have := HK1.out; have := HJ5.out; have := HJ8.out; have := HK4.out; omega
                           case rel => exact ⟨(y212), (wrap64 (x7_4 + 1)), (by first | rfl | (simp; done) | (simp [*]; done)), H', ⟨by have := HK1.out; have := HJ5.out; have := HJ8.out; have := HK4.out; omega⟩, ⟨by (with_reducible repeat (first | apply r1_ | apply r2_ | apply r3_)); exact Kd.R_mono HO214.out (fun _ hk => trivial)⟩, ⟨by repeat (first | (with_reducible first | exact HB.out | apply b1_ | apply b2_ | apply b3_) | exact HB.out)⟩⟩
                         rw [if_neg c35] at H
                         exact absurd H (by simp)
                       rw [if_neg c33] at H
                       exact absurd H (by simp)
                     rw [if_neg c32] at H
                     exact absurd H (by simp)
                   rw [if_neg c28] at H
                   exact absurd H (by simp)
                 rw [if_neg c27] at H
                 exact absurd H (by simp)
               rw [if_neg c24] at H
               exact absurd H (by simp)
             rw [if_neg c23] at H
             exact absurd H (by simp)
           rw [if_neg c22] at H
           have c22b0 : decide (x7_4 < t205) = false := decide_eq_false c22
           clear c22
           by_cases c41 : 0 ≤ t205
           · rw [if_pos c41] at H
             have c41b0 := eq_true c41
             have c41b1 : decide (0 ≤ t205) = true := decide_eq_true c41
             clear c41
             by_cases c42 : t205 ≤ (x0_1.size : Int)
             · rw [if_pos c42] at H
               have c42b0 := eq_true c42
               have c42b1 : decide (t205 ≤ (x0_1.size : Int)) = true := decide_eq_true c42
               clear c42
               have H' := am_ H
               clear H
               go_wp2
               go_roundg k4
               case measure => have := HK1.out; have := HJ5.out; have := HJ8.out; have := HK4.out; omega
               case rel => exact ⟨(x0_1.extract (t205 : Int).toNat x0_1.size), (x3_4), (by first | rfl | (simp; done) | (simp [*]; done)), H', ⟨by have := HK1.out; have := HJ5.out; have := HJ8.out; have := HK4.out; omega⟩, ⟨by (with_reducible repeat (first | apply r1_ | apply r2_ | apply r3_)); exact HO_3.out⟩, ⟨by repeat (first | (with_reducible first | exact HB.out | apply b1_ | apply b2_ | apply b3_) | exact HB.out)⟩⟩
             rw [if_neg c42] at H
             exact absurd H (by simp)
           rw [if_neg c41] at H
           exact absurd H (by simp)
   rw [if_neg c4] at H
   have c4b0 : decide (0 < (x0_1.size : Int)) = false := decide_eq_false c4
   have c4b1 : decide (0 < x0_1.size) = false := decide_eq_false (by omega)
   clear c4
   by_cases c43 : x3_1.length < 140737488355328
   · rw [if_pos c43] at H
     have LMc43 := am_ c43
     clear c43
     obtain ⟨y201, hy201⟩ : ∃ y_ : List Int, y_ = (x3_1 ++ [34]) := ⟨_, rfl⟩
     replace H : (some (strOfNums y201)) = some r := by first | (rw [hy201]; with_reducible exact H) | (have H2_ := (Option.bind_some _ _).symm.trans H; rw [hy201]; with_reducible exact H2_) | (have H2_ := (Option.bind_some _ _).symm.trans H; with_reducible exact H2_) | with_reducible exact H | (rw [hy201]; exact H) | exact H
     have Ny201 := am_ hy201
     clear hy201
     obtain rfl := Option.some.inj H
     go_wp2_with (first | ((with_reducible refine gate_builtin (b := .append) (xs := #[.tmp 70, .tmp 71]) rfl ?_); at_builtin; refine Kd.R_append (Kd.int .u8) (w0 := w) w.heap.size rfl (.tmp 70) (.tmp 71) 38 5 (.int .u8 0) 1 rfl Tryz.underlying38 info5 rfl (by decide) (by omega) u3 x3_1 34 [.int .u8 34] (fun _ => True) (fun _ => False) rfl rfl ?aP (fun _ hk => hk.elim) ?aF ?aO ?aB ?aS ?aL ?_; (case aP => exact rfl); (case aB => exact (by repeat (first | (with_reducible first | exact HB.out | apply b1_ | apply b2_ | apply b3_) | exact HB.out))); (case aF => exact (fun _ _ => trivial)); (case aO => exact (by (with_reducible repeat (first | apply r1_ | apply r2_ | apply r3_)); exact HO_3.out)); (case aS => exact (below_size (by repeat (first | (with_reducible first | exact HB.out | apply b1_ | apply b2_ | apply b3_) | exact HB.out)))); (case aL => have := LMc43.out; omega); intro v202 w44 ho hb hg hat; rw [← Ny201.out] at ho; replace HB := am_ (hb); have HO203 := am_ (ho); clear HO_3; clear ho hb hg hat; have hcv45 := own_string (P := Tryz.prog) Tryz.underlying38 Tryz.underlying5 Tryz.underlying9 (Kd.own_of_R HO203.out)))
     go_ret
     exact ⟨by first | rfl | (simp [errW_none, errW_some] <;> rfl) | (simp [*, errW_none, errW_some] <;> rfl), by repeat (first | (with_reducible first | exact HB.out | apply b1_ | apply b2_ | apply b3_) | exact HB.out)⟩
   rw [if_neg c43] at H
   exact absurd H (by simp)
end Go.Proofs.YtndbbgihpoiojaaGreatDoor.Q
namespace Go.Proofs.YtndbbgihpoiojaaGreatDoor.Q
open Go.RowKit Go.Proofs.YtndbbgihpoiojaaGreatDoorW.PrintWords Go.Proofs.YtndbbgihpoiojaaGreatDoorW.PrintLast
theorem bt_of (s : ByteArray) (i : Nat) (b : UInt8) (h : s.data.toList[i]? = some b) : bt s (i : Int) = (b.toNat : Int) := by
 obtain ⟨⟨l⟩⟩ := s
 have h' : l[i]? = some b := h
 obtain ⟨hi, rfl⟩ := List.getElem?_eq_some_iff.1 h'
 have hs : ((i : Int)).toNat < (ByteArray.mk ⟨l⟩).size := by
  show ((i : Int)).toNat < l.toArray.size
  simpa using hi
 rw [← bt_at _ _ hs]
 rfl
theorem hex_bt : ∀ (k : Nat), k < 16 → bt (⟨#[48, 49, 50, 51, 52, 53, 54, 55, 56, 57, 65, 66, 67, 68, 69, 70]⟩ : ByteArray) (k : Int) = ((sc.hexD k).toNat : Int) := by
 intro k hk
 have : k = 0 ∨ k = 1 ∨ k = 2 ∨ k = 3 ∨ k = 4 ∨ k = 5 ∨ k = 6 ∨ k = 7 ∨ k = 8 ∨ k = 9 ∨ k = 10 ∨ k = 11 ∨ k = 12 ∨ k = 13 ∨ k = 14 ∨ k = 15 := by omega
 rcases this with rfl | rfl | rfl | rfl | rfl | rfl | rfl | rfl | rfl | rfl | rfl | rfl | rfl | rfl | rfl | rfl <;> decide
theorem pct_nums (b : UInt8) : ([37, bt (⟨#[48, 49, 50, 51, 52, 53, 54, 55, 56, 57, 65, 66, 67, 68, 69, 70]⟩ : ByteArray) ((Int.tdiv (b.toNat : Int) 16) % 256), bt (⟨#[48, 49, 50, 51, 52, 53, 54, 55, 56, 57, 65, 66, 67, 68, 69, 70]⟩ : ByteArray) (Int.tmod (b.toNat : Int) 16)] : List Int) = nums8 (sc.pct b) := by
 have hb := b.toNat_lt
 have e1 : (Int.tdiv (b.toNat : Int) 16) % 256 = ((b.toNat / 16 : Nat) : Int) := by
  rw [Int.tdiv_eq_ediv_of_nonneg (by omega)]
  omega
 have e2 : Int.tmod (b.toNat : Int) 16 = ((b.toNat % 16 : Nat) : Int) := by
  rw [Int.tmod_eq_emod_of_nonneg (by omega)]
  omega
 rw [e1, e2, hex_bt _ (by omega), hex_bt _ (by omega)]
 rfl
theorem pct_len (b : UInt8) : (sc.pct b).length = 3 := rfl
theorem l1_end {k : Nat} {x0 : ByteArray} {x3 : List Int} {x5 x7 : Int} (h : ¬ x7 < x5) (h0 : 0 ≤ x5) (h1 : x5 ≤ (x0.size : Int)) : cloisterref26_Quote.l1 (k + 1) x0 x3 x5 x7 = cloisterref26_Quote.l0 k (x0.extract (x5 : Int).toNat x0.size) x3 := by
 rw [cloisterref26_Quote.l1, if_neg h, if_pos h0, if_pos h1]
theorem l1_step {k : Nat} {x0 : ByteArray} {x3 : List Int} {x5 : Int} {i : Nat} {b : UInt8} (h : (i : Int) < x5) (h1 : (i : Int) < (x0.size : Int)) (hb : bt x0 (i : Int) = (b.toNat : Int)) (hl : x3.length + 3 < 140737488355328) (hi : i < 1099511627776) : cloisterref26_Quote.l1 (k + 1) x0 x3 x5 (i : Int) = cloisterref26_Quote.l1 k x0 (x3 ++ nums8 (sc.pct b)) x5 ((i + 1 : Nat) : Int) := by
 have hb2 := b.toNat_lt
 have e1 : (Int.tdiv (b.toNat : Int) 16) % 256 = ((b.toNat / 16 : Nat) : Int) := by
  rw [Int.tdiv_eq_ediv_of_nonneg (by omega)]
  omega
 have e2 : Int.tmod (b.toNat : Int) 16 = ((b.toNat % 16 : Nat) : Int) := by
  rw [Int.tmod_eq_emod_of_nonneg (by omega)]
  omega
 have hw1 : wrap64 ((i : Int) + 1) = ((i + 1 : Nat) : Int) := by unfold wrap64; omega
 have hp : x3.length + (nums8 (sc.pct b)).length < 140737488355328 := by rw [nums8_length, pct_len]; exact hl
 have d0 : 0 ≤ (Int.tdiv (b.toNat : Int) 16) % 256 := by rw [e1]; exact Int.natCast_nonneg _
 have d1 : (Int.tdiv (b.toNat : Int) 16) % 256 < 16 := by rw [e1]; omega
 have m0 : 0 ≤ Int.tmod (b.toNat : Int) 16 := by rw [e2]; exact Int.natCast_nonneg _
 have m1 : Int.tmod (b.toNat : Int) 16 < 16 := by rw [e2]; omega
 rw [cloisterref26_Quote.l1, if_pos h, if_pos (Int.natCast_nonneg i), if_pos h1]
 rw [hb, if_pos d0, if_pos d1, if_pos m0, if_pos m1, pct_nums, hw1, Option.bind_some, if_pos hp]
theorem rq_l1 (M : Nat) (hM : M < 140737488355328) (x0 : ByteArray) (wd : Nat) (hw : wd ≤ x0.size) (hs : x0.size ≤ 1099511627776) (K d : Nat) : ∀ (i : Nat) (acc : List UInt8), i + d = wd → acc.length + 3 * d ≤ M →
 cloisterref26_Quote.l1 (K + 1 + d) x0 (nums8 acc) wd i = cloisterref26_Quote.l0 K (x0.extract wd x0.size) (nums8 (acc ++ ((x0.data.toList.take wd).drop i).flatMap sc.pct)) := by
 induction d with
 | zero =>
  intro i acc hi hl
  have hd : (x0.data.toList.take wd).drop i = [] := by
   apply List.drop_eq_nil_of_le
   have := List.length_take_le wd x0.data.toList
   omega
  rw [hd, Nat.add_zero, l1_end (by omega) (by omega) (by omega), List.flatMap_nil, List.append_nil]
  rfl
 | succ d ih =>
  intro i acc hi hl
  have hil : i < x0.data.toList.length := by rw [← Lib.size_eq]; omega
  obtain ⟨b, hb⟩ : ∃ b, x0.data.toList[i]? = some b := ⟨_, List.getElem?_eq_getElem hil⟩
  have hbt := bt_of x0 i b hb
  have ih := ih (i + 1) (acc ++ sc.pct b) (by omega) (by rw [List.length_append, pct_len]; omega)
  have hd : (x0.data.toList.take wd).drop i = b :: (x0.data.toList.take wd).drop (i + 1) := by
   have hi2 : i < (x0.data.toList.take wd).length := by simp only [List.length_take]; omega
   rw [List.drop_eq_getElem_cons hi2]
   congr 1
   have : (x0.data.toList.take wd)[i]? = some b := by rw [List.getElem?_take, if_pos (by omega), hb]
   exact (List.getElem?_eq_some_iff.1 this).2
  have hlen : (nums8 acc).length + 3 < 140737488355328 := by rw [nums8_length]; omega
  rw [← Nat.add_assoc, l1_step (b := b) (by omega) (by omega) hbt hlen (by omega), ← nums8_append, ih, hd, List.flatMap_cons, List.append_assoc]
theorem j1_eq (k : Nat) (x0 : ByteArray) (x3 : List Int) (c wd : Nat) (x6 : Bool) :
 cloisterref26_Quote.j1 (k + 1) x0 x3 (c : Int) (wd : Int) x6 = cloisterref26_Quote.j2 k x0 x3 (wd : Int) (x6 && (decide (32 < c) && decide (c ≤ 126) && c != 34 && c != 37 || decide (161 ≤ c))) := by
 rw [cloisterref26_Quote.j1]
 cases x6 with
 | false => rfl
 | true =>
  rw [if_pos rfl, Bool.true_and]
  have e161 : decide ((c : Int) ≥ 161) = decide (161 ≤ c) := decide_eq_decide.2 (by omega)
  rw [e161]
  by_cases h1 : 32 < c
  · rw [if_pos (show (c : Int) ≥ 33 by omega)]
    by_cases h2 : c ≤ 126
    · rw [if_pos (show (c : Int) ≤ 126 by omega)]
      by_cases h3 : c = 34
      · rw [if_pos (show (c : Int) = 34 by omega)]; subst h3; rfl
      rw [if_neg (show ¬ (c : Int) = 34 by omega)]
      by_cases h4 : c = 37
      · rw [if_pos (show (c : Int) = 37 by omega)]; subst h4; rfl
      rw [if_neg (show ¬ (c : Int) = 37 by omega)]
      congr 1
      simp [h1, h2, h3, h4]
    rw [if_neg (show ¬ (c : Int) ≤ 126 by omega)]
    congr 1
    simp [h2]
  rw [if_neg (show ¬ (c : Int) ≥ 33 by omega)]
  congr 1
  simp [h1]
theorem l0_j2 (k : Nat) (x : ByteArray) (x3 : List Int) (h : x.size ≠ 0) : cloisterref26_Quote.l0 (k + 2) x x3 = cloisterref26_Quote.j2 k x x3 (((Lib.decodeGo x).2 : Nat) : Int) (sc.qok (Lib.decodeGo x).1 (Lib.decodeGo x).2) := by
 have h0 : (x.size : Int) > 0 := by omega
 rw [cloisterref26_Quote.l0, if_pos h0]
 unfold utf8_DecodeRuneInString.f
 rw [Option.bind_some]
 by_cases hc : (Lib.decodeGo x).1 = 65533
 · rw [if_pos (by show ((Lib.decodeGo x).1 : Int) = 65533; rw [hc]; rfl), j1_eq]
   congr 1
   unfold sc.qok
   rw [hc]
   congr 1
   have e : (((Lib.decodeGo x).2 : Int) > 1) ↔ 1 < (Lib.decodeGo x).2 := Int.ofNat_lt
   simp [e]
 rw [if_neg (by show ¬ ((Lib.decodeGo x).1 : Int) = 65533; intro h; exact hc (by omega)), j1_eq]
 congr 1
 unfold sc.qok
 simp [hc]
theorem l0_end (k : Nat) (x : ByteArray) (acc : List UInt8) (h : x.size = 0) (hl : acc.length < 140737488355328) : cloisterref26_Quote.l0 (k + 1) x (nums8 acc) = some ⟨(acc ++ [34]).toArray⟩ := by
 have h0 : ¬ (x.size : Int) > 0 := by omega
 have hl' : (nums8 acc).length < 140737488355328 := by rw [nums8_length]; exact hl
 rw [cloisterref26_Quote.l0, if_neg h0, if_pos hl']
 congr 1
 rw [← strOf_nums8, nums8_append]
 rfl
theorem decGo_L (x : ByteArray) (h : x.size ≠ 0) : Lib.decodeGo x = Lib.decodeL x.data.toList := by
 unfold Lib.decodeGo
 rw [if_neg h]
 rfl
theorem ext_drop (x : ByteArray) (n : Nat) : (x.extract n x.size).data.toList = x.data.toList.drop n := by
 rw [extract_data, List.take_of_length_le]
 rw [List.length_drop, data_length]
 exact Nat.le_refl _
theorem rq_l0 (M : Nat) (hM : M < 140737488355328) (n : Nat) : ∀ (x : ByteArray) (acc : List UInt8), x.size ≤ n → x.size ≤ 1099511627776 → acc.length + 3 * x.size ≤ M →
 ∃ k, cloisterref26_Quote.l0 k x (nums8 acc) = some ⟨(acc ++ (sc.qt x.data.toList ++ [34])).toArray⟩ := by
 induction n with
 | zero =>
  intro x acc h1 _ h2
  have h0 : x.size = 0 := by omega
  have hd : x.data.toList = [] := List.length_eq_zero_iff.1 (by rw [data_length]; exact h0)
  refine ⟨1, ?_⟩
  rw [l0_end 0 x acc h0 (by omega), hd]
  rfl
 | succ n ih =>
  intro x acc h1 hb h2
  by_cases h0 : x.size = 0
  · exact ih x acc (by omega) hb h2
  have hne : x.data.toList ≠ [] := fun h => h0 (by rw [← data_length, h]; rfl)
  have hw := sc.width_posL x.data.toList
  have hw2 := Lib.decodeL_le _ hne
  rw [data_length] at hw2
  have hq := sc.qt_step hne
  have hql := sc.qform_length x.data.toList (Lib.decodeL x.data.toList).1 (Lib.decodeL x.data.toList).2
  generalize hC : (Lib.decodeL x.data.toList).1 = C at hq hql
  generalize hW : (Lib.decodeL x.data.toList).2 = W at hq hw hw2 hql
  have hsz : (x.extract W x.size).size = x.size - W := by rw [← data_length, ext_drop, List.length_drop, data_length]
  have hacc : (acc ++ sc.qform x.data.toList C W).length + 3 * (x.extract W x.size).size ≤ M := by
   rw [List.length_append, hsz]; omega
  obtain ⟨K, hK⟩ := ih (x.extract W x.size) (acc ++ sc.qform x.data.toList C W) (by omega) (by omega) hacc
  rw [ext_drop] at hK
  rw [hq]
  have hres : ∀ t : List UInt8, acc ++ (sc.qform x.data.toList C W ++ t ++ [34]) = acc ++ sc.qform x.data.toList C W ++ (t ++ [34]) := fun t => by simp only [List.append_assoc]
  rw [hres, ← hK]
  cases hok : sc.qok C W with
  | true =>
   refine ⟨K + 1 + 2, ?_⟩
   have hx : (x.extract 0 (W : Int).toNat).size = W := by
    rw [← data_length, extract_data, Int.toNat_natCast, List.drop_zero, Nat.sub_zero, List.length_take, data_length]; exact Nat.min_eq_left hw2
   have hg : (nums8 acc).length + (x.extract 0 (W : Int).toNat).size < 140737488355328 := by rw [hx, nums8_length]; omega
   rw [l0_j2 _ _ _ h0, decGo_L x h0, hC, hW, hok, cloisterref26_Quote.j2, if_pos rfl, if_pos (Int.natCast_nonneg W), if_pos (Int.ofNat_le.2 hw2), if_pos hg]
   rw [bytesOf_nums8, ← nums8_append, Int.toNat_natCast, extract_data, List.drop_zero, Nat.sub_zero]
   unfold sc.qform
   rw [hok, if_pos rfl]
  | false =>
   refine ⟨K + 1 + W + 1 + 2, ?_⟩
   rw [l0_j2 _ _ _ h0, decGo_L x h0, hC, hW, hok, cloisterref26_Quote.j2, if_neg Bool.false_ne_true]
   have := rq_l1 M hM x W hw2 hb K W 0 acc (Nat.zero_add W) (by omega)
   rw [show ((0 : Nat) : Int) = 0 from rfl] at this
   rw [this]
   unfold sc.qform
   rw [hok, if_neg Bool.false_ne_true, List.drop_zero]
theorem rq_f (x : ByteArray) (h : x.size ≤ 1099511627776) : ∃ k, cloisterref26_Quote.f k x = some ⟨(sc.quoteL x.data.toList).toArray⟩ := by
 obtain ⟨k, hk⟩ := rq_l0 (3 * x.size + 1) (by omega) x.size x [34] (Nat.le_refl _) h (by show 1 + 3 * x.size ≤ _; omega)
 exact ⟨k, hk⟩
end Go.Proofs.YtndbbgihpoiojaaGreatDoor.Q
namespace Go.Proofs.YtndbbgihpoiojaaGreatDoor.Q
open Go.RowKit Go.Proofs.YtndbbgihpoiojaaGreatDoorW.PrintWords Go.Proofs.YtndbbgihpoiojaaGreatDoorW.PrintLast Go.Proofs.YtndbbgihpoiojaaGreatDoorW.PrintMore
abbrev spB : ByteArray := ⟨#[32]⟩
section
def LK (K : Nat) (W : List ByteArray) : Prop := ∀ m, K ≤ m → cloisterref26_line.f m W = some (joinB W spB)
theorem ap_data (x y : ByteArray) : (x ++ y).data.toList = x.data.toList ++ y.data.toList := by simp [ByteArray.data_append]
def tailAt (i : Nat) (L : List ByteArray) : List UInt8 := if i = 0 then Lib.join (L.map (·.data.toList)) [32] else Lib.joinTail [32] (L.map (·.data.toList))
theorem tailAt_cons (i : Nat) (x : ByteArray) (L : List ByteArray) : tailAt i (x :: L) = (if i = 0 then x.data.toList else [32] ++ x.data.toList) ++ tailAt (i + 1) L := by
 unfold tailAt
 rw [if_neg (Nat.succ_ne_zero i)]
 by_cases h : i = 0
 · rw [if_pos h, if_pos h, List.map_cons, Lib.join_cons]
 rw [if_neg h, if_neg h, List.map_cons]
 unfold Lib.joinTail
 rw [List.map_cons, List.flatten_cons]
theorem tailAt_nil (i : Nat) : tailAt i [] = [] := by unfold tailAt; split <;> rfl
theorem li_end (k : Nat) (x3 : ByteArray) (W : List ByteArray) (i : Nat) (h : W.length ≤ i) : cloisterref26_line.l0 (k + 1) x3 W (W.length : Int) (i : Int) = some x3 := by
 rw [cloisterref26_line.l0, if_neg (by omega)]
theorem li_step (k : Nat) (x3 x : ByteArray) (W : List ByteArray) (i : Nat) (h : W[i]? = some x) (hi : i < 1099511627776) (hb : (x3.data.toList ++ (if i = 0 then x.data.toList else [32] ++ x.data.toList)).length ≤ 140737488355328) :
 cloisterref26_line.l0 (k + 1) x3 W (W.length : Int) (i : Int) = cloisterref26_line.l0 k ⟨(x3.data.toList ++ (if i = 0 then x.data.toList else [32] ++ x.data.toList)).toArray⟩ W (W.length : Int) ((i + 1 : Nat) : Int) := by
 have hl := (List.getElem?_eq_some_iff.1 h).1
 have hr : rdOf ByteArray.empty W (i : Int) = x := by
  unfold rdOf
  rw [Int.toNat_natCast, List.getD_eq_getElem?_getD, h]
  rfl
 have hw : wrap64 ((i : Int) + 1) = ((i + 1 : Nat) : Int) := w64 (by omega) (by omega)
 rw [cloisterref26_line.l0, if_pos (Int.ofNat_lt.2 hl), if_pos (Int.natCast_nonneg i), if_pos (Int.ofNat_lt.2 hl), hr, hw]
 by_cases h0 : i = 0
 · rw [if_neg (show ¬ (i : Int) > 0 by omega)]
   rw [if_pos h0] at hb ⊢
   have hs : x3.size + x.size ≤ 9223372036854775807 := by
    rw [← data_length, ← data_length, ← List.length_append]
    exact Nat.le_trans hb (by decide)
   rw [if_pos hs]
   rw [show x3 ++ x = ⟨(x3.data.toList ++ x.data.toList).toArray⟩ from ba_ext (ap_data x3 x)]
 rw [if_pos (show (i : Int) > 0 by omega)]
 rw [if_neg h0] at hb ⊢
 have e1 : (x3 ++ (⟨#[32]⟩ : ByteArray)).data.toList = x3.data.toList ++ [32] := ap_data x3 ⟨#[32]⟩
 rw [← List.append_assoc, List.length_append, List.length_append] at hb
 have hs : x3.size + 1 ≤ 9223372036854775807 := by
  rw [← data_length]
  exact Nat.le_trans (Nat.le_trans (Nat.le_add_right _ _) hb) (by decide)
 have hs2 : (x3 ++ (⟨#[32]⟩ : ByteArray)).size + x.size ≤ 9223372036854775807 := by
  rw [← data_length, e1, ← data_length x, List.length_append]
  exact Nat.le_trans hb (by decide)
 rw [if_pos hs, if_pos hs2]
 rw [show x3 ++ (⟨#[32]⟩ : ByteArray) ++ x = ⟨(x3.data.toList ++ ([32] ++ x.data.toList)).toArray⟩ from ba_ext (by rw [ap_data, e1, List.append_assoc])]
theorem li_l0 (k : Nat) (W : List ByteArray) (hn : W.length ≤ 1099511627776) (q : Nat) : ∀ (i : Nat) (x3 : ByteArray), i + q = W.length → (x3.data.toList ++ tailAt i (W.drop i)).length ≤ 140737488355328 →
 cloisterref26_line.l0 (k + 1 + q) x3 W (W.length : Int) (i : Int) = some ⟨(x3.data.toList ++ tailAt i (W.drop i)).toArray⟩ := by
 induction q with
 | zero =>
  intro i x3 hi hb
  rw [Nat.add_zero, li_end _ _ _ _ (by omega), List.drop_eq_nil_of_le (by omega), tailAt_nil, List.append_nil, ba_eta]
 | succ q ih =>
  intro i x3 hi hb
  have hlt : i < W.length := by omega
  rw [List.drop_eq_getElem_cons hlt, tailAt_cons, ← List.append_assoc] at hb ⊢
  have hb' : (x3.data.toList ++ (if i = 0 then W[i].data.toList else [32] ++ W[i].data.toList)).length ≤ 140737488355328 := by
   rw [List.length_append] at hb
   exact Nat.le_trans (Nat.le_add_right _ _) hb
  rw [← Nat.add_assoc, li_step _ _ W[i] _ _ (List.getElem?_eq_getElem hlt) (by omega) hb', ih (i + 1) _ (by omega) hb]
theorem lk_of (W : List ByteArray) (hn : W.length ≤ 1099511627776) (hb : (joinB W spB).size ≤ 140737488355328) : LK (W.length + 1) W := by
 intro m hm
 obtain ⟨k, rfl⟩ : ∃ k, m = k + 1 + W.length := ⟨m - W.length - 1, by omega⟩
 have := li_l0 k W hn W.length 0 ⟨#[]⟩ (by omega) (by rw [← size_mk]; exact hb)
 exact this
end
end Go.Proofs.YtndbbgihpoiojaaGreatDoor.Q
namespace Go.Proofs.YtndbbgihpoiojaaGreatDoor.Q
open Go.RowKit Go.Proofs.YtndbbgihpoiojaaGreatDoorW.PrintWords Go.Proofs.YtndbbgihpoiojaaGreatDoorW.PrintLast
theorem rquote_c (x : ByteArray) (h : x.size ≤ 1099511627776) (w : World) (hE : sc.Env w) : Calls Tryz.prog 21 #[.string x] w fun e w' => e = .returned (.string (quoteB x)) ∧ Below w.heap.size w w' := by
 obtain ⟨k, hk⟩ := rq_f x h
 exact cloisterref26_Quote.calls k x _ w hE hk
theorem itoaB_c (n : Int) (hn : sc.InInt n) (w : World) (hE : sc.Env w) : Calls Tryz.prog 29 #[.int .i64 n] w fun e w' => e = .returned (.string (itoaB n)) ∧ Below w.heap.size w w' := sc.itoa_c n hn w hE
structure SInv (w0 w : World) (g : Nat) (t : TypeId) (cells : Array Value) (vw : Value) (ws : List ByteArray) : Prop where
 env0 : sc.Env w0
 box : w.heap[g]? = some (.cells cells t (0, 0))
 b0 : Below w0.heap.size w0 w
 ge : w0.heap.size ≤ g
 row : Kd.R Kd.string 9 w w0.heap.size TT_ vw ws
section
variable {w0 w w1 : World} {g : Nat} {ws : List ByteArray} {t : TypeId} {cells : Array Value} {vw : Value}
theorem SInv.below (h : SInv w0 w g t cells vw ws) (hb : Below w.heap.size w w1) : SInv w0 w1 g t cells vw ws := ⟨h.env0, (hb.block g (blk_lt h.box)).trans h.box, below_step h.b0 hb, h.ge, Kd.R_below h.row hb⟩
theorem SInv.drew (h : SInv w0 w g t cells vw ws) : SInv w0 w.drew g t cells vw ws := h.below (b3_ (Below.refl _ _))
theorem SInv.alloc (h : SInv w0 w g t cells vw ws) (o : Obj) : SInv w0 (w.alloc o) g t cells vw ws := h.below (b1_ (Below.refl _ _) o)
theorem SInv.env (h : SInv w0 w g t cells vw ws) : sc.Env w := h.env0.below h.b0
theorem SInv.at (h : SInv w0 w g t cells vw ws) (i : Nat) {v : Value} (hv : cells[i]? = some v) : w.cell? ⟨g, i, none⟩ = some v := (blk_cell h.box i).trans hv
theorem SInv.grown (h : SInv w0 w g t cells vw ws) (ht : t ≠ 9) {o : Obj} {vw1 : Value} {ws1 : List ByteArray} (hg : (w.alloc o).grownBy w1 vw.ownBlock) (hr : Kd.R Kd.string 9 w1 w0.heap.size TT_ vw1 ws1) : SInv w0 w1 g t cells vw1 ws1 := by
 refine ⟨h.env0, ?_, ?_, h.ge, hr⟩
 · exact grown_blk (h.alloc o).box (R_typ (Kd.R_below h.row (b1_ (Below.refl _ _) o))) (Ne.symm ht) hg
 exact (h.alloc o).b0.grown hg ((h.alloc o).b0.size) (fun k e => Kd.R_base h.row k e)
end
section
variable {ops : Array Oper} {o : Oper} {a : Act} {Q : Exit → Act → World → Prop} {E : Prop} {w0 w : World} {g : Nat} {ws : List ByteArray} {t : TypeId} {cells : Array Value} {vw : Value} {K : Act → World → Prop}
theorem SInv.append_ (h : SInv w0 w g t cells vw ws) (ht : t ≠ 9) (ys : List ByteArray) (s x : Operand) (hgd : o.guard = none) (ho : o.op = .call { callee := .builtin .append, args := #[s, x], argTypes := #[71, 71] })
 (hs : a.eval s = vw) (m : Nat) (hm : ys.length = m) (hm0 : 0 < m) (hx : a.eval x = .slice (some ⟨w.heap.size, 0, none⟩) m m) (n : Nat) (hn : ws.length + m = n) (hl : n ≤ 4294967296)
 (hK : ∀ g1 c1 w1, SInv w0 w1 g t cells (.slice (some ⟨g1, 0, none⟩) n c1) (ws ++ ys) → K (a.put o.dst (.slice (some ⟨g1, 0, none⟩) n c1)) w1) :
 if Region.wanted o (yielded ops a.tmps) = true then Oper.wp Tryz.prog o a (w.alloc (.cells (ys.map Value.string).toArray 9)) K Q else E := by
 obtain ⟨i0, hi, hz0, hz1, hz2⟩ := info_parts it.info9'
 subst hn
 refine step_append_lies _ hgd s x 71 ho w0.heap.size 9 i0 (.string ⟨#[]⟩) 1 16 Tryz.underlying71 hi hz0 hz1 hz2 rfl (by decide) vw ws.length (ws.map Value.string) hs ((R_string_own h.row).alloc _) ⟨w.heap.size, 0, none⟩ m m (ys.map Value.string) hx (by simp [hm]) (World.news_of_block (wld.alloc_same _ _)) (by simp [Value.oneCell']) hm0 (by unfold maxLen; omega) (by omega) (by have := h.b0.size; simp; omega) _ rfl ?_
 intro g1 c1 w1 hown hg _ _
 refine hK g1 c1 w1 (h.grown ht hg (own_R_string (by rw [List.map_append]; exact hown) (by simp [hm])))
theorem SInv.appendL {rest : List Oper} (h : SInv w0 w g t cells vw ws) (ht : t ≠ 9) (ys : List ByteArray) (s x : Operand) (hgd : o.guard = none) (ho : o.op = .call { callee := .builtin .append, args := #[s, x], argTypes := #[71, 71] })
 (hs : a.eval s = vw) (m : Nat) (hm : ys.length = m) (hm0 : 0 < m) (hx : a.eval x = .slice (some ⟨w.heap.size, 0, none⟩) m m) (n : Nat) (hn : ws.length + m = n) (hl : n ≤ 4294967296)
 (hK : ∀ g1 c1 w1, SInv w0 w1 g t cells (.slice (some ⟨g1, 0, none⟩) n c1) (ws ++ ys) → wpList Tryz.prog ops Q rest (a.put o.dst (.slice (some ⟨g1, 0, none⟩) n c1)) w1) :
 wpList Tryz.prog ops Q (o :: rest) a (w.alloc (.cells (ys.map Value.string).toArray 9)) := by
 refine wpList_plain hgd fun K hK' => ?_
 have := h.append_ (ops := #[]) (Q := Q) (E := True) (K := K) ht ys s x hgd ho hs m hm hm0 hx n hn hl (fun g1 c1 w1 h1 => hK' _ _ (hK g1 c1 w1 h1))
 rwa [if_pos (by simp [Region.wanted, hgd])] at this
end
def SayOut (w w' : World) (o : Option (List ByteArray)) (e : Ending) : Prop := (match o with | none => e = .returned (.tuple #[.slice none 0 0, .bool false]) | some ws => ∃ v, e = .returned (.tuple #[v, .bool true]) ∧ Kd.R Kd.string 9 w' w.heap.size TT_ v ws) ∧ Below w.heap.size w w'
theorem say_bad (ses k life num place : Int) (key to_ : ByteArray) (A8 : Option Addr) (c8 : Nat) (val : List Int) (lim pl : Int) (A11 : Option Addr) (c11 : Nat) (L : List (List S66)) (w : World) (hb : ¬ (pl = 0 ∧ L.length = 0 ∧ 1 ≤ k ∧ k ≤ 7)) :
 Calls Tryz.prog 30 #[.agg #[.int .i64 1, .int .i64 ses, .int .i64 k, .int .i64 life, .int .i64 num, .int .i64 place, .string key, .string to_, .slice A8 val.length c8, .int .i64 lim, .int .i64 pl, .slice A11 L.length c11]] w fun e w' => SayOut w w' none e := by
 have HB := am_ hb
 clear hb
 go_enter Tryz.func30, Tryz.ntmps30
 go_upto_region 3 with (fail)
 by_cases h1 : pl = 0
 by_cases h2 : L.length = 0
 by_cases h3 : k < 1
 rotate_left
 have h4 : 7 < k := by have := HB.out; omega
 rotate_left
 have h2' : 0 < (L.length : Int) := by omega
 rotate_left
 have e1 : (pl != 0) = true := bne_iff_ne.mpr h1
 rotate_left
 all_goals
  go_wp2
  all_goals (try rw [Exit.noGoto_ret]); exact bodyPost_ret (v := .tuple #[.slice none 0 0, .bool false]) (by simp [results, Tryz.results30, go_sem]) rfl ⟨rfl, b1_ (b1_ (Below.refl _ _) _) _⟩
theorem SInv.first {w0 w : World} {g : Nat} {t : TypeId} {cells : Array Value} (hE : sc.Env w0) (hy : w.heap[g]? = some (.cells cells t (0, 0))) (hb : Below w0.heap.size w0 w) (hg : w0.heap.size ≤ g) (a b c : ByteArray) : SInv w0 (w.alloc (.cells #[.string a, .string b, .string c] 9)) g t cells (.slice (some ⟨w.heap.size, 0, none⟩) 3 3) [a, b, c] :=
 ⟨hE, ((b1_ (Below.refl w.heap.size w) (.cells #[.string a, .string b, .string c] 9)).block _ (blk_lt hy)).trans hy, b1_ hb _, hg, R_strings w [a, b, c] w0.heap.size hb.size (by simp) (by simp [maxLen])⟩
structure ThreeW (w W : World) (c1 : Array Value) (t1 : TypeId) (c2 : Array Value) (t2 : TypeId) : Prop where
 x : W.heap[w.heap.size]? = some (.cells c1 t1 (0, 0))
 y : W.heap[w.heap.size + 1]? = some (.cells c2 t2 (0, 0))
 b : Below w.heap.size w W
theorem ThreeW.below {w W W1 : World} {c1 c2 : Array Value} {t1 t2 : TypeId} (h : ThreeW w W c1 t1 c2 t2) (hb : Below W.heap.size W W1) : ThreeW w W1 c1 t1 c2 t2 :=
 ⟨(hb.block _ (blk_lt h.x)).trans h.x, (hb.block _ (blk_lt h.y)).trans h.y, below_step h.b hb⟩
theorem three_any (w : World) (c1 : Array Value) (t1 : TypeId) (c2 : Array Value) (t2 : TypeId) (o : Obj) : ThreeW w (((w.alloc (.cells c1 t1)).alloc (.cells c2 t2)).alloc o) c1 t1 c2 t2 := by
 have h1 := wld.alloc_same w (.cells c1 t1)
 have h2 : ((w.alloc (.cells c1 t1)).alloc (.cells c2 t2)).heap[w.heap.size + 1]? = some (.cells c2 t2 (0, 0)) := by
  have := wld.alloc_same (w.alloc (.cells c1 t1)) (.cells c2 t2)
  rw [show (w.alloc (.cells c1 t1)).heap.size = w.heap.size + 1 by simp] at this
  exact this
 have b1 := b1_ (Below.refl (w.alloc (.cells c1 t1)).heap.size (w.alloc (.cells c1 t1))) (.cells c2 t2)
 have b2 := b1_ (Below.refl ((w.alloc (.cells c1 t1)).alloc (.cells c2 t2)).heap.size ((w.alloc (.cells c1 t1)).alloc (.cells c2 t2))) o
 exact ⟨(b2.block _ (blk_lt ((b1.block _ (blk_lt h1)).trans h1))).trans ((b1.block _ (blk_lt h1)).trans h1), (b2.block _ (blk_lt h2)).trans h2, b1_ (b1_ (b1_ (Below.refl _ _) _) _) _⟩
theorem say_asks (ses k life num place : Int) (key to_ : ByteArray) (A8 : Option Addr) (c8 : Nat) (val : List Int) (lim : Int) (A11 : Option Addr) (c11 : Nat) (w : World) (hE : sc.Env w) (hk : 1 ≤ k ∧ k ≤ 7)
 (hval : Kd.C (Kd.int .u8) w A8 val.length val) (h1 : sc.InInt ses) (h2 : sc.InInt life) (h3 : sc.InInt num) (h4 : sc.InInt place) (h5 : sc.InInt lim) (h6 : key.size ≤ 1099511627776) (h7 : to_.size ≤ 1099511627776) (h8 : (strOfNums val).size ≤ 1099511627776) (z : Bool)
 (hz : z = zeroB ⟨k, ⟨life, num⟩, place, key, to_, val, lim⟩ (k != 1) (decide (2 ≤ k) && decide (k ≤ 5)) (decide (2 ≤ k) && decide (k ≤ 5)) (k == 3) (k == 4) (k == 3)) :
 Calls Tryz.prog 30 #[.agg #[.int .i64 1, .int .i64 ses, .int .i64 k, .int .i64 life, .int .i64 num, .int .i64 place, .string key, .string to_, .slice A8 val.length c8, .int .i64 lim, .int .i64 0, .slice A11 0 c11]] w fun e w' => SayOut w w' (if z then some (askWords k ses life num place key to_ val lim) else none) e := by
 have HE := am_ hE
 have HV := am_ hval
 have H1 := am_ h1
 have H2 := am_ h2
 have H3 := am_ h3
 have H4 := am_ h4
 have H5 := am_ h5
 have H6 := am_ h6
 have H7 := am_ h7
 have H8 := am_ h8
 have HZ := am_ hz
 clear hE hval h1 h2 h3 h4 h5 h6 h7 h8 hz
 have hk' : k = 1 ∨ k = 2 ∨ k = 3 ∨ k = 4 ∨ k = 5 ∨ k = 6 ∨ k = 7 := by omega
 clear hk
 obtain ⟨kc, hkc⟩ : ∃ kc, kc = k := ⟨_, rfl⟩
 obtain ⟨kd, hkd⟩ : ∃ kd, kd = k := ⟨_, rfl⟩
 have HKD := am_ hkd
 clear hkd
 rcases hk' with rfl | rfl | rfl | rfl | rfl | rfl | rfl
 all_goals
  have HT := three_any w #[.int .i64 1, .int .i64 ses, .int .i64 kc, .int .i64 life, .int .i64 num, .int .i64 place, .string key, .string to_, .slice A8 val.length c8, .int .i64 lim, .int .i64 0, .slice A11 0 c11] 52 #[.int .i64 kc, .int .i64 life, .int .i64 num, .int .i64 place, .string key, .string to_, .slice A8 val.length c8, .int .i64 lim] 49 (.cells #[.string ⟨#[98, 101, 103, 105, 110]⟩, .string ⟨#[103, 101, 116]⟩, .string ⟨#[115, 99, 97, 110]⟩, .string ⟨#[112, 117, 116]⟩, .string ⟨#[100, 101, 108, 101, 116, 101]⟩, .string ⟨#[99, 111, 109, 109, 105, 116]⟩, .string ⟨#[97, 98, 111, 114, 116]⟩] 9)
  subst hkc
  replace HT := am_ HT
  go_enter Tryz.func30, Tryz.ntmps30
  go_wp2_with fail
  generalize (((w.alloc _).alloc _).alloc _) = W3 at HT ⊢
  refine (zero_calls ⟨_, ⟨life, num⟩, place, key, to_, val, lim⟩ A8 c8 _ _ _ _ _ _ W3 (by simp)).mono ?_
  rintro e w1 ⟨rfl, hb1⟩
  replace HT := am_ (HT.out.below hb1)
  clear hb1
  generalize hzz : zeroB _ _ _ _ _ _ _ = zz
  obtain rfl : zz = z := hzz.symm.trans HZ.out.symm
  clear hzz HZ
  cases zz
  · go_wp2
    (try rw [Exit.noGoto_ret])
    exact bodyPost_ret (v := .tuple #[.slice none 0 0, .bool false]) (by simp [results, Tryz.results30, go_sem]) rfl ⟨rfl, HT.out.b⟩
  have x1 := wld.cell_of (o := 1) HT.out.x rfl
  have y0 := wld.cell_of (o := 0) HT.out.y rfl
  go_wp2_with fail
  refine (itoaB_c ses H1.out w1 (HE.out.below HT.out.b)).mono ?_
  rintro e w2 ⟨rfl, hb2⟩
  replace HT := am_ (HT.out.below hb2)
  clear hb2 x1 y0
  have y0 := wld.cell_of (o := 0) HT.out.y rfl
  go_upto_region 10 with (fail)
  have HS := SInv.first HE.out HT.out.y HT.out.b (Nat.le_succ _) ⟨#[97, 115, 107]⟩ (itoaB ses) (kindL.getD kd.toNat ⟨#[]⟩)
  rw [HKD.out] at HS
  simp only [kindL, Int.reduceToNat, List.getD_cons_succ, List.getD_cons_zero] at HS
  replace HS := am_ HS
  clear HT y0
  generalize (w2.alloc _) = W4 at HS ⊢
  generalize w2.heap.size = gs at HS ⊢
 · have k0 := HS.out.at 0 rfl
   go_wp2_with fail
   (try rw [Exit.noGoto_ret])
   exact bodyPost_ret (v := .tuple #[.slice (some ⟨gs, 0, none⟩) 3 3, .bool true]) (by simp [results, Tryz.results30, go_sem]) rfl ⟨⟨_, rfl, HS.out.row⟩, HS.out.b0⟩
 all_goals
  have k0 := HS.out.at 0 rfl
  go_wp2_with fail
  clear k0
  refine start_ (n := 12) (S := fun w' => w'.cell? ⟨w.heap.size + 1, 1, none⟩ = some (.int .i64 life) ∧ w'.cell? ⟨w.heap.size + 1, 2, none⟩ = some (.int .i64 num)) (ds := []) #[false, false, false, false, false, false, false, false, false, false, false, false] (by kernel_rfl) rfl rfl ⟨HS.out.drew.at 1 rfl, HS.out.drew.at 2 rfl⟩ (fun hHeld => ?_)
  replace HS := am_ HS.out.drew; generalize W4.drew = wD1 at HS hHeld ⊢
  refine pu_ 0 76 (bs_ 12 1) rfl rfl (by kernel_rfl) rfl (by intro w'; go_simp; with_reducible rfl) (by simp only [Act.put, aS, aZ, aC, i64_w, i32_w]; rfl) (fun _ _ _ h => h) ?_
  refine pu_ 1 77 (bs_ 12 3) rfl rfl (by kernel_rfl) rfl (by intro w'; go_simp; with_reducible rfl) (by simp only [Act.put, aS, aZ, aC, i64_w, i32_w]; rfl) (fun _ _ _ h => h) ?_
  refine pu_ 2 78 (bs_ 12 7) rfl rfl (by kernel_rfl) rfl (by intro w'; go_simp; with_reducible rfl) (by simp only [Act.put, aS, aZ, aC, i64_w, i32_w]; rfl) (fun _ _ _ h => h) ?_
  refine pu_ 5 81 (bs_ 12 39) rfl rfl (by kernel_rfl) rfl (by intro w'; go_simp; with_reducible rfl) (by simp only [Act.put, aS, aZ, aC, i64_w, i32_w]; rfl) (fun _ _ _ h => h) ?_
  refine pu_ 6 82 (bs_ 12 103) rfl rfl (by kernel_rfl) rfl (by intro w'; go_simp; with_reducible rfl) (by simp only [Act.put, aS, aZ, aC, i64_w, i32_w]; rfl) (fun _ _ _ h => h) ?_
  refine ta_ 3 79 (bs_ 12 111) rfl rfl (by kernel_rfl) rfl (by rintro w' ⟨s0, s1⟩; go_simp; with_reducible rfl) hHeld (by simp only [Act.put, aS, aZ, aC, i64_w, i32_w]; rfl) (fun _ _ _ h => h) ?_
  refine ta_ 7 83 (bs_ 12 239) rfl rfl (by kernel_rfl) rfl (by rintro w' ⟨s0, s1⟩; go_simp; with_reducible rfl) hHeld (by simp only [Act.put, aS, aZ, aC, i64_w, i32_w]; rfl) (fun _ _ _ h => h) ?_
  refine one_ (i := 4) (N := some 80) (bs_ 12 255) rfl rfl (by kernel_rfl) (by decide) (fun K hK => ?_)
  refine goes_ Tryz.func29 (by kernel_rfl) rfl #[.int .i64 life] (by rfl) rfl rfl (by (try simp only [aT, aK, aL]); first | done | rfl) ?_
  refine (itoaB_c life H2.out _ HS.out.env).mono ?_
  rintro e wC1 ⟨rfl, hb_⟩
  refine ⟨_, rfl, ?_⟩
  replace HS := am_ (HS.out.below hb_)
  clear hb_
  refine hK.out _ _ ⟨HS.out.at 1 rfl, HS.out.at 2 rfl⟩ (fun hHeld => ?_)
  clear hK K
  refine no_ (by simp only [Act.put, aS, aZ, aC, i64_w, i32_w]; rfl) ?_
  refine one_ (i := 8) (N := some 84) (bs_ 12 511) rfl rfl (by kernel_rfl) (by decide) (fun K hK => ?_)
  refine goes_ Tryz.func29 (by kernel_rfl) rfl #[.int .i64 num] (by rfl) rfl rfl (by (try simp only [aT, aK, aL]); first | done | rfl) ?_
  refine (itoaB_c num H3.out _ HS.out.env).mono ?_
  rintro e wE1 ⟨rfl, hb_⟩
  refine ⟨_, rfl, ?_⟩
  replace HS := am_ (HS.out.below hb_)
  clear hb_
  refine hK.out _ _ ⟨HS.out.at 1 rfl, HS.out.at 2 rfl⟩ (fun hHeld => ?_)
  clear hK K
  refine no_ (by simp only [Act.put, aS, aZ, aC, i64_w, i32_w]; rfl) ?_
  refine one_ (i := 9) (N := some 85) (bs_ 12 1023) rfl rfl (by kernel_rfl) (by decide) (fun K hK => ?_)
  refine value_ (w1 := ?_) (v := ?_) (by rfl) rfl ?_ ?_
  rotate_left 2
  · go_simp
    constructor
    · rfl
    rfl
  refine hK.out _ _ ⟨(HS.out.alloc _).at 1 rfl, (HS.out.alloc _).at 2 rfl⟩ (fun hHeld => ?_)
  clear hK K
  refine no_ (by simp only [Act.put, aS, aZ, aC, i64_w, i32_w]; rfl) ?_
  refine one_ (i := 10) (N := some 86) (bs_ 12 2047) rfl rfl (by kernel_rfl) (by decide) (fun K hK => ?_)
  refine HS.out.append_ (by decide) [itoaB life, itoaB num] (.tmp 76) (.tmp 85) rfl rfl rfl 2 rfl (by decide) rfl 5 rfl (by decide) ?_
  intro gB1 cB1 wB1 HB_
  replace HS := am_ HB_
  clear HB_
  refine hK.out _ _ ⟨HS.out.at 1 rfl, HS.out.at 2 rfl⟩ (fun hHeld => ?_)
  clear hK K
  refine no_ (by simp only [Act.put, aS, aZ, aC, i64_w, i32_w]; rfl) ?_
  refine pu_ 11 7 (bs_ 12 4095) rfl rfl (by kernel_rfl) rfl (by intro w'; go_simp; with_reducible rfl) (by simp only [Act.put, aS, aZ, aC, i64_w, i32_w]; rfl) (fun _ _ _ h => h) ?_
  refine done_ (by kernel_rfl) ?_
  clear hHeld
  have k0 := HS.out.at 0 rfl
  go_wp2_with fail
 rotate_left 4
 · (try rw [Exit.noGoto_ret])
   exact bodyPost_ret (v := .tuple #[.slice (some ⟨gB1, 0, none⟩) 5 cB1, .bool true]) (by simp [results, Tryz.results30, go_sem]) rfl ⟨⟨_, rfl, HS.out.row⟩, HS.out.b0⟩
 · (try rw [Exit.noGoto_ret])
   exact bodyPost_ret (v := .tuple #[.slice (some ⟨gB1, 0, none⟩) 5 cB1, .bool true]) (by simp [results, Tryz.results30, go_sem]) rfl ⟨⟨_, rfl, HS.out.row⟩, HS.out.b0⟩
 all_goals
  clear k0
  refine start_ (n := 10) (S := fun w' => w'.cell? ⟨w.heap.size + 1, 3, none⟩ = some (.int .i64 place) ∧ w'.cell? ⟨w.heap.size + 1, 4, none⟩ = some (.string key)) (ds := []) #[false, false, false, false, false, false, false, false, false, false] (by kernel_rfl) rfl rfl ⟨HS.out.drew.at 3 rfl, HS.out.drew.at 4 rfl⟩ (fun hHeld => ?_)
  replace HS := am_ HS.out.drew; generalize wB1.drew = wD2 at HS hHeld ⊢
  refine pu_ 0 88 (bs_ 10 1) rfl rfl (by kernel_rfl) rfl (by intro w'; go_simp; with_reducible rfl) (by simp only [Act.put, aS, aZ, aC, i64_w, i32_w]; rfl) (fun _ _ _ h => h) ?_
  refine pu_ 1 89 (bs_ 10 3) rfl rfl (by kernel_rfl) rfl (by intro w'; go_simp; with_reducible rfl) (by simp only [Act.put, aS, aZ, aC, i64_w, i32_w]; rfl) (fun _ _ _ h => h) ?_
  refine pu_ 4 92 (bs_ 10 19) rfl rfl (by kernel_rfl) rfl (by intro w'; go_simp; with_reducible rfl) (by simp only [Act.put, aS, aZ, aC, i64_w, i32_w]; rfl) (fun _ _ _ h => h) ?_
  refine ta_ 2 90 (bs_ 10 23) rfl rfl (by kernel_rfl) rfl (by rintro w' ⟨s0, s1⟩; go_simp; with_reducible rfl) hHeld (by simp only [Act.put, aS, aZ, aC, i64_w, i32_w]; rfl) (fun _ _ _ h => h) ?_
  refine ta_ 5 93 (bs_ 10 55) rfl rfl (by kernel_rfl) rfl (by rintro w' ⟨s0, s1⟩; go_simp; with_reducible rfl) hHeld (by simp only [Act.put, aS, aZ, aC, i64_w, i32_w]; rfl) (fun _ _ _ h => h) ?_
  refine one_ (i := 3) (N := some 91) (bs_ 10 63) rfl rfl (by kernel_rfl) (by decide) (fun K hK => ?_)
  refine goes_ Tryz.func29 (by kernel_rfl) rfl #[.int .i64 place] (by rfl) rfl rfl (by (try simp only [aT, aK, aL]); first | done | rfl) ?_
  refine (itoaB_c place H4.out _ HS.out.env).mono ?_
  rintro e wC2 ⟨rfl, hb_⟩
  refine ⟨_, rfl, ?_⟩
  replace HS := am_ (HS.out.below hb_)
  clear hb_
  refine hK.out _ _ ⟨HS.out.at 3 rfl, HS.out.at 4 rfl⟩ (fun hHeld => ?_)
  clear hK K
  refine no_ (by simp only [Act.put, aS, aZ, aC, i64_w, i32_w]; rfl) ?_
  refine one_ (i := 6) (N := some 94) (bs_ 10 127) rfl rfl (by kernel_rfl) (by decide) (fun K hK => ?_)
  refine goes_ Tryz.func21 (by kernel_rfl) rfl #[.string key] (by rfl) rfl rfl (by (try simp only [aT, aK, aL]); first | done | rfl) ?_
  refine (rquote_c key H6.out _ HS.out.env).mono ?_
  rintro e wE2 ⟨rfl, hb_⟩
  refine ⟨_, rfl, ?_⟩
  replace HS := am_ (HS.out.below hb_)
  clear hb_
  refine hK.out _ _ ⟨HS.out.at 3 rfl, HS.out.at 4 rfl⟩ (fun hHeld => ?_)
  clear hK K
  refine no_ (by simp only [Act.put, aS, aZ, aC, i64_w, i32_w]; rfl) ?_
  refine one_ (i := 7) (N := some 95) (bs_ 10 255) rfl rfl (by kernel_rfl) (by decide) (fun K hK => ?_)
  refine value_ (w1 := ?_) (v := ?_) (by rfl) rfl ?_ ?_
  rotate_left 2
  · go_simp
    constructor
    · rfl
    rfl
  refine hK.out _ _ ⟨(HS.out.alloc _).at 3 rfl, (HS.out.alloc _).at 4 rfl⟩ (fun hHeld => ?_)
  clear hK K
  refine no_ (by simp only [Act.put, aS, aZ, aC, i64_w, i32_w]; rfl) ?_
  refine one_ (i := 8) (N := some 96) (bs_ 10 511) rfl rfl (by kernel_rfl) (by decide) (fun K hK => ?_)
  refine HS.out.append_ (by decide) [itoaB place, quoteB key] (.tmp 88) (.tmp 95) rfl rfl rfl 2 rfl (by decide) rfl 7 rfl (by decide) ?_
  intro gB2 cB2 wB2 HB_
  replace HS := am_ HB_
  clear HB_
  refine hK.out _ _ ⟨HS.out.at 3 rfl, HS.out.at 4 rfl⟩ (fun hHeld => ?_)
  clear hK K
  refine no_ (by simp only [Act.put, aS, aZ, aC, i64_w, i32_w]; rfl) ?_
  refine pu_ 9 7 (bs_ 10 1023) rfl rfl (by kernel_rfl) rfl (by intro w'; go_simp; with_reducible rfl) (by simp only [Act.put, aS, aZ, aC, i64_w, i32_w]; rfl) (fun _ _ _ h => h) ?_
  refine done_ (by kernel_rfl) ?_
  clear hHeld
  have k0 := HS.out.at 0 rfl
 · go_wp2_with fail
   (try rw [Exit.noGoto_ret])
   exact bodyPost_ret (v := .tuple #[.slice (some ⟨gB2, 0, none⟩) 7 cB2, .bool true]) (by simp [results, Tryz.results30, go_sem]) rfl ⟨⟨_, rfl, HS.out.row⟩, HS.out.b0⟩
 · go_wp2_with fail
   clear k0
   refine start_ (n := 10) (S := fun w' => w'.cell? ⟨w.heap.size + 1, 5, none⟩ = some (.string to_) ∧ w'.cell? ⟨w.heap.size + 1, 7, none⟩ = some (.int .i64 lim)) (ds := []) #[false, false, false, false, false, false, false, false, false, false] (by kernel_rfl) rfl rfl ⟨HS.out.drew.at 5 rfl, HS.out.drew.at 7 rfl⟩ (fun hHeld => ?_)
   replace HS := am_ HS.out.drew; generalize wB2.drew = wD3 at HS hHeld ⊢
   refine pu_ 0 100 (bs_ 10 1) rfl rfl (by kernel_rfl) rfl (by intro w'; go_simp; with_reducible rfl) (by simp only [Act.put, aS, aZ, aC, i64_w, i32_w]; rfl) (fun _ _ _ h => h) ?_
   refine pu_ 1 101 (bs_ 10 3) rfl rfl (by kernel_rfl) rfl (by intro w'; go_simp; with_reducible rfl) (by simp only [Act.put, aS, aZ, aC, i64_w, i32_w]; rfl) (fun _ _ _ h => h) ?_
   refine pu_ 4 104 (bs_ 10 19) rfl rfl (by kernel_rfl) rfl (by intro w'; go_simp; with_reducible rfl) (by simp only [Act.put, aS, aZ, aC, i64_w, i32_w]; rfl) (fun _ _ _ h => h) ?_
   refine ta_ 2 102 (bs_ 10 23) rfl rfl (by kernel_rfl) rfl (by rintro w' ⟨s0, s1⟩; go_simp; with_reducible rfl) hHeld (by simp only [Act.put, aS, aZ, aC, i64_w, i32_w]; rfl) (fun _ _ _ h => h) ?_
   refine ta_ 5 105 (bs_ 10 55) rfl rfl (by kernel_rfl) rfl (by rintro w' ⟨s0, s1⟩; go_simp; with_reducible rfl) hHeld (by simp only [Act.put, aS, aZ, aC, i64_w, i32_w]; rfl) (fun _ _ _ h => h) ?_
   refine one_ (i := 3) (N := some 103) (bs_ 10 63) rfl rfl (by kernel_rfl) (by decide) (fun K hK => ?_)
   refine goes_ Tryz.func21 (by kernel_rfl) rfl #[.string to_] (by rfl) rfl rfl (by (try simp only [aT, aK, aL]); first | done | rfl) ?_
   refine (rquote_c to_ H7.out _ HS.out.env).mono ?_
   rintro e wC3 ⟨rfl, hb_⟩
   refine ⟨_, rfl, ?_⟩
   replace HS := am_ (HS.out.below hb_)
   clear hb_
   refine hK.out _ _ ⟨HS.out.at 5 rfl, HS.out.at 7 rfl⟩ (fun hHeld => ?_)
   clear hK K
   refine no_ (by simp only [Act.put, aS, aZ, aC, i64_w, i32_w]; rfl) ?_
   refine one_ (i := 6) (N := some 106) (bs_ 10 127) rfl rfl (by kernel_rfl) (by decide) (fun K hK => ?_)
   refine goes_ Tryz.func29 (by kernel_rfl) rfl #[.int .i64 lim] (by rfl) rfl rfl (by (try simp only [aT, aK, aL]); first | done | rfl) ?_
   refine (itoaB_c lim H5.out _ HS.out.env).mono ?_
   rintro e wE3 ⟨rfl, hb_⟩
   refine ⟨_, rfl, ?_⟩
   replace HS := am_ (HS.out.below hb_)
   clear hb_
   refine hK.out _ _ ⟨HS.out.at 5 rfl, HS.out.at 7 rfl⟩ (fun hHeld => ?_)
   clear hK K
   refine no_ (by simp only [Act.put, aS, aZ, aC, i64_w, i32_w]; rfl) ?_
   refine one_ (i := 7) (N := some 107) (bs_ 10 255) rfl rfl (by kernel_rfl) (by decide) (fun K hK => ?_)
   refine value_ (w1 := ?_) (v := ?_) (by rfl) rfl ?_ ?_
   rotate_left 2
   · go_simp
     constructor
     · rfl
     rfl
   refine hK.out _ _ ⟨(HS.out.alloc _).at 5 rfl, (HS.out.alloc _).at 7 rfl⟩ (fun hHeld => ?_)
   clear hK K
   refine no_ (by simp only [Act.put, aS, aZ, aC, i64_w, i32_w]; rfl) ?_
   refine one_ (i := 8) (N := some 108) (bs_ 10 511) rfl rfl (by kernel_rfl) (by decide) (fun K hK => ?_)
   refine HS.out.append_ (by decide) [quoteB to_, itoaB lim] (.tmp 100) (.tmp 107) rfl rfl rfl 2 rfl (by decide) rfl 9 rfl (by decide) ?_
   intro gB3 cB3 wB3 HB_
   replace HS := am_ HB_
   clear HB_
   refine hK.out _ _ ⟨HS.out.at 5 rfl, HS.out.at 7 rfl⟩ (fun hHeld => ?_)
   clear hK K
   refine no_ (by simp only [Act.put, aS, aZ, aC, i64_w, i32_w]; rfl) ?_
   refine pu_ 9 7 (bs_ 10 1023) rfl rfl (by kernel_rfl) rfl (by intro w'; go_simp; with_reducible rfl) (by simp only [Act.put, aS, aZ, aC, i64_w, i32_w]; rfl) (fun _ _ _ h => h) ?_
   refine done_ (by kernel_rfl) ?_
   clear hHeld
   have k0 := HS.out.at 0 rfl
   go_wp2_with fail
   (try rw [Exit.noGoto_ret])
   exact bodyPost_ret (v := .tuple #[.slice (some ⟨gB3, 0, none⟩) 9 cB3, .bool true]) (by simp [results, Tryz.results30, go_sem]) rfl ⟨⟨_, rfl, HS.out.row⟩, HS.out.b0⟩
 · have k_val := HS.out.at 6 rfl
   have hcv := Kd.C_string (P := Tryz.prog) (A := A8) (c := c8) Tryz.underlying38 Tryz.underlying5 Tryz.underlying9 (Kd.C_below HV.out HS.out.b0)
   go_wp2_with (first | (go_at_call 21; refine (rquote_c _ H8.out _ HS.out.env).mono ?_; rintro e wC9 ⟨rfl, hb_⟩; replace HS := am_ (HS.out.below hb_); clear hb_ k_val hcv k0) | (at_builtin; refine HS.out.appendL (by decide) [quoteB (strOfNums val)] _ _ rfl rfl rfl 1 rfl (by decide) rfl 8 rfl (by decide) ?_; intro gB9 cB9 wB9 HB_; replace HS := am_ HB_; clear HB_))
   (try rw [Exit.noGoto_ret])
   exact bodyPost_ret (v := .tuple #[.slice (some ⟨gB9, 0, none⟩) 8 cB9, .bool true]) (by simp [results, Tryz.results30, go_sem]) rfl ⟨⟨_, rfl, HS.out.row⟩, HS.out.b0⟩
 go_wp2_with fail
 (try rw [Exit.noGoto_ret])
 exact bodyPost_ret (v := .tuple #[.slice (some ⟨gB2, 0, none⟩) 7 cB2, .bool true]) (by simp [results, Tryz.results30, go_sem]) rfl ⟨⟨_, rfl, HS.out.row⟩, HS.out.b0⟩
theorem two_any (w : World) (c1 : Array Value) (t1 : TypeId) (c2 : Array Value) (t2 : TypeId) : ThreeW w ((w.alloc (.cells c1 t1)).alloc (.cells c2 t2)) c1 t1 c2 t2 := by
 have h1 := wld.alloc_same w (.cells c1 t1)
 have h2 : ((w.alloc (.cells c1 t1)).alloc (.cells c2 t2)).heap[w.heap.size + 1]? = some (.cells c2 t2 (0, 0)) := by
  have := wld.alloc_same (w.alloc (.cells c1 t1)) (.cells c2 t2)
  rw [show (w.alloc (.cells c1 t1)).heap.size = w.heap.size + 1 by simp] at this
  exact this
 have b1 := b1_ (Below.refl (w.alloc (.cells c1 t1)).heap.size (w.alloc (.cells c1 t1))) (.cells c2 t2)
 exact ⟨(b1.block _ (blk_lt h1)).trans h1, h2, b1_ (b1_ (Below.refl _ _) _) _⟩
theorem SInv.firstL {w0 w : World} {g : Nat} {t : TypeId} {cells : Array Value} (hE : sc.Env w0) (hy : w.heap[g]? = some (.cells cells t (0, 0))) (hb : Below w0.heap.size w0 w) (hg : w0.heap.size ≤ g) (ws : List ByteArray) (h0 : ws ≠ []) (hm : ws.length ≤ maxLen) :
 SInv w0 (w.alloc (.cells (ws.map Value.string).toArray 9)) g t cells (.slice (some ⟨w.heap.size, 0, none⟩) ws.length ws.length) ws :=
 ⟨hE, ((b1_ (Below.refl w.heap.size w) _).block _ (blk_lt hy)).trans hy, b1_ hb _, hg, R_strings w ws w0.heap.size hb.size h0 hm⟩
theorem ThreeW.two {w W : World} {c1 : Array Value} {t1 : TypeId} {c2 : Array Value} {t2 : TypeId} (h : ThreeW w W c1 t1 c2 t2) (o : Obj) : ThreeW w (W.alloc o) c1 t1 c2 t2 := h.below (b1_ (Below.refl _ _) o)
theorem say_evk (f0 f1 qk life num place : Int) (key to_ : ByteArray) (A8 : Option Addr) (c8 : Nat) (val : List Int) (lim pl : Int) (A11 : Option Addr) (c11 : Nat) (L : List (List S66)) (w : World) (h0 : ¬ f0 = 1) (hk : ¬ (2 ≤ f0 ∧ f0 ≤ 5)) :
 Calls Tryz.prog 30 #[.agg #[.int .i64 f0, .int .i64 f1, .int .i64 qk, .int .i64 life, .int .i64 num, .int .i64 place, .string key, .string to_, .slice A8 val.length c8, .int .i64 lim, .int .i64 pl, .slice A11 L.length c11]] w fun e w' => SayOut w w' none e := by
 have e1 : (f0 == 1) = false := beq_eq_false_iff_ne.mpr h0
 have HK := am_ hk
 clear hk h0
 go_enter Tryz.func30, Tryz.ntmps30
 by_cases h3 : f0 < 2
 · go_wp2
   (try rw [Exit.noGoto_ret])
   exact bodyPost_ret (v := .tuple #[.slice none 0 0, .bool false]) (by simp [results, Tryz.results30, go_sem]) rfl ⟨rfl, b1_ (b1_ (Below.refl _ _) _) _⟩
 have h4 : 5 < f0 := by have := HK.out; omega
 go_wp2
 (try rw [Exit.noGoto_ret])
 exact bodyPost_ret (v := .tuple #[.slice none 0 0, .bool false]) (by simp [results, Tryz.results30, go_sem]) rfl ⟨rfl, b1_ (b1_ (Below.refl _ _) _) _⟩
theorem say_evz (f0 f1 qk life num place : Int) (key to_ : ByteArray) (A8 : Option Addr) (c8 : Nat) (val : List Int) (lim pl : Int) (A11 : Option Addr) (c11 : Nat) (L : List (List S66)) (w : World) (hk : 2 ≤ f0 ∧ f0 ≤ 5)
 (hz : ¬ (f1 = 0 ∧ qk = 0 ∧ zeroB ⟨qk, ⟨life, num⟩, place, key, to_, val, lim⟩ false false false false false false = true)) :
 Calls Tryz.prog 30 #[.agg #[.int .i64 f0, .int .i64 f1, .int .i64 qk, .int .i64 life, .int .i64 num, .int .i64 place, .string key, .string to_, .slice A8 val.length c8, .int .i64 lim, .int .i64 pl, .slice A11 L.length c11]] w fun e w' => SayOut w w' none e := by
 have e1 : (f0 == 1) = false := beq_eq_false_iff_ne.mpr (by omega)
 have e2 : ¬ f0 < 2 := by omega
 have e3 : ¬ 5 < f0 := by omega
 have HZ := am_ hz
 clear hz hk
 go_enter Tryz.func30, Tryz.ntmps30
 by_cases h1 : f1 = 0
 · by_cases h2 : qk = 0
   · have HB := am_ (two_any w #[.int .i64 f0, .int .i64 f1, .int .i64 qk, .int .i64 life, .int .i64 num, .int .i64 place, .string key, .string to_, .slice A8 val.length c8, .int .i64 lim, .int .i64 pl, .slice A11 L.length c11] 52 #[.int .i64 qk, .int .i64 life, .int .i64 num, .int .i64 place, .string key, .string to_, .slice A8 val.length c8, .int .i64 lim] 49).b
     have hzz : zeroB ⟨0, ⟨life, num⟩, place, key, to_, val, lim⟩ false false false false false false = false := by
      rw [Bool.eq_false_iff]
      intro h
      exact HZ.out ⟨h1, h2, by rw [h2]; exact h⟩
     have HZZ := am_ hzz
     clear hzz HZ
     subst h1 h2
     go_wp2_with fail
     generalize ((w.alloc _).alloc _) = W3 at HB ⊢
     refine (zero_calls ⟨0, ⟨life, num⟩, place, key, to_, val, lim⟩ A8 c8 _ _ _ _ _ _ W3 (by simp)).mono ?_
     rintro e w1 ⟨rfl, hb1⟩
     have HB1 := am_ (below_step HB.out hb1)
     clear hb1
     rw [HZZ.out]
     go_wp2
     (try rw [Exit.noGoto_ret])
     exact bodyPost_ret (v := .tuple #[.slice none 0 0, .bool false]) (by simp [results, Tryz.results30, go_sem]) rfl ⟨rfl, HB1.out⟩
   have h2' : (qk == 0) = false := beq_eq_false_iff_ne.mpr h2
   have h2'' : (qk != 0) = true := bne_iff_ne.mpr h2
   go_wp2
   (try rw [Exit.noGoto_ret])
   exact bodyPost_ret (v := .tuple #[.slice none 0 0, .bool false]) (by simp [results, Tryz.results30, go_sem]) rfl ⟨rfl, b1_ (b1_ (Below.refl _ _) _) _⟩
 have h1' : (f1 != 0) = true := bne_iff_ne.mpr h1
 go_wp2
 (try rw [Exit.noGoto_ret])
 exact bodyPost_ret (v := .tuple #[.slice none 0 0, .bool false]) (by simp [results, Tryz.results30, go_sem]) rfl ⟨rfl, b1_ (b1_ (Below.refl _ _) _) _⟩
theorem say_evp (kk life num place : Int) (key to_ : ByteArray) (A8 : Option Addr) (c8 : Nat) (val : List Int) (lim pl : Int) (A11 : Option Addr) (c11 : Nat) (L : List (List S66)) (w : World) (hE : sc.Env w) (hk : 2 ≤ kk ∧ kk ≤ 5)
 (hz : zeroB ⟨0, ⟨life, num⟩, place, key, to_, val, lim⟩ false false false false false false = true) (hpl : ¬ (pl = 0 ∨ kk = 3 ∨ kk = 4)) :
 Calls Tryz.prog 30 #[.agg #[.int .i64 kk, .int .i64 0, .int .i64 0, .int .i64 life, .int .i64 num, .int .i64 place, .string key, .string to_, .slice A8 val.length c8, .int .i64 lim, .int .i64 pl, .slice A11 L.length c11]] w fun e w' => SayOut w w' none e := by
 have HZ := am_ hz
 have hp : (pl != 0) = true := bne_iff_ne.mpr (fun h => hpl (.inl h))
 have hk' : kk = 2 ∨ kk = 5 := by omega
 clear hz hk hpl
 obtain ⟨kc, hkc⟩ : ∃ kc, kc = kk := ⟨_, rfl⟩
 obtain ⟨kd, hkd⟩ : ∃ kd, kd = kk := ⟨_, rfl⟩
 have HKD := am_ hkd
 clear hkd
 rcases hk' with rfl | rfl
 all_goals
  have HT := two_any w #[.int .i64 kc, .int .i64 0, .int .i64 0, .int .i64 life, .int .i64 num, .int .i64 place, .string key, .string to_, .slice A8 val.length c8, .int .i64 lim, .int .i64 pl, .slice A11 L.length c11] 52 #[.int .i64 0, .int .i64 life, .int .i64 num, .int .i64 place, .string key, .string to_, .slice A8 val.length c8, .int .i64 lim] 49
  subst hkc
  replace HT := am_ HT
  go_enter Tryz.func30, Tryz.ntmps30
  go_wp2_with fail
  generalize ((w.alloc _).alloc _) = W3 at HT ⊢
  refine (zero_calls ⟨0, ⟨life, num⟩, place, key, to_, val, lim⟩ A8 c8 _ _ _ _ _ _ W3 (by simp)).mono ?_
  rintro e w1 ⟨rfl, hb1⟩
  replace HT := am_ (HT.out.below hb1)
  clear hb1
  rw [HZ.out]
  have x0 := wld.cell_of (o := 0) HT.out.x rfl
  have x0a := wld.cell_of (o := 0) (HT.out.two (.cells #[.string ⟨#[116, 105, 99, 107]⟩, .string ⟨#[118, 97, 99, 117, 117, 109]⟩, .string ⟨#[99, 104, 101, 99, 107, 112, 111, 105, 110, 116]⟩, .string ⟨#[105, 100, 108, 101]⟩] 9)).x rfl
  go_upto_region 22 with (fail)
  clear x0 x0a
  replace HT := am_ ((HT.out.two (.cells #[.string ⟨#[116, 105, 99, 107]⟩, .string ⟨#[118, 97, 99, 117, 117, 109]⟩, .string ⟨#[99, 104, 101, 99, 107, 112, 111, 105, 110, 116]⟩, .string ⟨#[105, 100, 108, 101]⟩] 9)).two (.cells #[.string ((if kd = 2 then ⟨#[116, 105, 99, 107]⟩ else ⟨#[105, 100, 108, 101]⟩) : ByteArray)] 9))
  rw [HKD.out] at HT
  simp only [if_true, Int.reduceEq, if_false, reduceIte] at HT
  generalize ((w1.alloc _).alloc _) = W4 at HT ⊢
  have x0 := wld.cell_of (o := 0) HT.out.x rfl
  have x10 := wld.cell_of (o := 10) HT.out.x rfl
  go_wp2
  (try rw [Exit.noGoto_ret])
  exact bodyPost_ret (v := .tuple #[.slice none 0 0, .bool false]) (by simp [results, Tryz.results30, go_sem]) rfl ⟨rfl, HT.out.b⟩
theorem say_ev (kk life num place : Int) (key to_ : ByteArray) (A8 : Option Addr) (c8 : Nat) (val : List Int) (lim pl : Int) (A11 : Option Addr) (c11 : Nat) (L : List (List S66)) (w : World) (hE : sc.Env w) (hk : 2 ≤ kk ∧ kk ≤ 5)
 (hz : zeroB ⟨0, ⟨life, num⟩, place, key, to_, val, lim⟩ false false false false false false = true) (hpl : pl = 0 ∨ kk = 3 ∨ kk = 4) (hp : sc.InInt pl)
 (hL : (Kd.slice 66 k66).C w A11 L.length L) (hf : ∀ l ∈ L, ∀ f ∈ l, FateOK f) (hn : (evHead kk pl ++ L.flatMap strikeW).length ≤ 4294967296) :
 Calls Tryz.prog 30 #[.agg #[.int .i64 kk, .int .i64 0, .int .i64 0, .int .i64 life, .int .i64 num, .int .i64 place, .string key, .string to_, .slice A8 val.length c8, .int .i64 lim, .int .i64 pl, .slice A11 L.length c11]] w fun e w' => SayOut w w' (some (evHead kk pl ++ L.flatMap strikeW)) e := by
 obtain ⟨hd, hhd⟩ : ∃ hd, hd = evHead kk pl := ⟨_, rfl⟩
 rw [← hhd] at hn ⊢
 have HHD := am_ hhd
 clear hhd
 have HE := am_ hE
 have HZ := am_ hz
 have HP := am_ hp
 have HPL := am_ hpl
 have HLC := am_ hL
 have HF := am_ hf
 have HN := am_ hn
 have hLm : L.length ≤ 9223372036854775807 := hL.2.1
 clear hE hz hp hpl hL hf hn
 have hk' : kk = 2 ∨ kk = 3 ∨ kk = 4 ∨ kk = 5 := by omega
 clear hk
 obtain ⟨kc, hkc⟩ : ∃ kc, kc = kk := ⟨_, rfl⟩
 obtain ⟨kd, hkd⟩ : ∃ kd, kd = kk := ⟨_, rfl⟩
 have HKD := am_ hkd
 clear hkd
 rcases hk' with rfl | rfl | rfl | rfl
 all_goals
  have HT := two_any w #[.int .i64 kc, .int .i64 0, .int .i64 0, .int .i64 life, .int .i64 num, .int .i64 place, .string key, .string to_, .slice A8 val.length c8, .int .i64 lim, .int .i64 pl, .slice A11 L.length c11] 52 #[.int .i64 0, .int .i64 life, .int .i64 num, .int .i64 place, .string key, .string to_, .slice A8 val.length c8, .int .i64 lim] 49
  subst hkc
  replace HT := am_ HT
  go_enter Tryz.func30, Tryz.ntmps30
  go_wp2_with fail
  generalize ((w.alloc _).alloc _) = W3 at HT ⊢
  refine (zero_calls ⟨0, ⟨life, num⟩, place, key, to_, val, lim⟩ A8 c8 _ _ _ _ _ _ W3 (by simp)).mono ?_
  rintro e w1 ⟨rfl, hb1⟩
  replace HT := am_ (HT.out.below hb1)
  clear hb1
  rw [HZ.out]
  have x0 := wld.cell_of (o := 0) HT.out.x rfl
  have x0a := wld.cell_of (o := 0) (HT.out.two (.cells #[.string ⟨#[116, 105, 99, 107]⟩, .string ⟨#[118, 97, 99, 117, 117, 109]⟩, .string ⟨#[99, 104, 101, 99, 107, 112, 111, 105, 110, 116]⟩, .string ⟨#[105, 100, 108, 101]⟩] 9)).x rfl
  go_upto_region 22 with (fail)
  clear x0 x0a
  have HS := SInv.firstL HE.out (HT.out.two (.cells #[.string ⟨#[116, 105, 99, 107]⟩, .string ⟨#[118, 97, 99, 117, 117, 109]⟩, .string ⟨#[99, 104, 101, 99, 107, 112, 111, 105, 110, 116]⟩, .string ⟨#[105, 100, 108, 101]⟩] 9)).x (HT.out.two (.cells #[.string ⟨#[116, 105, 99, 107]⟩, .string ⟨#[118, 97, 99, 117, 117, 109]⟩, .string ⟨#[99, 104, 101, 99, 107, 112, 111, 105, 110, 116]⟩, .string ⟨#[105, 100, 108, 101]⟩] 9)).b (Nat.le_refl _) [((if kd = 2 then ⟨#[116, 105, 99, 107]⟩ else if kd = 3 then ⟨#[118, 97, 99, 117, 117, 109]⟩ else if kd = 4 then ⟨#[99, 104, 101, 99, 107, 112, 111, 105, 110, 116]⟩ else ⟨#[105, 100, 108, 101]⟩) : ByteArray)] (by simp) (by simp [maxLen])
  rw [HKD.out] at HS
  simp only [if_true, Int.reduceEq, if_false, reduceIte, List.map_cons, List.map_nil, List.length_cons, List.length_nil, Nat.zero_add, World.size_alloc] at HS
  replace HS := am_ HS
  clear HT
  generalize ((w1.alloc _).alloc _) = WS at HS ⊢
  generalize w1.heap.size + 1 = gA at HS ⊢
  have x0 := HS.out.at 0 rfl
  have x10 := HS.out.at 10 rfl
 focus
  have hp0 : pl = 0 := by have := HPL.out; omega
  have hp1 : (pl != 0) = false := by rw [hp0]; rfl
  go_upto_region 26 with (fail)
  clear x0 x10 hp1 hp0
  have HD := am_ (show evHead 2 pl = [⟨#[116, 105, 99, 107]⟩] by simp [evHead])
  clear HPL
  rw [← HD.out] at HS
  clear HD
  rw [← HHD.out] at HS
  clear HHD
  generalize WS = wA at HS ⊢
 rotate_left
 focus
  go_upto_region 26 with (first | (go_at_call 29; refine (itoaB_c pl HP.out _ HS.out.env).mono ?_; rintro e w2 ⟨rfl, hb2⟩; replace HS := am_ (HS.out.below hb2); clear hb2 x0 x10) | (at_builtin; refine HS.out.appendL (by decide) [itoaB pl] _ _ rfl rfl rfl 1 rfl (by decide) rfl 2 rfl (by decide) ?_; intro gB cB wB HB_; replace HS := am_ HB_; clear HB_))
  have HD := am_ (show evHead 3 pl = [⟨#[118, 97, 99, 117, 117, 109]⟩] ++ [itoaB pl] by simp [evHead])
  clear HPL
  rw [← HD.out] at HS
  clear HD
  rw [← HHD.out] at HS
  clear HHD
  generalize wB = wA at HS ⊢
 rotate_left
 focus
  go_upto_region 26 with (first | (go_at_call 29; refine (itoaB_c pl HP.out _ HS.out.env).mono ?_; rintro e w2 ⟨rfl, hb2⟩; replace HS := am_ (HS.out.below hb2); clear hb2 x0 x10) | (at_builtin; refine HS.out.appendL (by decide) [itoaB pl] _ _ rfl rfl rfl 1 rfl (by decide) rfl 2 rfl (by decide) ?_; intro gB cB wB HB_; replace HS := am_ HB_; clear HB_))
  have HD := am_ (show evHead 4 pl = [⟨#[99, 104, 101, 99, 107, 112, 111, 105, 110, 116]⟩] ++ [itoaB pl] by simp [evHead])
  clear HPL
  rw [← HD.out] at HS
  clear HD
  rw [← HHD.out] at HS
  clear HHD
  generalize wB = wA at HS ⊢
 rotate_left
 focus
  have hp0 : pl = 0 := by have := HPL.out; omega
  have hp1 : (pl != 0) = false := by rw [hp0]; rfl
  go_upto_region 26 with (fail)
  clear x0 x10 hp1 hp0
  have HD := am_ (show evHead 5 pl = [⟨#[105, 100, 108, 101]⟩] by simp [evHead])
  clear HPL
  rw [← HD.out] at HS
  clear HD
  rw [← HHD.out] at HS
  clear HHD
  generalize WS = wA at HS ⊢
 rotate_left
 all_goals
  generalize hCE : (#[.int .i64 _, .int .i64 0, .int .i64 0, .int .i64 life, .int .i64 num, .int .i64 place, .string key, .string to_, .slice A8 val.length c8, .int .i64 lim, .int .i64 pl, .slice A11 L.length c11] : Array Value) = CE at HS
  have H11 : Aside0 (CE[11]? = some (.slice A11 L.length c11)) := am_ (by rw [← hCE]; rfl)
  clear hCE
  have k_L := HS.out.at 11 H11.out
  go_wp2_with fail
  go_loopw [8, 170] (fun vw i wr => ∃ (k n c : Nat) (A : Option Addr), k ≤ L.length ∧ i = .int .i64 k ∧ vw = .slice A n c ∧ SInv w wr w.heap.size 52 CE (.slice A n c) (hd ++ (L.take k).flatMap strikeW)) (fun _ i _ => L.length - (intOf i).toNat)
  case atStart => exact ⟨0, _, _, _, Nat.zero_le _, rfl, rfl, by simpa using HS.out⟩
  case round =>
   clear HS k_L
   obtain ⟨k, n, c, A, hk, rfl, rfl, hA⟩ := hrel
   have HA := am_ hA
   clear hA
   by_cases hlt : k < L.length
   · obtain ⟨l, hl⟩ : ∃ l, L[k]? = some l := ⟨L[k], List.getElem?_eq_getElem hlt⟩
     obtain ⟨bL, oL, cs, hAL, hKl, hcl⟩ := Cat_ HLC.out hl (by decide)
     subst hAL
     obtain ⟨Al, cl, rfl, hcl2, hlC⟩ := hKl
     have hc0' := hcl 0 _ rfl
     have hc0 : wr.cell? ⟨bL, oL + k, none⟩ = some (.slice Al l.length cl) := by
      have := (HA.out.b0.cell (p := ⟨bL, oL + (k * 1 + 0), none⟩) (World.block_lt_of_cell? w _ hc0')).trans hc0'
      rwa [Nat.mul_one, Nat.add_zero] at this
     have htk : L.take (k + 1) = L.take k ++ [l] := by rw [List.take_add_one, hl]; rfl
     have HTK := am_ htk
     have HLM := am_ (List.mem_of_getElem? hl)
     have HLK := am_ hl
     have HLC2 := am_ hlC
     have hlm : l.length ≤ 9223372036854775807 := hlC.2.1
     clear htk hl hlC hcl hcl2 hc0'
     have hrn := (Kd.R_reads' HA.out.row).1
     have hbd : n + (l.length + 1) ≤ 4294967296 := by
      have h1 := flat_le L k HLK.out
      have h2 := HN.out
      rw [hrn]
      simp only [List.length_append] at h2 ⊢
      omega
     have HRN := am_ hrn
     have HBD := am_ hbd
     clear hrn hbd
     go_wp2_with (at_builtin; refine HA.out.appendL (by decide) [⟨#[47]⟩] _ _ rfl rfl rfl 1 rfl (by decide) rfl (n + 1) (by rw [← HRN.out]) (by have := HBD.out; omega) ?_; intro gB cB wB HB_; clear hc0)
     go_loopw [8, 179] (fun vw i wr2 => ∃ (j n2 c2 : Nat) (A2 : Option Addr), j ≤ l.length ∧ i = .int .i64 j ∧ vw = .slice A2 n2 c2 ∧ SInv w wr2 w.heap.size 52 CE (.slice A2 n2 c2) ((hd ++ (L.take k).flatMap strikeW) ++ ⟨#[47]⟩ :: (l.take j).map fateW)) (fun _ i _ => l.length - (intOf i).toNat)
     case atStart => exact ⟨0, _, _, _, Nat.zero_le _, rfl, rfl, by simpa using HB_⟩
     case round =>
      clear HB_ HA
      obtain ⟨j, n2, c2, A2, hj, rfl, rfl, hA⟩ := hrel
      have HA := am_ hA
      clear hA
      by_cases hlt2 : j < l.length
      · obtain ⟨f, hf⟩ : ∃ f, l[j]? = some f := ⟨l[j], List.getElem?_eq_getElem hlt2⟩
        obtain ⟨bF, oF, cs, hAF, hKf, hcf⟩ := Cat_ HLC2.out hf (by decide)
        subst hAF
        obtain rfl := k66_open hKf
        have kb : ∀ i u, ([.int .i64 f.f0, .int .i64 f.f1, .int .u8 f.f2] : List Value)[i]? = some u → wr.cell? ⟨bF, oF + (j * 3 + i), none⟩ = some u := fun i u hi =>
         (HA.out.b0.cell (p := ⟨bF, oF + (j * 3 + i), none⟩) (World.block_lt_of_cell? w _ (hcf i u hi))).trans (hcf i u hi)
        have k0 : wr.cell? ⟨bF, oF + j * 3, none⟩ = some (.int .i64 f.f0) := kb 0 _ rfl
        have k1 : wr.cell? ⟨bF, oF + j * 3 + 1, none⟩ = some (.int .i64 f.f1) := kb 1 _ rfl
        have k2 : wr.cell? ⟨bF, oF + j * 3 + 2, none⟩ = some (.int .u8 f.f2) := kb 2 _ rfl
        have htk2 : l.take (j + 1) = l.take j ++ [f] := by rw [List.take_add_one, hf]; rfl
        have hfo := HF.out l HLM.out f (List.mem_of_getElem? hf)
        have hrn2 := (Kd.R_reads' HA.out.row).1
        have hbd2 : n2 + 1 ≤ 4294967296 := by
         have h2 := HBD.out
         have h3 := HRN.out
         rw [hrn2]
         simp only [List.length_append, List.length_cons, List.length_map, List.length_take] at h3 ⊢
         omega
        have HTK2 := am_ htk2
        have HFO := am_ hfo
        have HRN2 := am_ hrn2
        have HBD2 := am_ hbd2
        have hf20 := hfo.2.2.1
        have hf21 := hfo.2.2.2
        have z0 := itoaB_size f.f0 hfo.1
        have z1 := itoaB_size f.f1 hfo.2.1
        have z2 := itoaB_size f.f2 ⟨by omega, by omega⟩
        have q1 : ¬ 9223372036854775807 < (itoaB f.f0).size + 1 := by omega
        have q2 : ¬ 9223372036854775807 < (itoaB f.f0).size + 1 + (itoaB f.f1).size := by omega
        have q3 : ¬ 9223372036854775807 < (itoaB f.f0).size + 1 + (itoaB f.f1).size + 1 := by omega
        have q4 : ¬ 9223372036854775807 < (itoaB f.f0).size + 1 + (itoaB f.f1).size + 1 + (itoaB f.f2).size := by omega
        have hw := IntWalk.i64_in f.f2 (by omega)
        clear kb hcf hKf hf htk2 hfo hrn2 hbd2 z0 z1 z2
        go_wp2
        have HFX := am_ (wld.alloc_same wr (.cells #[.int .i64 f.f0, .int .i64 f.f1, .int .u8 f.f2] 66))
        replace HA := am_ (HA.out.alloc (.cells #[.int .i64 f.f0, .int .i64 f.f1, .int .u8 f.f2] 66))
        clear k0 k1 k2
        generalize wr.alloc _ = wF at HA HFX ⊢
        generalize wr.heap.size = fb at HFX ⊢
        refine start_ (n := 18) (S := fun w' => w'.cell? ⟨fb, 0, none⟩ = some (.int .i64 f.f0) ∧ w'.cell? ⟨fb, 1, none⟩ = some (.int .i64 f.f1) ∧ w'.cell? ⟨fb, 2, none⟩ = some (.int .u8 f.f2)) (ds := [16]) #[false, false, false, false, false, false, false, false, false, false, false, false, false, false, false, false, false, false] (by kernel_rfl) rfl rfl (c3_ HFX.out) (fun hHeld => ?_)
        replace HA := am_ HA.out.drew; replace HFX := am_ (show wF.drew.heap[fb]? = _ from HFX.out); generalize wF.drew = wG at HA HFX hHeld ⊢
        refine pu_ 0 183 (bs_ 18 1) rfl rfl (by kernel_rfl) rfl (by intro w'; go_simp; with_reducible rfl) (by simp only [Act.put, aS, aZ, aC, i64_w, i32_w]; rfl) (fun _ _ _ h => h) ?_
        refine pu_ 1 184 (bs_ 18 3) rfl rfl (by kernel_rfl) rfl (by intro w'; go_simp; with_reducible rfl) (by simp only [Act.put, aS, aZ, aC, i64_w, i32_w]; rfl) (fun _ _ _ h => h) ?_
        refine pu_ 5 188 (bs_ 18 35) rfl rfl (by kernel_rfl) rfl (by intro w'; go_simp; with_reducible rfl) (by simp only [Act.put, aS, aZ, aC, i64_w, i32_w]; rfl) (fun _ _ _ h => h) ?_
        refine pu_ 10 193 (bs_ 18 1059) rfl rfl (by kernel_rfl) rfl (by intro w'; go_simp; with_reducible rfl) (by simp only [Act.put, aS, aZ, aC, i64_w, i32_w]; rfl) (fun _ _ _ h => h) ?_
        refine ta_ 2 185 (bs_ 18 1063) rfl rfl (by kernel_rfl) rfl (by rintro w' ⟨s0, s1, s2⟩; go_simp; with_reducible rfl) hHeld (by simp only [Act.put, aS, aZ, aC, i64_w, i32_w]; rfl) (fun _ _ _ h => h) ?_
        refine ta_ 6 189 (bs_ 18 1127) rfl rfl (by kernel_rfl) rfl (by rintro w' ⟨s0, s1, s2⟩; go_simp; with_reducible rfl) hHeld (by simp only [Act.put, aS, aZ, aC, i64_w, i32_w]; rfl) (fun _ _ _ h => h) ?_
        refine ta_ 11 194 (bs_ 18 3175) rfl rfl (by kernel_rfl) rfl (by rintro w' ⟨s0, s1, s2⟩; go_simp; with_reducible rfl) hHeld (by simp only [Act.put, aS, aZ, aC, i64_w, i32_w]; rfl) (fun _ _ _ h => h) ?_
        refine pu_ 12 195 (bs_ 18 7271) rfl rfl (by kernel_rfl) rfl (by intro w'; go_simp; with_reducible rfl) (by simp only [Act.put, aS, aZ, aC, i64_w, i32_w]; rfl) (fun _ _ _ h => h) ?_
        refine one_ (i := 3) (N := some 186) (bs_ 18 7279) rfl rfl (by kernel_rfl) (by decide) (fun K hK => ?_)
        refine goes_ Tryz.func29 (by kernel_rfl) rfl #[.int .i64 f.f0] (by rfl) rfl rfl (by (try simp only [aT, aK, aL]); first | done | rfl) ?_
        refine (itoaB_c f.f0 HFO.out.1 _ HA.out.env).mono ?_
        rintro e wN1 ⟨rfl, hb_⟩
        refine ⟨_, rfl, ?_⟩
        replace HA := am_ (HA.out.below hb_)
        replace HFX := am_ ((hb_.block fb (blk_lt HFX.out)).trans HFX.out)
        clear hb_
        refine hK.out _ _ (c3_ HFX.out) (fun hHeld => ?_)
        clear hK K
        refine no_ (by simp only [Act.put, aS, aZ, aC, i64_w, i32_w]; rfl) ?_
        refine pu_ 4 187 (bs_ 18 7295) rfl rfl (by kernel_rfl) rfl (by intro w'; go_simp; with_reducible rfl) (by simp only [Act.put, aS, aZ, aC, i64_w, i32_w]; rfl) (fun _ _ _ h => h) ?_
        refine one_ (i := 7) (N := some 190) (bs_ 18 7423) rfl rfl (by kernel_rfl) (by decide) (fun K hK => ?_)
        refine goes_ Tryz.func29 (by kernel_rfl) rfl #[.int .i64 f.f1] (by rfl) rfl rfl (by (try simp only [aT, aK, aL]); first | done | rfl) ?_
        refine (itoaB_c f.f1 HFO.out.2.1 _ HA.out.env).mono ?_
        rintro e wN2 ⟨rfl, hb_⟩
        refine ⟨_, rfl, ?_⟩
        replace HA := am_ (HA.out.below hb_)
        replace HFX := am_ ((hb_.block fb (blk_lt HFX.out)).trans HFX.out)
        clear hb_
        refine hK.out _ _ (c3_ HFX.out) (fun hHeld => ?_)
        clear hK K
        refine no_ (by simp only [Act.put, aS, aZ, aC, i64_w, i32_w]; rfl) ?_
        refine pu_ 8 191 (bs_ 18 7679) rfl rfl (by kernel_rfl) rfl (by intro w'; go_simp; with_reducible rfl) (by simp only [Act.put, aS, aZ, aC, i64_w, i32_w]; rfl) (fun _ _ _ h => h) ?_
        refine pu_ 9 192 (bs_ 18 8191) rfl rfl (by kernel_rfl) rfl (by intro w'; go_simp; with_reducible rfl) (by simp only [Act.put, aS, aZ, aC, i64_w, i32_w]; rfl) (fun _ _ _ h => h) ?_
        refine one_ (i := 13) (N := some 196) (bs_ 18 16383) rfl rfl (by kernel_rfl) (by decide) (fun K hK => ?_)
        refine goes_ Tryz.func29 (by kernel_rfl) rfl #[.int .i64 f.f2] (by rfl) rfl rfl (by (try simp only [aT, aK, aL]); first | done | rfl) ?_
        refine (itoaB_c f.f2 ⟨by omega, by omega⟩ _ HA.out.env).mono ?_
        rintro e wN3 ⟨rfl, hb_⟩
        refine ⟨_, rfl, ?_⟩
        replace HA := am_ (HA.out.below hb_)
        replace HFX := am_ ((hb_.block fb (blk_lt HFX.out)).trans HFX.out)
        clear hb_
        refine hK.out _ _ (c3_ HFX.out) (fun hHeld => ?_)
        clear hK K
        refine no_ (by simp only [Act.put, aS, aZ, aC, i64_w, i32_w]; rfl) ?_
        refine pu_ 14 197 (bs_ 18 32767) rfl rfl (by kernel_rfl) rfl (by intro w'; go_simp; with_reducible rfl) (by simp only [Act.put, aS, aZ, aC, i64_w, i32_w]; rfl) (fun _ _ _ h => h) ?_
        refine one_ (i := 15) (N := some 198) (bs_ 18 65535) rfl rfl (by kernel_rfl) (by decide) (fun K hK => ?_)
        refine value_ (w1 := ?_) (v := ?_) (by rfl) rfl ?_ ?_
        rotate_left 2
        · go_simp
          constructor
          · rfl
          rfl
        refine hK.out _ _ (c3a_ HFX.out) (fun hHeld => ?_)
        clear hK K
        refine no_ (by simp only [Act.put, aS, aZ, aC, i64_w, i32_w]; rfl) ?_
        refine last_ (i := 16) (N := some 199) (bs_ 18 131071) rfl rfl (by kernel_rfl) (by decide) (fun K hK => ?_)
        refine HA.out.append_ (by decide) [fateW f] (.tmp 183) (.tmp 198) rfl rfl rfl 1 rfl (by decide) rfl (n2 + 1) (by rw [← HRN2.out]) HBD2.out ?_
        intro gC cC wC HB_
        clear HA
        refine hK.out _ _ ?_
        clear hK K
        refine no_ (by simp only [Act.put, aS, aZ, aC, i64_w, i32_w]; rfl) ?_
        refine pu_ 17 8 (bs_ 18 262143) rfl rfl (by kernel_rfl) rfl (by intro w'; go_simp; with_reducible rfl) (by simp only [Act.put, aS, aZ, aC, i64_w, i32_w]; rfl) (fun _ _ _ h => h) ?_
        refine done_ (by kernel_rfl) ?_
        go_wp2
        go_roundw
        case rel => exact ⟨j + 1, n2 + 1, cC, _, hlt2, by go_num, rfl, by have h := HB_; rw [List.append_assoc, List.cons_append] at h; rw [HTK2.out, List.map_append]; exact h⟩
        case measure => simp [intOf]; omega
      have hjl : j = l.length := by omega
      subst hjl
      rw [List.take_length] at HA
      go_wp2
      go_roundw
      case rel => exact ⟨k + 1, n2, c2, A2, hlt, by go_num, rfl, by rw [HTK.out, List.flatMap_append, List.flatMap_singleton, ← List.append_assoc]; exact HA.out⟩
      case measure => simp [intOf]; omega
   have hkL : k = L.length := by omega
   subst hkL
   rw [List.take_length] at HA
   go_wp2_with fail
   (try rw [Exit.noGoto_ret])
   exact bodyPost_ret (v := .tuple #[.slice A n c, .bool true]) (by simp [results, Tryz.results30, go_sem]) rfl ⟨⟨_, rfl, HA.out.row⟩, HA.out.b0⟩
theorem empty_iff (s : ByteArray) : s.toList = [] ↔ s = ⟨#[]⟩ := by
 rw [toList_data]
 constructor
 · intro h
   apply ba_ext
   rw [h]
 intro h
 rw [h]
theorem counted_zero (q : S49) (h : 1 ≤ q.f0 ∧ q.f0 ≤ 7) : alikeB q (counted q) = zeroB q (q.f0 != 1) (decide (2 ≤ q.f0) && decide (q.f0 ≤ 5)) (decide (2 ≤ q.f0) && decide (q.f0 ≤ 5)) (q.f0 == 3) (q.f0 == 4) (q.f0 == 3) := by
 obtain ⟨f0, ⟨g0, g1⟩, f2, f3, f4, f5, f6⟩ := q
 have e3 := empty_iff f3
 have e4 := empty_iff f4
 simp only at h
 have hk : f0 = 1 ∨ f0 = 2 ∨ f0 = 3 ∨ f0 = 4 ∨ f0 = 5 ∨ f0 = 6 ∨ f0 = 7 := by omega
 rcases hk with rfl | rfl | rfl | rfl | rfl | rfl | rfl
 all_goals
  unfold alikeB counted zeroB
  rw [Bool.eq_iff_iff]
  simp [e3, e4, z37, and_assoc, and_comm, and_left_comm]
theorem event_zero (q : S49) : alikeB q z49 = (decide (q.f0 = 0) && zeroB q false false false false false false) := by
 obtain ⟨f0, ⟨g0, g1⟩, f2, f3, f4, f5, f6⟩ := q
 have e3 := empty_iff f3
 have e4 := empty_iff f4
 unfold alikeB zeroB z49
 rw [Bool.eq_iff_iff]
 simp [e3, e4, z37, and_assoc, and_comm, and_left_comm]
theorem jb_data (ws : List ByteArray) (c : UInt8) : (joinB ws ⟨#[c]⟩).data.toList = Lib.join (ws.map (·.data.toList)) [c] := rfl
theorem pre_sp (x y : ByteArray) : x ++ (⟨#[32]⟩ : ByteArray) ++ y = joinB [x, y] ⟨#[32]⟩ := by
 refine ba_ext ?_
 rw [ap_data, ap_data, jb_data]
 simp [Lib.join_cons, Lib.joinTail]
theorem label_sp (x : Int) : (⟨#[108, 97, 98, 101, 108, 32]⟩ : ByteArray) ++ utoaB x = labelW x := pre_sp ⟨#[108, 97, 98, 101, 108]⟩ (utoaB x)
theorem ses_sp (x : Int) : (⟨#[115, 101, 115, 115, 105, 111, 110, 32]⟩ : ByteArray) ++ itoaB x = sesW x := pre_sp ⟨#[115, 101, 115, 115, 105, 111, 110]⟩ (itoaB x)
theorem rline_c (A : Option Addr) (c : Nat) (ws : List ByteArray) (w : World) (hC : Kd.C Kd.string w A ws.length ws) (hc : ws.length ≤ c) (hn : ws.length ≤ 1099511627776) (hb : (joinB ws ⟨#[32]⟩).size ≤ 140737488355328) (s : ByteArray) (hs : joinB ws ⟨#[32]⟩ = s) :
 Calls Tryz.prog 28 #[.slice A ws.length c] w fun e w' => e = .returned (.string s) ∧ Below w.heap.size w w' := by
 subst hs
 refine (cloisterref26_line.calls (ws.length + 1) A c ws _ w hC hc (lk_of ws hn hb _ (Nat.le_refl _))).mono ?_
 rintro e w1 ⟨rfl, hd⟩
 exact ⟨rfl, hd.below⟩
theorem rline_lit (w : World) (ws : List ByteArray) (hne : ws ≠ []) (hn : ws.length ≤ 100) (hb : (joinB ws ⟨#[32]⟩).size ≤ 140737488355328) (s : ByteArray) (hs : joinB ws ⟨#[32]⟩ = s) (m : Nat) (hm : ws.length = m) :
 Calls Tryz.prog 28 #[.slice (some ⟨w.heap.size, 0, none⟩) m m] (w.alloc (.cells (ws.map Value.string).toArray 9)) fun e w' => e = .returned (.string s) ∧ Below w.heap.size w w' := by
 subst hm
 obtain ⟨A', c', e, h1, h2⟩ := Kd.R_reads (R_strings w ws w.heap.size (Nat.le_refl _) hne (by unfold maxLen; omega))
 injection e with e1 e2 e3
 subst e1
 refine (rline_c _ _ ws _ h2 (Nat.le_refl _) (by omega) hb s hs).mono ?_
 rintro e w1 ⟨rfl, hd⟩
 exact ⟨rfl, below_step (b1_ (Below.refl _ _) _) hd⟩
def catL (l : List ByteArray) : List Int := l.flatMap fun x => bytesOf x ++ [10]
theorem catL_take (l : List ByteArray) {k : Nat} {x : ByteArray} (h : l[k]? = some x) : catL (l.take (k + 1)) = catL (l.take k) ++ bytesOf x ++ [10] := by
 unfold catL
 rw [List.take_add_one, h, List.flatMap_append]
 simp
theorem catL_len (l : List ByteArray) {k : Nat} {x : ByteArray} (h : l[k]? = some x) : (catL (l.take (k + 1))).length = (catL (l.take k)).length + (x.size + 1) := by
 rw [catL_take l h]
 simp only [List.length_append, bytesOf_length, List.length_cons, List.length_nil]
 omega
theorem catL_le (l : List ByteArray) (k : Nat) : (catL (l.take k)).length ≤ (catL l).length := by
 conv => rhs; rw [← List.take_append_drop k l]
 unfold catL
 rw [List.flatMap_append, List.length_append]
 omega
theorem catL_join : ∀ (l : List ByteArray), l ≠ [] → catL l = bytesOf (joinB l ⟨#[10]⟩ ++ (⟨#[10]⟩ : ByteArray))
 | [], h => absurd rfl h
 | [x], _ => by
  have e : (joinB [x] ⟨#[10]⟩ ++ (⟨#[10]⟩ : ByteArray)).data.toList = x.data.toList ++ [10] := by rw [ap_data, jb_data]; simp [Lib.join_cons, Lib.joinTail]
  unfold bytesOf
  rw [e]
  simp [catL, bytesOf]
 | x :: y :: l, _ => by
  have ih := catL_join (y :: l) (by simp)
  have e : (joinB (x :: y :: l) ⟨#[10]⟩ ++ (⟨#[10]⟩ : ByteArray)).data.toList = (x.data.toList ++ [10]) ++ (joinB (y :: l) ⟨#[10]⟩ ++ (⟨#[10]⟩ : ByteArray)).data.toList := by
   rw [ap_data, ap_data, jb_data, jb_data, List.map_cons, Lib.join_cons, List.map_cons, Lib.join_cons]
   simp [Lib.joinTail]
  unfold bytesOf at ih ⊢
  rw [e, List.map_append, ← ih]
  simp [catL, bytesOf]
theorem strOf_bytes (s : ByteArray) : strOfNums (bytesOf s) = s := by
 rw [bytesOf_nums8, strOf_nums8]
theorem printS_cat (s : Stt) : printS s = if s.2.2.2.all mayB then (if (catL (linesP s)).length > 65536 ∨ (linesP s).length > 4096 then (⟨#[]⟩, 3) else (strOfNums (catL (linesP s)), 0)) else (⟨#[]⟩, 261) := by
 unfold printS
 split
 · by_cases h : linesP s = []
   · rw [h]
     rfl
   have hl : (linesP s).length ≠ 0 := fun e => h (List.length_eq_zero_iff.1 e)
   rw [if_neg hl, catL_join _ h, bytesOf_length, strOf_bytes]
 rfl
theorem catL_sum (l : List ByteArray) : (catL l).length ≤ (joinB l ⟨#[10]⟩).size + 1 := by
 by_cases h : l = []
 · subst h; exact Nat.zero_le _
 rw [catL_join l h, bytesOf_length, ByteArray.size_append]
 exact Nat.le_refl _
theorem say_calls (x : S52) (A8 : Option Addr) (c8 : Nat) (A11 : Option Addr) (c11 : Nat) (w : World) (hE : sc.Env w) (hval : Kd.C (Kd.int .u8) w A8 x.f2.f5.length x.f2.f5) (hL : (Kd.slice 66 k66).C w A11 x.f4.length x.f4) (hi : EvIn x) (hn : (evWords x).length ≤ 4294967296) :
 Calls Tryz.prog 30 #[.agg #[.int .i64 x.f0, .int .i64 x.f1, .int .i64 x.f2.f0, .int .i64 x.f2.f1.f0, .int .i64 x.f2.f1.f1, .int .i64 x.f2.f2, .string x.f2.f3, .string x.f2.f4, .slice A8 x.f2.f5.length c8, .int .i64 x.f2.f6, .int .i64 x.f3, .slice A11 x.f4.length c11]] w
  fun e w' => SayOut w w' (if mayB x then some (evWords x) else none) e := by
 obtain ⟨h1, h2, h3, h4, h5, h6, h7, h8, h9, hf⟩ := hi
 obtain ⟨f0, f1, ⟨qk, ⟨life, num⟩, qplace, key, to_, val, lim⟩, place, l⟩ := x
 simp only at *
 by_cases h0 : f0 = 1
 · subst h0
   have hm : mayB ⟨1, f1, ⟨qk, ⟨life, num⟩, qplace, key, to_, val, lim⟩, place, l⟩ = (decide (1 ≤ qk ∧ qk ≤ 7) && decide (place = 0) && decide (l.length = 0) && alikeB ⟨qk, ⟨life, num⟩, qplace, key, to_, val, lim⟩ (counted ⟨qk, ⟨life, num⟩, qplace, key, to_, val, lim⟩)) := rfl
   by_cases hb : place = 0 ∧ l.length = 0 ∧ 1 ≤ qk ∧ qk ≤ 7
   · obtain ⟨rfl, hl, hk⟩ := hb
     rw [hm, counted_zero _ hk]
     have := say_asks f1 qk life num qplace key to_ A8 c8 val lim A11 c11 w hE hk hval h1 h2 h3 h4 h5 h7 h8 h9 _ rfl
     rw [hl]
     simp only [hk, hl, and_self, decide_true, Bool.true_and]
     exact this
   rw [hm]
   have hf : (decide (1 ≤ qk ∧ qk ≤ 7) && decide (place = 0) && decide (l.length = 0)) = false := by
    rw [Bool.eq_false_iff]
    intro h
    simp only [Bool.and_eq_true, decide_eq_true_eq] at h
    exact hb ⟨h.1.2, h.2, h.1.1⟩
   rw [hf, Bool.false_and, if_neg Bool.false_ne_true]
   exact say_bad f1 qk life num qplace key to_ A8 c8 val lim place A11 c11 l w hb
 have hm : mayB ⟨f0, f1, ⟨qk, ⟨life, num⟩, qplace, key, to_, val, lim⟩, place, l⟩ = (decide (1 ≤ f0 ∧ f0 ≤ 5) && decide (f1 = 0) && alikeB ⟨qk, ⟨life, num⟩, qplace, key, to_, val, lim⟩ z49 && decide (place = 0 ∨ f0 = 3 ∨ f0 = 4)) := if_neg h0
 have he : evWords ⟨f0, f1, ⟨qk, ⟨life, num⟩, qplace, key, to_, val, lim⟩, place, l⟩ = evHead f0 place ++ l.flatMap strikeW := if_neg h0
 rw [he] at hn ⊢
 rw [hm, event_zero]
 by_cases hk : 2 ≤ f0 ∧ f0 ≤ 5
 · by_cases hs : f1 = 0 ∧ qk = 0 ∧ zeroB ⟨qk, ⟨life, num⟩, qplace, key, to_, val, lim⟩ false false false false false false = true
   · obtain ⟨rfl, rfl, hz⟩ := hs
     by_cases hp : place = 0 ∨ f0 = 3 ∨ f0 = 4
     · rw [if_pos (by simp only [hz, hp, Bool.and_true, decide_true, Bool.and_eq_true, decide_eq_true_eq]; omega)]
       exact say_ev f0 life num qplace key to_ A8 c8 val lim place A11 c11 l w hE hk hz hp h6 hL hf hn
     rw [if_neg (by simp [hp])]
     exact say_evp f0 life num qplace key to_ A8 c8 val lim place A11 c11 l w hE hk hz hp
   rw [if_neg (by intro h; simp only [Bool.and_eq_true, decide_eq_true_eq] at h; exact hs ⟨h.1.1.2, h.1.2.1, h.1.2.2⟩)]
   exact say_evz f0 f1 qk life num qplace key to_ A8 c8 val lim place A11 c11 l w hk hs
 rw [if_neg (by intro h; simp only [Bool.and_eq_true, decide_eq_true_eq] at h; omega)]
 exact say_evk f0 f1 qk life num qplace key to_ A8 c8 val lim place A11 c11 l w h0 hk
theorem rprint_calls (A0 : Option Addr) (c0 : Nat) (l0 : List Int) (A1 : Option Addr) (c1 : Nat) (l1 : List S70) (A2 : Option Addr) (c2 : Nat) (l2 : List Int) (A3 : Option Addr) (c3 : Nat) (evs : List S52) (w : World) (hE : sc.Env w)
 (h0 : Kd.C (Kd.int .u64) w A0 l0.length l0) (h1 : Kd.C k70 w A1 l1.length l1) (h2 : Kd.C (Kd.int .i64) w A2 l2.length l2) (h3 : Kd.C k52 w A3 evs.length evs) (ok : PrintOK (l0, l1, l2, evs)) :
 Calls Tryz.prog 15 #[.agg #[.slice A0 l0.length c0, .slice A1 l1.length c1, .slice A2 l2.length c2], .slice A3 evs.length c3] w fun e w' =>
  e = .returned (.tuple #[.string (printS (l0, l1, l2, evs)).1, .int .i64 (printS (l0, l1, l2, evs)).2]) ∧ Below w.heap.size w w' := by
 obtain ⟨W, hW⟩ : ∃ W, w.alloc (.cells #[.slice A0 l0.length c0, .slice A1 l1.length c1, .slice A2 l2.length c2] 26) = W := ⟨_, rfl⟩
 have hS0 : SInv w W w.heap.size 26 #[.slice A0 l0.length c0, .slice A1 l1.length c1, .slice A2 l2.length c2] (.slice none 0 0) [] := by
  rw [← hW]
  exact ⟨hE, wld.alloc_same _ _, b1_ (Below.refl _ _) _, Nat.le_refl _, Kd.R_nil _ _ _ _ _⟩
 have HS := am_ hS0
 have H0 := am_ h0
 have H1 := am_ h1
 have H2 := am_ h2
 have H3 := am_ h3
 have OK := am_ ok
 have hcnt := ok.cnt
 simp only [linesP, List.length_append, List.length_map] at hcnt
 have HCNT := am_ hcnt
 have m0 : l0.length ≤ 9223372036854775807 := h0.2.1
 have m1 : l1.length ≤ 9223372036854775807 := h1.2.1
 have m2 : l2.length ≤ 9223372036854775807 := h2.2.1
 have m3 : evs.length ≤ 9223372036854775807 := h3.2.1
 obtain ⟨CC, hCC⟩ : ∃ CC : Array Value, CC = #[.slice A0 l0.length c0, .slice A1 l1.length c1, .slice A2 l2.length c2] := ⟨_, rfl⟩
 have HC0 : Aside0 (CC[0]? = some (.slice A0 l0.length c0)) := am_ (by rw [hCC]; rfl)
 have HC1 : Aside0 (CC[1]? = some (.slice A1 l1.length c1)) := am_ (by rw [hCC]; rfl)
 have HC2 : Aside0 (CC[2]? = some (.slice A2 l2.length c2)) := am_ (by rw [hCC]; rfl)
 rw [← hCC] at HS
 clear hE h0 h1 h2 h3 ok hcnt hS0 hCC
 go_enter Tryz.func15, Tryz.ntmps15
 have k_c := HS.out.at 0 HC0.out
 go_wp2_with fail
 clear k_c hW
 go_loopw [6, 26] (fun vw i wr => ∃ (k n c : Nat) (A : Option Addr), k ≤ l0.length ∧ i = .int .i64 k ∧ vw = .slice A n c ∧ SInv w wr w.heap.size 26 CC (.slice A n c) ((l0.take k).map labelW)) (fun _ i _ => l0.length - (intOf i).toNat)
 case atStart => exact ⟨0, _, _, _, Nat.zero_le _, rfl, rfl, by simpa using HS.out⟩
 case round =>
  clear HS
  obtain ⟨k, n, c, A, hk, rfl, rfl, hS⟩ := hrel
  have HS := am_ hS
  clear hS
  by_cases hlt : k < l0.length
  · obtain ⟨x, hx⟩ : ∃ x, l0[k]? = some x := ⟨l0[k], List.getElem?_eq_getElem hlt⟩
    have hrn := (Kd.R_reads' HS.out.row).1
    have HRN := am_ hrn
    have hbd : n + 1 ≤ 4294967296 := by
     have h2 := HCNT.out
     rw [hrn]
     simp only [List.length_append, List.length_map, List.length_take]
     omega
    have HBD := am_ hbd
    have htk : l0.take (k + 1) = l0.take k ++ [x] := by rw [List.take_add_one, hx]; rfl
    have HTK := am_ htk
    clear hrn hbd htk
    have HXO := am_ (OK.out.lab x (List.mem_of_getElem? hx))
    obtain ⟨bE, oE, cs, hAE, hKE, hcE⟩ := Cat_ H0.out hx (by decide)
    subst hAE
    have hKE' : cs = [.int .u64 x] := hKE
    subst hKE'
    have q0 : wr.cell? ⟨bE, oE + k, none⟩ = some (.int .u64 x) := by
     have h := hcE 0 _ rfl
     rw [show (Kd.int .u64).sz = 1 from rfl, Nat.mul_one, Nat.add_zero] at h
     exact cell_lift HS.out.b0 h
    have hu := utoaB_size x HXO.out.2
    have q1 : ¬ 9223372036854775807 < 6 + (utoaB x).size := by omega
    clear hu hcE hKE hx
    go_wp2_with (first | (go_at_call 27; refine (utoa_c x HXO.out.1 HXO.out.2 _ HS.out.env).mono ?_; rintro e w2 ⟨rfl, hb2⟩; replace HS := am_ (HS.out.below hb2); clear hb2 q0) | (at_builtin; refine HS.out.appendL (by decide) [⟨#[108, 97, 98, 101, 108, 32]⟩ ++ utoaB x] _ _ rfl rfl rfl 1 rfl (by decide) rfl (n + 1) (by rw [← HRN.out]) HBD.out ?_; intro gB cB wB HB_; rw [label_sp] at HB_; clear HS))
    go_roundw
    case rel => exact ⟨k + 1, n + 1, _, _, hlt, by go_num, rfl, by rw [HTK.out, List.map_append]; (try rw [← List.append_assoc]); exact HB_⟩
    case measure => simp [intOf]; omega
  have hkn : k = l0.length := by omega
  subst hkn
  rw [List.take_length] at HS
  have k_0 := HS.out.at 1 HC1.out
  go_wp2_with fail
  clear k_0
  go_loopw [6, 40] (fun vw i wr => ∃ (k n c : Nat) (A : Option Addr), k ≤ l1.length ∧ i = .int .i64 k ∧ vw = .slice A n c ∧ SInv w wr w.heap.size 26 CC (.slice A n c) (l0.map labelW ++ (l1.take k).map accW)) (fun _ i _ => l1.length - (intOf i).toNat)
  case atStart => exact ⟨0, _, _, _, Nat.zero_le _, rfl, rfl, by simpa using HS.out⟩
  case round =>
   clear HS
   obtain ⟨k, n, c, A, hk, rfl, rfl, hS⟩ := hrel
   have HS := am_ hS
   clear hS
   by_cases hlt : k < l1.length
   · obtain ⟨x, hx⟩ : ∃ x, l1[k]? = some x := ⟨l1[k], List.getElem?_eq_getElem hlt⟩
     have hrn := (Kd.R_reads' HS.out.row).1
     have HRN := am_ hrn
     have hbd : n + 1 ≤ 4294967296 := by
      have h2 := HCNT.out
      rw [hrn]
      simp only [List.length_append, List.length_map, List.length_take]
      omega
     have HBD := am_ hbd
     have htk : l1.take (k + 1) = l1.take k ++ [x] := by rw [List.take_add_one, hx]; rfl
     have HTK := am_ htk
     clear hrn hbd htk
     have HXO := am_ (OK.out.acc x (List.mem_of_getElem? hx))
     obtain ⟨bE, oE, cs, hAE, hKE, hcE⟩ := Cat_ H1.out hx (by decide)
     subst hAE
     obtain rfl := k70_open hKE
     have q0 : wr.cell? ⟨bE, oE + k * 5, none⟩ = some (.int .i64 x.f0) := cell_lift HS.out.b0 (hcE 0 _ rfl)
     have q1 : wr.cell? ⟨bE, oE + k * 5 + 1, none⟩ = some (.int .i64 x.f1) := cell_lift HS.out.b0 (hcE 1 _ rfl)
     have q2 : wr.cell? ⟨bE, oE + k * 5 + 2, none⟩ = some (.int .i64 x.f2) := cell_lift HS.out.b0 (hcE 2 _ rfl)
     have q3 : wr.cell? ⟨bE, oE + k * 5 + 3, none⟩ = some (.int .i64 x.f3) := cell_lift HS.out.b0 (hcE 3 _ rfl)
     have q4 : wr.cell? ⟨bE, oE + k * 5 + 4, none⟩ = some (.int .i64 x.f4) := cell_lift HS.out.b0 (hcE 4 _ rfl)
     have z0 := itoaB_size x.f0 HXO.out.1
     have z1 := itoaB_size x.f1 HXO.out.2.1
     have z2 := itoaB_size x.f2 HXO.out.2.2.1
     have z3 := itoaB_size x.f3 HXO.out.2.2.2.1
     have z4 := itoaB_size x.f4 HXO.out.2.2.2.2
     have HJ := am_ (show (joinB [⟨#[97, 99, 99, 111, 117, 110, 116]⟩, itoaB x.f0, itoaB x.f1, itoaB x.f2, itoaB x.f3, itoaB x.f4] ⟨#[32]⟩).size ≤ 140737488355328 from Nat.le_trans (joinB_le _ _) (by simp only [List.map_cons, List.map_nil, List.sum_cons, List.sum_nil, List.length_cons, List.length_nil]; show (7 : Nat) + ((itoaB x.f0).size + ((itoaB x.f1).size + ((itoaB x.f2).size + ((itoaB x.f3).size + ((itoaB x.f4).size + 0))))) + (0 + 1 + 1 + 1 + 1 + 1 + 1) * 1 ≤ _; omega))
     clear hcE hKE hx z0 z1 z2 z3 z4
     go_wp2_with fail
     have HA := am_ (wld.alloc_same wr (.cells #[.int .i64 x.f0, .int .i64 x.f1, .int .i64 x.f2, .int .i64 x.f3, .int .i64 x.f4] 70))
     replace HS := am_ (HS.out.alloc (.cells #[.int .i64 x.f0, .int .i64 x.f1, .int .i64 x.f2, .int .i64 x.f3, .int .i64 x.f4] 70))
     clear q0 q1 q2 q3 q4
     generalize wr.alloc _ = wb at HS HA ⊢
     generalize wr.heap.size = ab at HA ⊢
     refine start_ (n := 21) (S := fun w' => w'.cell? ⟨ab, 0, none⟩ = some (.int .i64 x.f0) ∧ w'.cell? ⟨ab, 1, none⟩ = some (.int .i64 x.f1) ∧ w'.cell? ⟨ab, 2, none⟩ = some (.int .i64 x.f2) ∧ w'.cell? ⟨ab, 3, none⟩ = some (.int .i64 x.f3) ∧ w'.cell? ⟨ab, 4, none⟩ = some (.int .i64 x.f4)) (ds := [19]) #[false, false, false, false, false, false, false, false, false, false, false, false, false, false, false, false, false, false, false, false, false] (by kernel_rfl) rfl rfl (c5_ HA.out) (fun hHeld => ?_)
     replace HS := am_ HS.out.drew; replace HA := am_ (show wb.drew.heap[ab]? = _ from HA.out); generalize wb.drew = w1 at HS HA hHeld ⊢
     refine pu_ 0 44 (bs_ 21 1) rfl rfl (by kernel_rfl) rfl (by intro w'; go_simp; with_reducible rfl) (by simp only [Act.put, aS, aZ, aC, i64_w, i32_w]; rfl) (fun _ _ _ h => h) ?_
     refine pu_ 1 45 (bs_ 21 3) rfl rfl (by kernel_rfl) rfl (by intro w'; go_simp; with_reducible rfl) (by simp only [Act.put, aS, aZ, aC, i64_w, i32_w]; rfl) (fun _ _ _ h => h) ?_
     refine pu_ 4 48 (bs_ 21 19) rfl rfl (by kernel_rfl) rfl (by intro w'; go_simp; with_reducible rfl) (by simp only [Act.put, aS, aZ, aC, i64_w, i32_w]; rfl) (fun _ _ _ h => h) ?_
     refine pu_ 7 51 (bs_ 21 147) rfl rfl (by kernel_rfl) rfl (by intro w'; go_simp; with_reducible rfl) (by simp only [Act.put, aS, aZ, aC, i64_w, i32_w]; rfl) (fun _ _ _ h => h) ?_
     refine pu_ 10 54 (bs_ 21 1171) rfl rfl (by kernel_rfl) rfl (by intro w'; go_simp; with_reducible rfl) (by simp only [Act.put, aS, aZ, aC, i64_w, i32_w]; rfl) (fun _ _ _ h => h) ?_
     refine pu_ 13 57 (bs_ 21 9363) rfl rfl (by kernel_rfl) rfl (by intro w'; go_simp; with_reducible rfl) (by simp only [Act.put, aS, aZ, aC, i64_w, i32_w]; rfl) (fun _ _ _ h => h) ?_
     refine ta_ 2 46 (bs_ 21 9367) rfl rfl (by kernel_rfl) rfl (by rintro w' ⟨s0, s1, s2, s3, s4⟩; go_simp; with_reducible rfl) hHeld (by simp only [Act.put, aS, aZ, aC, i64_w, i32_w]; rfl) (fun _ _ _ h => h) ?_
     refine ta_ 5 49 (bs_ 21 9399) rfl rfl (by kernel_rfl) rfl (by rintro w' ⟨s0, s1, s2, s3, s4⟩; go_simp; with_reducible rfl) hHeld (by simp only [Act.put, aS, aZ, aC, i64_w, i32_w]; rfl) (fun _ _ _ h => h) ?_
     refine ta_ 8 52 (bs_ 21 9655) rfl rfl (by kernel_rfl) rfl (by rintro w' ⟨s0, s1, s2, s3, s4⟩; go_simp; with_reducible rfl) hHeld (by simp only [Act.put, aS, aZ, aC, i64_w, i32_w]; rfl) (fun _ _ _ h => h) ?_
     refine ta_ 11 55 (bs_ 21 11703) rfl rfl (by kernel_rfl) rfl (by rintro w' ⟨s0, s1, s2, s3, s4⟩; go_simp; with_reducible rfl) hHeld (by simp only [Act.put, aS, aZ, aC, i64_w, i32_w]; rfl) (fun _ _ _ h => h) ?_
     refine ta_ 14 58 (bs_ 21 28087) rfl rfl (by kernel_rfl) rfl (by rintro w' ⟨s0, s1, s2, s3, s4⟩; go_simp; with_reducible rfl) hHeld (by simp only [Act.put, aS, aZ, aC, i64_w, i32_w]; rfl) (fun _ _ _ h => h) ?_
     refine one_ (i := 3) (N := some 47) (bs_ 21 28095) rfl rfl (by kernel_rfl) (by decide) (fun K hK => ?_)
     refine goes_ Tryz.func29 (by kernel_rfl) rfl #[.int .i64 x.f0] (by rfl) rfl rfl (by (try simp only [aT, aK, aL]); first | done | rfl) ?_
     refine (itoaB_c x.f0 HXO.out.1 _ HS.out.env).mono ?_
     rintro e wN1 ⟨rfl, hb_⟩
     refine ⟨_, rfl, ?_⟩
     replace HS := am_ (HS.out.below hb_)
     replace HA := am_ ((hb_.block ab (blk_lt HA.out)).trans HA.out)
     clear hb_
     refine hK.out _ _ (c5_ HA.out) (fun hHeld => ?_)
     clear hK K
     refine no_ (by simp only [Act.put, aS, aZ, aC, i64_w, i32_w]; rfl) ?_
     refine one_ (i := 6) (N := some 50) (bs_ 21 28159) rfl rfl (by kernel_rfl) (by decide) (fun K hK => ?_)
     refine goes_ Tryz.func29 (by kernel_rfl) rfl #[.int .i64 x.f1] (by rfl) rfl rfl (by (try simp only [aT, aK, aL]); first | done | rfl) ?_
     refine (itoaB_c x.f1 HXO.out.2.1 _ HS.out.env).mono ?_
     rintro e wN2 ⟨rfl, hb_⟩
     refine ⟨_, rfl, ?_⟩
     replace HS := am_ (HS.out.below hb_)
     replace HA := am_ ((hb_.block ab (blk_lt HA.out)).trans HA.out)
     clear hb_
     refine hK.out _ _ (c5_ HA.out) (fun hHeld => ?_)
     clear hK K
     refine no_ (by simp only [Act.put, aS, aZ, aC, i64_w, i32_w]; rfl) ?_
     refine one_ (i := 9) (N := some 53) (bs_ 21 28671) rfl rfl (by kernel_rfl) (by decide) (fun K hK => ?_)
     refine goes_ Tryz.func29 (by kernel_rfl) rfl #[.int .i64 x.f2] (by rfl) rfl rfl (by (try simp only [aT, aK, aL]); first | done | rfl) ?_
     refine (itoaB_c x.f2 HXO.out.2.2.1 _ HS.out.env).mono ?_
     rintro e wN3 ⟨rfl, hb_⟩
     refine ⟨_, rfl, ?_⟩
     replace HS := am_ (HS.out.below hb_)
     replace HA := am_ ((hb_.block ab (blk_lt HA.out)).trans HA.out)
     clear hb_
     refine hK.out _ _ (c5_ HA.out) (fun hHeld => ?_)
     clear hK K
     refine no_ (by simp only [Act.put, aS, aZ, aC, i64_w, i32_w]; rfl) ?_
     refine one_ (i := 12) (N := some 56) (bs_ 21 32767) rfl rfl (by kernel_rfl) (by decide) (fun K hK => ?_)
     refine goes_ Tryz.func29 (by kernel_rfl) rfl #[.int .i64 x.f3] (by rfl) rfl rfl (by (try simp only [aT, aK, aL]); first | done | rfl) ?_
     refine (itoaB_c x.f3 HXO.out.2.2.2.1 _ HS.out.env).mono ?_
     rintro e wN4 ⟨rfl, hb_⟩
     refine ⟨_, rfl, ?_⟩
     replace HS := am_ (HS.out.below hb_)
     replace HA := am_ ((hb_.block ab (blk_lt HA.out)).trans HA.out)
     clear hb_
     refine hK.out _ _ (c5_ HA.out) (fun hHeld => ?_)
     clear hK K
     refine no_ (by simp only [Act.put, aS, aZ, aC, i64_w, i32_w]; rfl) ?_
     refine one_ (i := 15) (N := some 59) (bs_ 21 65535) rfl rfl (by kernel_rfl) (by decide) (fun K hK => ?_)
     refine goes_ Tryz.func29 (by kernel_rfl) rfl #[.int .i64 x.f4] (by rfl) rfl rfl (by (try simp only [aT, aK, aL]); first | done | rfl) ?_
     refine (itoaB_c x.f4 HXO.out.2.2.2.2 _ HS.out.env).mono ?_
     rintro e wN5 ⟨rfl, hb_⟩
     refine ⟨_, rfl, ?_⟩
     replace HS := am_ (HS.out.below hb_)
     replace HA := am_ ((hb_.block ab (blk_lt HA.out)).trans HA.out)
     clear hb_
     refine hK.out _ _ (c5_ HA.out) (fun hHeld => ?_)
     clear hK K
     refine no_ (by simp only [Act.put, aS, aZ, aC, i64_w, i32_w]; rfl) ?_
     refine one_ (i := 16) (N := some 60) (bs_ 21 131071) rfl rfl (by kernel_rfl) (by decide) (fun K hK => ?_)
     refine value_ (w1 := ?_) (v := ?_) (by rfl) rfl ?_ ?_
     rotate_left 2
     · go_simp
       constructor
       · rfl
       rfl
     refine hK.out _ _ (c5a_ HA.out) (fun hHeld => ?_)
     clear hK K
     refine no_ (by simp only [Act.put, aS, aZ, aC, i64_w, i32_w]; rfl) ?_
     refine one_ (i := 17) (N := some 61) (bs_ 21 262143) rfl rfl (by kernel_rfl) (by decide) (fun K hK => ?_)
     refine goes_ Tryz.func28 (by kernel_rfl) rfl #[.slice (some ⟨wN5.heap.size, 0, none⟩) 6 6] (by rfl) rfl rfl (by (try simp only [aT, aK, aL]); first | done | rfl) ?_
     refine (rline_lit wN5 [⟨#[97, 99, 99, 111, 117, 110, 116]⟩, itoaB x.f0, itoaB x.f1, itoaB x.f2, itoaB x.f3, itoaB x.f4] (by simp) (by simp) HJ.out (accW x) rfl 6 rfl).mono ?_
     rintro e wN6 ⟨rfl, hb_⟩
     refine ⟨_, rfl, ?_⟩
     replace HS := am_ (HS.out.below hb_)
     replace HA := am_ ((hb_.block ab (blk_lt HA.out)).trans HA.out)
     clear hb_
     refine hK.out _ _ (c5_ HA.out) (fun hHeld => ?_)
     clear hK K
     refine no_ (by simp only [Act.put, aS, aZ, aC, i64_w, i32_w]; rfl) ?_
     refine one_ (i := 18) (N := some 62) (bs_ 21 524287) rfl rfl (by kernel_rfl) (by decide) (fun K hK => ?_)
     refine value_ (w1 := ?_) (v := ?_) (by rfl) rfl ?_ ?_
     rotate_left 2
     · go_simp
       constructor
       · rfl
       rfl
     refine hK.out _ _ (c5a_ HA.out) (fun hHeld => ?_)
     clear hK K
     refine no_ (by simp only [Act.put, aS, aZ, aC, i64_w, i32_w]; rfl) ?_
     refine last_ (i := 19) (N := some 63) (bs_ 21 1048575) rfl rfl (by kernel_rfl) (by decide) (fun K hK => ?_)
     refine HS.out.append_ (by decide) [accW x] (.tmp 44) (.tmp 62) rfl rfl rfl 1 rfl (by decide) rfl (n + 1) (by rw [← HRN.out]) HBD.out ?_
     intro gC cC wC HB_
     clear HS
     refine hK.out _ _ ?_
     clear hK K
     refine no_ (by simp only [Act.put, aS, aZ, aC, i64_w, i32_w]; rfl) ?_
     refine pu_ 20 6 (bs_ 21 2097151) rfl rfl (by kernel_rfl) rfl (by intro w'; go_simp; with_reducible rfl) (by simp only [Act.put, aS, aZ, aC, i64_w, i32_w]; rfl) (fun _ _ _ h => h) ?_
     refine done_ (by kernel_rfl) ?_
     go_wp2_with fail
     go_roundw
     case rel => exact ⟨k + 1, n + 1, _, _, hlt, by go_num, rfl, by rw [HTK.out, List.map_append]; (try rw [← List.append_assoc]); exact HB_⟩
     case measure => simp [intOf]; omega
   have hkn : k = l1.length := by omega
   subst hkn
   rw [List.take_length] at HS
   have k_0 := HS.out.at 2 HC2.out
   go_wp2_with fail
   clear k_0
   go_loopw [6, 68] (fun vw i wr => ∃ (k n c : Nat) (A : Option Addr), k ≤ l2.length ∧ i = .int .i64 k ∧ vw = .slice A n c ∧ SInv w wr w.heap.size 26 CC (.slice A n c) ((l0.map labelW ++ l1.map accW) ++ (l2.take k).map sesW)) (fun _ i _ => l2.length - (intOf i).toNat)
   case atStart => exact ⟨0, _, _, _, Nat.zero_le _, rfl, rfl, by simpa using HS.out⟩
   case round =>
    clear HS
    obtain ⟨k, n, c, A, hk, rfl, rfl, hS⟩ := hrel
    have HS := am_ hS
    clear hS
    by_cases hlt : k < l2.length
    · obtain ⟨x, hx⟩ : ∃ x, l2[k]? = some x := ⟨l2[k], List.getElem?_eq_getElem hlt⟩
      have hrn := (Kd.R_reads' HS.out.row).1
      have HRN := am_ hrn
      have hbd : n + 1 ≤ 4294967296 := by
       have h2 := HCNT.out
       rw [hrn]
       simp only [List.length_append, List.length_map, List.length_take]
       omega
      have HBD := am_ hbd
      have htk : l2.take (k + 1) = l2.take k ++ [x] := by rw [List.take_add_one, hx]; rfl
      have HTK := am_ htk
      clear hrn hbd htk
      have HXO := am_ (OK.out.ses x (List.mem_of_getElem? hx))
      obtain ⟨bE, oE, cs, hAE, hKE, hcE⟩ := Cat_ H2.out hx (by decide)
      subst hAE
      have hKE' : cs = [.int .i64 x] := hKE
      subst hKE'
      have q0 : wr.cell? ⟨bE, oE + k, none⟩ = some (.int .i64 x) := by
       have h := hcE 0 _ rfl
       rw [show (Kd.int .i64).sz = 1 from rfl, Nat.mul_one, Nat.add_zero] at h
       exact cell_lift HS.out.b0 h
      have hu := itoaB_size x HXO.out
      have q1 : ¬ 9223372036854775807 < 8 + (itoaB x).size := by omega
      clear hu hcE hKE hx
      go_wp2_with (first | (go_at_call 29; refine (itoaB_c x HXO.out _ HS.out.env).mono ?_; rintro e w2 ⟨rfl, hb2⟩; replace HS := am_ (HS.out.below hb2); clear hb2 q0) | (at_builtin; refine HS.out.appendL (by decide) [⟨#[115, 101, 115, 115, 105, 111, 110, 32]⟩ ++ itoaB x] _ _ rfl rfl rfl 1 rfl (by decide) rfl (n + 1) (by rw [← HRN.out]) HBD.out ?_; intro gB cB wB HB_; rw [ses_sp] at HB_; clear HS))
      go_roundw
      case rel => exact ⟨k + 1, n + 1, _, _, hlt, by go_num, rfl, by rw [HTK.out, List.map_append]; (try rw [← List.append_assoc]); exact HB_⟩
      case measure => simp [intOf]; omega
    have hkn : k = l2.length := by omega
    subst hkn
    rw [List.take_length] at HS
    go_wp2_with fail
    go_loopw [6, 81] (fun vw i wr => ∃ (k n c : Nat) (A : Option Addr), k ≤ evs.length ∧ i = .int .i64 k ∧ vw = .slice A n c ∧ (∀ y ∈ evs.take k, mayB y = true) ∧ SInv w wr w.heap.size 26 CC (.slice A n c) ((l0.map labelW ++ l1.map accW ++ l2.map sesW) ++ (evs.take k).map evW)) (fun _ i _ => evs.length - (intOf i).toNat)
    case atStart => exact ⟨0, _, _, _, Nat.zero_le _, rfl, rfl, (by intro y hy; simp at hy), by simpa using HS.out⟩
    case round =>
     clear HS
     obtain ⟨k, n, c, A, hk, rfl, rfl, hmay, hS⟩ := hrel
     have HMAY := am_ hmay
     clear hmay
     have HS := am_ hS
     clear hS
     by_cases hlt : k < evs.length
     · obtain ⟨x, hx⟩ : ∃ x, evs[k]? = some x := ⟨evs[k], List.getElem?_eq_getElem hlt⟩
       have hrn := (Kd.R_reads' HS.out.row).1
       have HRN := am_ hrn
       have hbd : n + 1 ≤ 4294967296 := by
        have h2 := HCNT.out
        rw [hrn]
        simp only [List.length_append, List.length_map, List.length_take]
        omega
       have HBD := am_ hbd
       have htk : evs.take (k + 1) = evs.take k ++ [x] := by rw [List.take_add_one, hx]; rfl
       have HTK := am_ htk
       clear hrn hbd htk
       have HXO := am_ (OK.out.ev x (List.mem_of_getElem? hx))
       have HXM := am_ (List.mem_of_getElem? hx)
       obtain ⟨bE, oE, cs, hAE, hKE, hcE⟩ := Cat_ H3.out hx (by decide)
       subst hAE
       obtain ⟨A8, c8, A11, c11, rfl, hc8, hval, hc11, hstr⟩ := k52_open hKE
       have q0 : wr.cell? ⟨bE, oE + k * 12, none⟩ = some (.int .i64 x.f0) := cell_lift HS.out.b0 (hcE 0 _ rfl)
       have q1 : wr.cell? ⟨bE, oE + k * 12 + 1, none⟩ = some (.int .i64 x.f1) := cell_lift HS.out.b0 (hcE 1 _ rfl)
       have q2 : wr.cell? ⟨bE, oE + k * 12 + 2, none⟩ = some (.int .i64 x.f2.f0) := cell_lift HS.out.b0 (hcE 2 _ rfl)
       have q3 : wr.cell? ⟨bE, oE + k * 12 + 3, none⟩ = some (.int .i64 x.f2.f1.f0) := cell_lift HS.out.b0 (hcE 3 _ rfl)
       have q4 : wr.cell? ⟨bE, oE + k * 12 + 4, none⟩ = some (.int .i64 x.f2.f1.f1) := cell_lift HS.out.b0 (hcE 4 _ rfl)
       have q5 : wr.cell? ⟨bE, oE + k * 12 + 5, none⟩ = some (.int .i64 x.f2.f2) := cell_lift HS.out.b0 (hcE 5 _ rfl)
       have q6 : wr.cell? ⟨bE, oE + k * 12 + 6, none⟩ = some (.string x.f2.f3) := cell_lift HS.out.b0 (hcE 6 _ rfl)
       have q7 : wr.cell? ⟨bE, oE + k * 12 + 7, none⟩ = some (.string x.f2.f4) := cell_lift HS.out.b0 (hcE 7 _ rfl)
       have q8 : wr.cell? ⟨bE, oE + k * 12 + 8, none⟩ = some (.slice A8 x.f2.f5.length c8) := cell_lift HS.out.b0 (hcE 8 _ rfl)
       have q9 : wr.cell? ⟨bE, oE + k * 12 + 9, none⟩ = some (.int .i64 x.f2.f6) := cell_lift HS.out.b0 (hcE 9 _ rfl)
       have q10 : wr.cell? ⟨bE, oE + k * 12 + 10, none⟩ = some (.int .i64 x.f3) := cell_lift HS.out.b0 (hcE 10 _ rfl)
       have q11 : wr.cell? ⟨bE, oE + k * 12 + 11, none⟩ = some (.slice A11 x.f4.length c11) := cell_lift HS.out.b0 (hcE 11 _ rfl)
       have HSAY := am_ (fun (W1 : World) (hb : Below w.heap.size w W1) (hE1 : sc.Env W1) => say_calls x A8 c8 A11 c11 W1 hE1 (Kd.C_below hval hb) (Kd.C_below hstr hb) HXO.out.1 HXO.out.2.1)
       clear hcE hKE hx hval hstr hc8 hc11
       go_wp2_with fail
       refine (HSAY.out _ (HS.out.alloc _).b0 (HS.out.alloc _).env).mono ?_
       clear HSAY
       rintro e w2 ⟨he, hb2⟩
       replace HS := am_ ((HS.out.alloc _).below hb2)
       cases hm : mayB x with
       | false =>
        rw [hm, if_neg Bool.false_ne_true] at he
        subst he
        clear hb2
        have HM := am_ hm
        clear hm
        go_wp2_with fail
        go_ret2
        have e1 : printS (l0, l1, l2, evs) = (⟨#[]⟩, 261) := by
         unfold printS
         rw [if_neg]
         intro h
         have := List.all_eq_true.1 h x HXM.out
         rw [HM.out] at this
         cases this
        rw [e1]
        exact ⟨rfl, HS.out.b0⟩
       | true =>
        rw [hm, if_pos rfl] at he
        obtain ⟨v, rfl, hv⟩ := he
        obtain ⟨Av, cv, rfl, hcv, hCv⟩ := Kd.R_reads hv
        have HL1 := am_ (rline_c Av cv (evWords x) w2 hCv hcv (by have := HXO.out.2.1; omega) HXO.out.2.2 (evW x) rfl)
        have HM := am_ hm
        clear hm hv hCv hcv hb2 q0 q1 q2 q3 q4 q5 q6 q7 q8 q9 q10 q11
        go_wp2_with (first | (go_at_call 28; refine HL1.out.mono ?_; rintro e w3 ⟨rfl, hb3⟩; replace HS := am_ (HS.out.below hb3); clear hb3 HL1) | (at_builtin; refine HS.out.appendL (by decide) [evW x] _ _ rfl rfl rfl 1 rfl (by decide) rfl (n + 1) (by rw [← HRN.out]) HBD.out ?_; intro gB cB wB HB_; clear HS))
        go_roundw
        case rel => exact ⟨k + 1, n + 1, _, _, hlt, by go_num, rfl, (by intro y hy; rw [HTK.out] at hy; rcases List.mem_append.1 hy with hy | hy; exact HMAY.out y hy; rw [List.mem_singleton.1 hy]; exact HM.out), by rw [HTK.out, List.map_append, ← List.append_assoc]; exact HB_⟩
        case measure => simp [intOf]; omega
     have hkn : k = evs.length := by omega
     subst hkn
     rw [List.take_length] at HS
     have HALL := am_ (show evs.all mayB = true from List.all_eq_true.2 (fun x hx => HMAY.out x (by rw [List.take_length]; exact hx)))
     obtain ⟨LN, hLN⟩ : ∃ LN, linesP (l0, l1, l2, evs) = LN := ⟨_, rfl⟩
     have hpl : SInv w wr w.heap.size 26 CC (.slice A n c) (linesP (l0, l1, l2, evs)) := HS.out
     have e1 : printS (l0, l1, l2, evs) = (if (catL LN).length > 65536 ∨ LN.length > 4096 then (⟨#[]⟩, 3) else (strOfNums (catL LN), 0)) := by
      rw [printS_cat, if_pos HALL.out, hLN]
     have hsum := OK.out.sum
     have hcn := OK.out.cnt
     rw [hLN] at hpl hsum hcn
     obtain rfl := (Kd.R_reads' hpl.row).1
     have hcs := catL_sum LN
     have HSUM := am_ (show (catL LN).length ≤ 140737488355329 by omega)
     have HE1 := am_ e1
     replace HS := am_ hpl
     have HCN := am_ hcn
     clear hLN e1 HALL HCNT OK H0 H1 H2 H3 hpl hsum hcn hcs HMAY
     have hln : LN.length ≤ 9223372036854775807 := by have := HCN.out; omega
     go_wp2_with fail
     go_loopw [17, 100] (fun sz i wl => ∃ k : Nat, k ≤ LN.length ∧ i = .int .i64 k ∧ sz = .int .i64 ((catL (LN.take k)).length : Nat) ∧ SInv w wl w.heap.size 26 CC (.slice A LN.length c) LN) (fun _ i _ => LN.length - (intOf i).toNat)
     case atStart => exact ⟨0, Nat.zero_le _, rfl, rfl, HS.out⟩
     case round =>
      clear HS
      obtain ⟨k, hk, rfl, rfl, hS⟩ := hrel
      have HS := am_ hS
      clear hS
      by_cases hlt : k < LN.length
      · obtain ⟨x, hx⟩ : ∃ x, LN[k]? = some x := ⟨LN[k], List.getElem?_eq_getElem hlt⟩
        obtain ⟨_, _, hCr⟩ := Kd.R_reads' HS.out.row
        obtain ⟨bE, oE, cs, hAE, hKE, hcE⟩ := Cat_ hCr hx (by decide)
        subst hAE
        have hKE' : cs = [.string x] := hKE
        subst hKE'
        have q0 : wr.cell? ⟨bE, oE + k, none⟩ = some (.string x) := by
         have h := hcE 0 _ rfl
         rw [show (Kd.string).sz = 1 from rfl, Nat.mul_one, Nat.add_zero] at h
         exact h
        have hle := catL_le LN (k + 1)
        have hq := catL_len LN hx
        have HQ := am_ hq
        have hb1 : (catL (LN.take k)).length + (x.size + 1) ≤ 140737488355329 := by have := HSUM.out; omega
        obtain ⟨sk, hsk⟩ : ∃ sk, sk = (catL (LN.take k)).length := ⟨_, rfl⟩
        rw [← hsk] at hb1 HQ ⊢
        clear hle hq hcE hKE hx hCr hsk
        go_wp2_with fail
        go_roundw
        case rel => exact ⟨k + 1, hlt, by go_num, by rw [HQ.out]; go_num, HS.out⟩
        case measure => simp [intOf]; omega
      have hkn : k = LN.length := by omega
      subst hkn
      rw [List.take_length]
      obtain ⟨tot, htot⟩ : ∃ tot, tot = (catL LN).length := ⟨_, rfl⟩
      rw [← htot] at HSUM HE1 ⊢
      have HTOT := am_ htot
      have hsum := HSUM.out
      clear htot
      by_cases h1 : tot > 65536
      · have HE4 := am_ (HE1.out.trans (if_pos (.inl h1)))
        clear HE1
        have g1 : decide ((65536 : Int) < (tot : Int)) = true := by simp; omega
        go_wp2_with fail
        go_ret2
        rw [HE4.out]
        exact ⟨rfl, HS.out.b0⟩
      by_cases h2 : LN.length > 4096
      · have HE4 := am_ (HE1.out.trans (if_pos (.inr h2)))
        clear HE1
        have g1 : decide ((65536 : Int) < (tot : Int)) = false := by simp; omega
        have g2 : decide ((4096 : Int) < (LN.length : Int)) = true := by simp; omega
        go_wp2_with fail
        go_ret2
        rw [HE4.out]
        exact ⟨rfl, HS.out.b0⟩
      have HE4 := am_ (HE1.out.trans (if_neg (by omega)))
      clear HE1
      have g1 : decide ((65536 : Int) < (tot : Int)) = false := by simp; omega
      have g2 : decide ((4096 : Int) < (LN.length : Int)) = false := by simp; omega
      go_upto_region 33 with (fail)
      clear g1 g2
      obtain ⟨i0, hi, hz0, hz1, hz2⟩ := info_parts info5
      obtain ⟨wM, hm, ho, hg⟩ := run_makeSlice_owned (P := Tryz.prog) wr w.heap.size 38 5 i0 (.int .u8 0) 1 Tryz.underlying38 hi hz0 hz1 .i64 .i64 tot (by omega) (by rw [hz2]; omega) (by unfold maxLen; omega) HS.out.b0.size
      have HOUT := am_ (show Kd.R (Kd.int .u8) 5 wM w.heap.size (fun _ => True) (.slice (some ⟨wr.heap.size, 0, none⟩) 0 tot) ([] : List Int) from Kd.R_of_own (enc := fun x : Int => Value.int .u8 x) (h1 := fun _ => rfl) (ok := fun _ => True) ho (fun _ _ => trivial))
      have HB := am_ (HS.out.b0.grown hg HS.out.b0.size (fun k e => by cases e))
      have HR := am_ (Kd.R_grown HS.out.row hg (fun k _ e => by cases e))
      clear ho hg hi hz0 hz1 hz2 HS
      go_wp2_with fail
      clear hm
      go_loopw [20, 121] (fun o i wl => ∃ (k n c1 : Nat) (B : Option Addr), k ≤ LN.length ∧ i = .int .i64 k ∧ o = .slice B n c1 ∧ Kd.R (Kd.int .u8) 5 wl w.heap.size (fun _ => True) (.slice B n c1) (catL (LN.take k)) ∧ Kd.R Kd.string 9 wl w.heap.size TT_ (.slice A LN.length c) LN ∧ Below w.heap.size w wl) (fun _ i _ => LN.length - (intOf i).toNat)
      case atStart => exact ⟨0, _, _, _, Nat.zero_le _, rfl, rfl, HOUT.out, HR.out, HB.out⟩
      case round =>
       clear HOUT HB HR
       obtain ⟨k, n, c1, B, hk, rfl, rfl, ho, hr, hb⟩ := hrel
       have HO := am_ ho
       have HR := am_ hr
       have HB := am_ hb
       clear ho hr hb
       by_cases hlt : k < LN.length
       · obtain ⟨x, hx⟩ : ∃ x, LN[k]? = some x := ⟨LN[k], List.getElem?_eq_getElem hlt⟩
         obtain ⟨_, _, hCr⟩ := Kd.R_reads' HR.out
         obtain ⟨bE, oE, cs, hAE, hKE, hcE⟩ := Cat_ hCr hx (by decide)
         subst hAE
         have hKE' : cs = [.string x] := hKE
         subst hKE'
         have q0 : wr.cell? ⟨bE, oE + k, none⟩ = some (.string x) := by
          have h := hcE 0 _ rfl
          rw [show (Kd.string).sz = 1 from rfl, Nat.mul_one, Nat.add_zero] at h
          exact h
         have hle := catL_le LN (k + 1)
         have hq := catL_len LN hx
         have HCT := am_ (catL_take LN hx)
         have hb1 : (catL (LN.take k)).length + (x.size + 1) ≤ 65536 := by have := HTOT.out; omega
         have HB1 := am_ hb1
         obtain ⟨xs, hxs⟩ : ∃ xs, xs = catL (LN.take k) := ⟨_, rfl⟩
         rw [← hxs] at HO HCT HB1
         clear hle hq hcE hKE hx hCr hb1 hxs
         go_wp2_with (first | (at_builtin; refine print_append_str (w0 := w) w.heap.size rfl (.tmp 125) (.tmp 126) 38 9 5 rfl Tryz.underlying38 Tryz.underlying9 info5 (.slice B n c1) xs x rfl rfl ?aO ?aB ?aS ?aL ?_; (case aB => exact HB.out); (case aO => exact Kd.own_of_R HO.out); (case aS => exact HB.out.size); (case aL => have := HB1.out; omega); intro v1 w1 ho1 hb1 hg1; clear q0; replace HR := am_ (Kd.R_over HR.out HO.out (by decide) hg1); replace HO := am_ (Kd.R_of_own (enc := fun x : Int => Value.int .u8 x) (h1 := fun _ => rfl) (ok := fun _ => True) ho1 (fun _ _ => trivial)); change Aside0 (Kd.R (Kd.int .u8) 5 w1 w.heap.size (fun _ => True) v1 (xs ++ bytesOf x)) at HO; replace HB := am_ hb1; clear ho1 hg1 hb1) | (at_builtin; refine Kd.R_append (Kd.int .u8) (w0 := w) w.heap.size rfl (.tmp 127) (.tmp 128) 38 5 (.int .u8 0) 1 rfl Tryz.underlying38 info5 rfl (by decide) (by omega) v1 (xs ++ bytesOf x) 10 [.int .u8 10] (fun _ => True) (fun _ => False) rfl rfl ?aP (fun _ hk => hk.elim) ?aF ?aO ?aB ?aS ?aL ?_; (case aP => exact rfl); (case aB => exact HB.out); (case aF => exact (fun _ _ => trivial)); (case aO => exact HO.out); (case aS => exact HB.out.size); (case aL => have := HB1.out; simp only [List.length_append, bytesOf_length]; omega); intro v2 w2 ho2 hb2 hg2 hat2; replace HR := am_ (Kd.R_over HR.out HO.out (by decide) hg2); replace HO := am_ ho2; replace HB := am_ hb2; clear ho2 hg2 hb2 hat2))
         obtain ⟨B2, c2, rfl⟩ := Kd.R_slice HO.out
         go_roundw
         case rel => exact ⟨k + 1, _, _, _, hlt, by go_num, rfl, by rw [HCT.out]; exact HO.out, HR.out, HB.out⟩
         case measure => simp [intOf]; omega
       have hkn : k = LN.length := by omega
       subst hkn
       rw [List.take_length] at HO
       have hcv := own_string (P := Tryz.prog) Tryz.underlying38 Tryz.underlying5 Tryz.underlying9 (Kd.own_of_R HO.out)
       go_wp2_with fail
       go_ret2
       rw [HE4.out]
       exact ⟨rfl, HB.out⟩
end Go.Proofs.YtndbbgihpoiojaaGreatDoor.Q
namespace Go.Proofs.YtndbbgihpoiojaaGreatDoor.Q
open Go.RowKit Go.Proofs.YtndbbgihpoiojaaGreatDoorW.PrintWords Go.Proofs.YtndbbgihpoiojaaGreatDoorW.PrintLast Go.Proofs.YtndbbgihpoiojaaGreatDoorW.PrintMore
attribute [local go_sem] max2_int min2_int max_two min_two max_three min_three max_four min_four   -- for this text's walks alone
def tell_T1 : Bool × List (List Nat × List Nat) := (true, [([], []), ([0], [0]), ([1], [1]), ([], []), ([3], [3]), ([4, 2], [4]), ([], []), ([6], [6]), ([7, 5], [7]), ([2, 5, 8], [2, 5, 8]), ([9, 8, 0, 1, 2, 3, 4, 5, 6, 7, 8, 9], [9])])
def tell_B1 : List Nat := [0, 1, 3, 0, 8, 31, 0, 64, 255, 511, 1023]
theorem tell_tab1 : rtab .any (opsOf Tryz.f18 1) = tell_T1 := by kernel_rfl
theorem tell_bits1 : waitsOk tell_T1.2 tell_B1 = true := by kernel_rfl
theorem tell_fx (w : World) (hE : sc.Env w) :
 Calls Tryz.prog 18 #[.agg #[.int .i64 3, .int .i64 0, .int .i64 0, .int .i64 0, .int .i64 0, .bool false, .slice none 0 0, .slice none 0 0, .bool true, .int .i64 0]] w fun e w' => e = .returned (.string ⟨#[115, 108, 111, 116, 32, 51, 32, 115, 101, 115, 115, 105, 111, 110, 32, 48, 32, 99, 111, 100, 101, 32, 48, 32, 109, 111, 114, 101]⟩) ∧ Below w.heap.size w w' := by
 have hu41 := Tryz.underlying41
 have hu37 := Tryz.underlying37
 have hu62 := Tryz.underlying62
 have HE := am_ hE
 clear hE
 have HB := am_ (Below.refl w.heap.size w)
 have A2 := am_ (show script_number.f 3 = some ⟨#[51]⟩ by kernel_rfl)
 have A3 := am_ (show script_number.f 0 = some ⟨#[48]⟩ by kernel_rfl)
 have A4 := am_ (show script_number.f 0 = some ⟨#[48]⟩ by kernel_rfl)
 obtain ⟨y148, hy148⟩ : ∃ y_ : List ByteArray, y_ = (([(⟨#[115, 108, 111, 116]⟩ : ByteArray), (⟨#[51]⟩ : ByteArray), (⟨#[115, 101, 115, 115, 105, 111, 110]⟩ : ByteArray), (⟨#[48]⟩ : ByteArray), (⟨#[99, 111, 100, 101]⟩ : ByteArray), (⟨#[48]⟩ : ByteArray)] : List ByteArray)) := ⟨_, rfl⟩
 have Ny148 := am_ hy148
 clear hy148
 go_enter Tryz.func18, Tryz.ntmps18
 try go_wp2_with (first | ((with_reducible refine gate_dst (N := 1) rfl ?_); refine box_event ?hg (N := 1) ?hd (cs := #[.int .i64 3, .int .i64 0, .int .i64 0, .int .i64 0, .int .i64 0, .bool false, .slice none 0 0, .slice none 0 0, .bool true, .int .i64 0]) (t := 41) ?hr ?_; (case hd => rfl); (case hg => rfl); (case hr => first | (go_simp; done) | (go_simp; rfl)); intro gb144 hg w6 hbox hb; have BK144 := am_ (hbox); have GW144 := am_ ((by rw [hg]; exact (below_size (by repeat (first | (with_reducible first | exact HB.out | apply b1_ | apply b2_ | apply b3_) | exact HB.out))) : w.heap.size ≤ gb144)); have GE144 := am_ ((by rw [hg]; exact (below_size (by repeat (first | (with_reducible first | exact HB.out | apply b1_ | apply b2_ | apply b3_) | exact HB.out))) : w.heap.size ≤ gb144)); replace HB := am_ (below_step (by repeat (first | (with_reducible first | exact HB.out | apply b1_ | apply b2_ | apply b3_) | exact HB.out)) hb); clear hb hbox hg))
 replace BK144 := am_ (d2_ BK144.out)
 replace HB := am_ (b3_ HB.out)
 refine start_ (n := 11) (S := fun w' => w'.cell? ⟨gb144, 0, none⟩ = some (.int .i64 3) ∧ w'.cell? ⟨gb144, 1, none⟩ = some (.int .i64 0) ∧ w'.cell? ⟨gb144, 2, none⟩ = some (.int .i64 0) ∧ w'.cell? ⟨gb144, 3, none⟩ = some (.int .i64 0) ∧ w'.cell? ⟨gb144, 4, none⟩ = some (.int .i64 0) ∧ w'.cell? ⟨gb144, 5, none⟩ = some (.bool false) ∧ w'.cell? ⟨gb144, 6, none⟩ = some (.slice none 0 0) ∧ w'.cell? ⟨gb144, 7, none⟩ = some (.slice none 0 0) ∧ w'.cell? ⟨gb144, 8, none⟩ = some (.bool true) ∧ w'.cell? ⟨gb144, 9, none⟩ = some (.int .i64 0)) (ds := []) #[false, false, false, false, false, false, false, false, false, false, false] (by kernel_rfl) rfl rfl (c10_ BK144.out) (fun hHeld => ?_); refine with_tabW tell_tab1 tell_bits1 (fun HT_ HW_ => ?_)
 generalize w6.drew = w7 at BK144 HB hHeld ⊢
 refine pu_ 0 6 (bs_ 11 1) rfl rfl (any_of HT_.out (by kernel_rfl)) rfl (by intro w'; go_simp; with_reducible rfl) (by simp only [Act.put, aS, aZ, aC, i64_w, i32_w]; rfl) (fun _ _ _ h => h) ?_
 refine pu_ 3 9 (bs_ 11 9) rfl rfl (any_of HT_.out (by kernel_rfl)) rfl (by intro w'; go_simp; with_reducible rfl) (by simp only [Act.put, aS, aZ, aC, i64_w, i32_w]; rfl) (fun _ _ _ h => h) ?_
 refine pu_ 6 12 (bs_ 11 73) rfl rfl (any_of HT_.out (by kernel_rfl)) rfl (by intro w'; go_simp; with_reducible rfl) (by simp only [Act.put, aS, aZ, aC, i64_w, i32_w]; rfl) (fun _ _ _ h => h) ?_
 refine ta_ 1 7 (bs_ 11 75) rfl rfl (take_ofW HT_.out HW_.out (by kernel_rfl)) rfl (by rintro w' ⟨s0, s1, s2, s3, s4, s5, s6, s7, s8, s9⟩; go_simp; with_reducible rfl) hHeld (by simp only [Act.put, aS, aZ, aC, i64_w, i32_w]; rfl) (fun _ _ _ h => h) ?_
 refine ta_ 4 10 (bs_ 11 91) rfl rfl (take_ofW HT_.out HW_.out (by kernel_rfl)) rfl (by rintro w' ⟨s0, s1, s2, s3, s4, s5, s6, s7, s8, s9⟩; go_simp; with_reducible rfl) hHeld (by simp only [Act.put, aS, aZ, aC, i64_w, i32_w]; rfl) (fun _ _ _ h => h) ?_
 refine ta_ 7 13 (bs_ 11 219) rfl rfl (take_ofW HT_.out HW_.out (by kernel_rfl)) rfl (by rintro w' ⟨s0, s1, s2, s3, s4, s5, s6, s7, s8, s9⟩; go_simp; with_reducible rfl) hHeld (by simp only [Act.put, aS, aZ, aC, i64_w, i32_w]; rfl) (fun _ _ _ h => h) ?_
 refine one_ (i := 2) (N := some 8) (bs_ 11 223) rfl rfl (one_of HT_.out (by kernel_rfl)) (by decide) (fun K hK => ?_)
 refine goes_ Tryz.func33 (by kernel_rfl) rfl #[.int .i64 3] (by rfl) rfl rfl (by (try simp only [aT, aK, aL]); first | done | rfl | (simp only [List.length_drop, List.length_take]; rfl)) ?_
 with_reducible refine (script_number.calls 3 (⟨#[51]⟩ : ByteArray) _ ?side1 A2.out).mono ?_
 (case side1 => exact sc.Env.below HE.out (by repeat (first | (with_reducible first | exact HB.out | apply b1_ | apply b2_ | apply b3_ | refine b4_ ?_ GE144.out) | exact HB.out)))
 rintro e w8 ⟨rfl, hb⟩
 refine ⟨_, rfl, ?_⟩
 replace BK144 := am_ (blk_below (by (with_reducible repeat (first | refine d1_ ?_ _ | refine d2_ ?_ | refine d3_ ?_ _)); exact BK144.out) hb)
 replace HB := am_ (below_step (by repeat (first | (with_reducible first | exact HB.out | apply b1_ | apply b2_ | apply b3_ | refine b4_ ?_ GE144.out) | exact HB.out)) hb)
 (try clear hb)
 (try clear hk)
 refine hK.out _ _ (c10_ BK144.out) (fun hHeld => ?_)
 clear hK K
 refine no_ (by simp only [Act.put, aS, aZ, aC, i64_w, i32_w]; rfl) ?_
 refine one_ (i := 5) (N := some 11) (bs_ 11 255) rfl rfl (one_of HT_.out (by kernel_rfl)) (by decide) (fun K hK => ?_)
 refine goes_ Tryz.func33 (by kernel_rfl) rfl #[.int .i64 0] (by rfl) rfl rfl (by (try simp only [aT, aK, aL]); first | done | rfl | (simp only [List.length_drop, List.length_take]; rfl)) ?_
 with_reducible refine (script_number.calls 0 (⟨#[48]⟩ : ByteArray) _ ?side1 A3.out).mono ?_
 (case side1 => exact sc.Env.below HE.out (by repeat (first | (with_reducible first | exact HB.out | apply b1_ | apply b2_ | apply b3_ | refine b4_ ?_ GE144.out) | exact HB.out)))
 rintro e w9 ⟨rfl, hb⟩
 refine ⟨_, rfl, ?_⟩
 replace BK144 := am_ (blk_below (by (with_reducible repeat (first | refine d1_ ?_ _ | refine d2_ ?_ | refine d3_ ?_ _)); exact BK144.out) hb)
 replace HB := am_ (below_step (by repeat (first | (with_reducible first | exact HB.out | apply b1_ | apply b2_ | apply b3_ | refine b4_ ?_ GE144.out) | exact HB.out)) hb)
 (try clear hb)
 (try clear hk)
 refine hK.out _ _ (c10_ BK144.out) (fun hHeld => ?_)
 clear hK K
 refine no_ (by simp only [Act.put, aS, aZ, aC, i64_w, i32_w]; rfl) ?_
 refine one_ (i := 8) (N := some 14) (bs_ 11 511) rfl rfl (one_of HT_.out (by kernel_rfl)) (by decide) (fun K hK => ?_)
 refine goes_ Tryz.func33 (by kernel_rfl) rfl #[.int .i64 0] (by rfl) rfl rfl (by (try simp only [aT, aK, aL]); first | done | rfl | (simp only [List.length_drop, List.length_take]; rfl)) ?_
 with_reducible refine (script_number.calls 0 (⟨#[48]⟩ : ByteArray) _ ?side1 A4.out).mono ?_
 (case side1 => exact sc.Env.below HE.out (by repeat (first | (with_reducible first | exact HB.out | apply b1_ | apply b2_ | apply b3_ | refine b4_ ?_ GE144.out) | exact HB.out)))
 rintro e w10 ⟨rfl, hb⟩
 refine ⟨_, rfl, ?_⟩
 replace BK144 := am_ (blk_below (by (with_reducible repeat (first | refine d1_ ?_ _ | refine d2_ ?_ | refine d3_ ?_ _)); exact BK144.out) hb)
 replace HB := am_ (below_step (by repeat (first | (with_reducible first | exact HB.out | apply b1_ | apply b2_ | apply b3_ | refine b4_ ?_ GE144.out) | exact HB.out)) hb)
 (try clear hb)
 (try clear hk)
 refine hK.out _ _ (c10_ BK144.out) (fun hHeld => ?_)
 clear hK K
 refine no_ (by simp only [Act.put, aS, aZ, aC, i64_w, i32_w]; rfl) ?_
 refine one_ (i := 9) (N := some 15) (bs_ 11 1023) rfl rfl (one_of HT_.out (by kernel_rfl)) (by decide) (fun K hK => ?_)
 refine Kd.R_lit_step Kd.string _ 9 ?hg (N := 15) ?hd (xs := ([(⟨#[115, 108, 111, 116]⟩ : ByteArray), (⟨#[51]⟩ : ByteArray), (⟨#[115, 101, 115, 115, 105, 111, 110]⟩ : ByteArray), (⟨#[48]⟩ : ByteArray), (⟨#[99, 111, 100, 101]⟩ : ByteArray), (⟨#[48]⟩ : ByteArray)] : List ByteArray)) (inner := [.string (⟨#[115, 108, 111, 116]⟩ : ByteArray), .string (⟨#[51]⟩ : ByteArray), .string (⟨#[115, 101, 115, 115, 105, 111, 110]⟩ : ByteArray), .string (⟨#[48]⟩ : ByteArray), .string (⟨#[99, 111, 100, 101]⟩ : ByteArray), .string (⟨#[48]⟩ : ByteArray)]) (ok := fun _ => True) (okp := fun _ => True) ?hr ?hp (fun _ hk => hk) trivial (Below.refl _ _) (Nat.le_refl _) (by simp) ?_; (case hd => rfl); (case hg => rfl); (case hr => first | (go_simp; done) | (go_simp; rfl)); (case hp => exact (Reps.one (show Kd.M Kd.string _ _ _ (⟨#[115, 108, 111, 116]⟩ : ByteArray) [.string (⟨#[115, 108, 111, 116]⟩ : ByteArray)] from rfl) (Reps.one (show Kd.M Kd.string _ _ _ (⟨#[51]⟩ : ByteArray) [.string (⟨#[51]⟩ : ByteArray)] from rfl) (Reps.one (show Kd.M Kd.string _ _ _ (⟨#[115, 101, 115, 115, 105, 111, 110]⟩ : ByteArray) [.string (⟨#[115, 101, 115, 115, 105, 111, 110]⟩ : ByteArray)] from rfl) (Reps.one (show Kd.M Kd.string _ _ _ (⟨#[48]⟩ : ByteArray) [.string (⟨#[48]⟩ : ByteArray)] from rfl) (Reps.one (show Kd.M Kd.string _ _ _ (⟨#[99, 111, 100, 101]⟩ : ByteArray) [.string (⟨#[99, 111, 100, 101]⟩ : ByteArray)] from rfl) (Reps.one (show Kd.M Kd.string _ _ _ (⟨#[48]⟩ : ByteArray) [.string (⟨#[48]⟩ : ByteArray)] from rfl) (Reps.none _ _))))))))
 intro v149 w11 ho12 hb hg_ hnew_
 clear hg_ hnew_
 (first | rw [← Ny148.out] at ho12 | (simp only [Int.reduceToNat] at ho12; rw [← Ny148.out] at ho12))
 have HO150 := am_ (Kd.R_lower ho12 (below_size (by repeat (first | (with_reducible first | exact HB.out | apply b1_ | apply b2_ | apply b3_ | refine b4_ ?_ GE144.out) | exact HB.out))))
 replace BK144 := am_ (blk_below (by (with_reducible repeat (first | refine d1_ ?_ _ | refine d2_ ?_ | refine d3_ ?_ _)); exact BK144.out) hb)
 replace HB := am_ (below_step (by repeat (first | (with_reducible first | exact HB.out | apply b1_ | apply b2_ | apply b3_ | refine b4_ ?_ GE144.out) | exact HB.out)) hb)
 clear hb ho12
 refine hK.out _ _ (c10_ BK144.out) (fun hHeld => ?_)
 clear hK K
 refine no_ (by simp only [Act.put, aS, aZ, aC, i64_w, i32_w]; rfl) ?_
 refine pu_ 10 3 (bs_ 11 2047) rfl rfl (any_of HT_.out (by kernel_rfl)) rfl (by intro w'; go_simp; with_reducible rfl) (by simp only [Act.put, aS, aZ, aC, i64_w, i32_w]; rfl) (fun _ _ _ h => h) ?_
 refine done_ (done_of HT_.out (by kernel_rfl)) ?_
 have hcz13_0 : w11.cell? ⟨gb144, 0, none⟩ = some (.int .i64 3) := (blk_cell BK144.out 0).trans rfl
 have hcz13_1 : w11.cell? ⟨gb144, 1, none⟩ = some (.int .i64 0) := (blk_cell BK144.out 1).trans rfl
 have hcz13_2 : w11.cell? ⟨gb144, 2, none⟩ = some (.int .i64 0) := (blk_cell BK144.out 2).trans rfl
 have hcz13_3 : w11.cell? ⟨gb144, 3, none⟩ = some (.int .i64 0) := (blk_cell BK144.out 3).trans rfl
 have hcz13_4 : w11.cell? ⟨gb144, 4, none⟩ = some (.int .i64 0) := (blk_cell BK144.out 4).trans rfl
 have hcz13_5 : w11.cell? ⟨gb144, 5, none⟩ = some (.bool false) := (blk_cell BK144.out 5).trans rfl
 have hcz13_6 : w11.cell? ⟨gb144, 6, none⟩ = some (.slice none 0 0) := (blk_cell BK144.out 6).trans rfl
 have hcz13_7 : w11.cell? ⟨gb144, 7, none⟩ = some (.slice none 0 0) := (blk_cell BK144.out 7).trans rfl
 have hcz13_8 : w11.cell? ⟨gb144, 8, none⟩ = some (.bool true) := (blk_cell BK144.out 8).trans rfl
 have hcz13_9 : w11.cell? ⟨gb144, 9, none⟩ = some (.int .i64 0) := (blk_cell BK144.out 9).trans rfl
 have hfz13_0 := blk_frozen BK144.out 0
 have hfz13_1 := blk_frozen BK144.out 1
 have hfz13_2 := blk_frozen BK144.out 2
 have hfz13_3 := blk_frozen BK144.out 3
 have hfz13_4 := blk_frozen BK144.out 4
 have hfz13_5 := blk_frozen BK144.out 5
 have hfz13_6 := blk_frozen BK144.out 6
 have hfz13_7 := blk_frozen BK144.out 7
 have hfz13_8 := blk_frozen BK144.out 8
 have hfz13_9 := blk_frozen BK144.out 9
 clear hHeld hfz13_0 hfz13_1 hfz13_2 hfz13_3 hfz13_4 hfz13_5 hfz13_6 hfz13_7 hfz13_8 hfz13_9
 have HL := am_ (show y148.length < 8796093022208 by rw [Ny148.out]; decide)
 go_wp2
 go_loop [3, 61] (fun u v => u = v149 ∧ v = .int .i64 0) (fun _ _ => 0)
 case atStart => exact ⟨rfl, rfl⟩
 case round =>
  obtain ⟨rfl, rfl⟩ := hrel
  go_wp2_with (first | ((with_reducible refine gate_builtin (b := .append) (xs := #[.tmp 78, .tmp 79]) rfl ?_); at_builtin; refine Kd.R_append Kd.string (w0 := w) w.heap.size rfl (.tmp 78) (.tmp 79) 71 9 (.string ⟨#[]⟩) 16 rfl Tryz.underlying71 info9 rfl (by decide) (by omega) _ y148 (⟨#[109, 111, 114, 101]⟩ : ByteArray) [.string (⟨#[109, 111, 114, 101]⟩ : ByteArray)] (fun _ => True) (fun _ => False) rfl rfl ?aP (fun _ hk => hk.elim) ?aF ?aO ?aB ?aS ?aL ?_; (case aP => exact rfl); (case aB => exact HB.out); (case aF => exact (fun _ _ => trivial)); (case aO => exact HO150.out); (case aS => exact (below_size HB.out)); (case aL => have := HL.out; omega); intro v160 w12 ho hb hg hat; have BK2 := am_ (blk_grown BK144.out hg (Kd.R_ne HO150.out BK144.out (by decide))); have HB2 := am_ hb; have HO2 := am_ ho; have hcz9 : w12.cell? ⟨gb144, 9, none⟩ = some (.int .i64 0) := (blk_cell BK2.out 9).trans rfl; clear ho hb hg hat))
  obtain ⟨A160, c160, rfl, hc, hC⟩ := Kd.R_reads HO2.out
  have HJ := am_ (strings_Join.calls A160 c160 (y148 ++ [⟨#[109, 111, 114, 101]⟩]) ⟨#[32]⟩ ⟨#[115, 108, 111, 116, 32, 51, 32, 115, 101, 115, 115, 105, 111, 110, 32, 48, 32, 99, 111, 100, 101, 32, 48, 32, 109, 111, 114, 101]⟩ w12 hC hc (by rw [Ny148.out]; kernel_rfl))
  clear hC hc HL
  go_wp2_with fail
  refine HJ.out.mono ?_
  rintro e w13 ⟨rfl, hb13⟩
  have HB3 := am_ (below_step HB2.out hb13)
  clear hb13
  go_wp2
  go_ret
  exact ⟨rfl, HB3.out⟩
end Go.Proofs.YtndbbgihpoiojaaGreatDoor.Q
namespace Go.Proofs.YtndbbgihpoiojaaGreatDoor.Q
open Go.RowKit Go.Proofs.YtndbbgihpoiojaaGreatDoorW.PrintWords Go.Proofs.YtndbbgihpoiojaaGreatDoorW.PrintLast
abbrev fx1 : ByteArray := ⟨#[108, 97, 98, 101, 108, 32, 49, 10, 115, 101, 115, 115, 105, 111, 110, 32, 48, 10, 97, 115, 107, 32, 48, 32, 112, 117, 116, 32, 49, 32, 50, 32, 48, 32, 34, 107, 34, 32, 34, 118, 37, 50, 48, 119, 34, 10, 116, 105, 99, 107, 32, 47, 32, 50, 44, 57, 57, 44, 48, 32, 47, 10]⟩
abbrev fx2 : ByteArray := ⟨#[105, 100, 108, 101, 10, 116, 111, 99, 107]⟩
abbrev fe1 : S52 := ⟨1, 0, ⟨4, ⟨1, 2⟩, 0, ⟨#[107]⟩, ⟨#[]⟩, [118, 32, 119], 0⟩, 0, []⟩
abbrev fe2 : S52 := ⟨2, 0, z49, 0, [[⟨2, 99, 0⟩], []]⟩
abbrev fe3 : S52 := ⟨5, 0, z49, 0, []⟩
theorem fx1_parse : parseS fx1 = ((0, 0), some ([1], [], [0], [fe1, fe2])) := by kernel_rfl
theorem fx2_parse : parseS fx2 = ((2, 260), none) := by kernel_rfl
theorem fx_print : printS ([1], [], [], [fe3]) = (⟨#[108, 97, 98, 101, 108, 32, 49, 10, 105, 100, 108, 101, 10]⟩, 0) := by kernel_rfl
theorem fx_quote : quoteB ⟨#[97, 32, 98]⟩ = ⟨#[34, 97, 37, 50, 48, 98, 34]⟩ := by kernel_rfl
theorem ev_cells {w : World} {base : Nat} {v : Value} {l3 : List S52} (h : EvR w base v l3) : ∃ g c, (v = .slice (some ⟨g, 0, none⟩) l3.length c ∨ (l3 = [] ∧ v = .slice none 0 0)) ∧
 ∀ (j : Nat) x, l3[j]? = some x → ∃ A8 c8 A11 c11, x.f2.f5.length ≤ c8 ∧ Kd.C (Kd.int .u8) w A8 x.f2.f5.length x.f2.f5 ∧ x.f4.length ≤ c11 ∧ (Kd.slice 66 k66).C w A11 x.f4.length x.f4 ∧
  ∀ i u, ([.int .i64 x.f0, .int .i64 x.f1, .int .i64 x.f2.f0, .int .i64 x.f2.f1.f0, .int .i64 x.f2.f1.f1, .int .i64 x.f2.f2, .string x.f2.f3, .string x.f2.f4, .slice A8 x.f2.f5.length c8, .int .i64 x.f2.f6, .int .i64 x.f3, .slice A11 x.f4.length c11] : List Value)[i]? = some u → w.cell? ⟨g, j * 12 + i, none⟩ = some u := by
 obtain ⟨o3, hr, hm, hb⟩ := h
 have hlen : o3.length = l3.length := by rw [← hm]; simp
 obtain ⟨A, c, rfl, hc, hC⟩ := Kd.R_reads hr
 obtain ⟨inner, hown⟩ := Kd.R_own hr
 rcases hown.2 with ⟨hv, hn⟩ | ⟨g, cap, cur, hv, _⟩
 · have h0 : l3 = [] := List.eq_nil_of_length_eq_zero (by omega)
   subst h0
   refine ⟨0, 0, .inr ⟨rfl, hv⟩, fun j x hx => by simp at hx⟩
 injection hv with e1 e2 e3
 subst e1 e3
 refine ⟨g, c, .inl (by rw [hlen]), fun j x hx => ?_⟩
 obtain ⟨p, hp, rfl⟩ : ∃ p, o3[j]? = some p ∧ p.1 = x := by
  rw [← hm, List.getElem?_map] at hx
  obtain ⟨p, hp, he⟩ := Option.map_eq_some_iff.1 hx
  exact ⟨p, hp, he⟩
 obtain ⟨b, o, cs, hA, hK, hcs⟩ := Cat_ hC hp (by decide)
 injection hA with hA
 injection hA with e4 e5
 subst e4 e5
 obtain ⟨A11, c11, rfl, h11, g11⟩ := k52o_open hK
 have hv := hb p (List.mem_of_getElem? hp)
 refine ⟨p.2.1, p.2.2, A11, c11, hv.1, Kd.F_now hv.2, h11, g11, fun i u hu => ?_⟩
 have := hcs i u hu
 rwa [Nat.zero_add] at this
theorem one_C {α : Type} {d : Kd α} {w : World} {b : Nat} {cs : Array Value} {t : TypeId} {fr : Nat × Nat} {x : α} (h : w.heap[b]? = some (.cells cs t fr)) (hK : d.K w x cs.toList) (hs : cs.size = d.sz) : d.C w (some ⟨b, 0, none⟩) 1 [x] := by
 refine ⟨rfl, by decide, fun _ => ⟨_, rfl, fun j p hj => ?_⟩⟩
 obtain ⟨rfl, rfl⟩ : j = 0 ∧ x = p := by
  cases j with
  | zero => exact ⟨rfl, by simpa using hj⟩
  | succ j => simp at hj
 refine ⟨cs.toList, by simpa using hs, hK, fun i u hu => ?_⟩
 rw [addPlainQ]
 exact wld.cell_of h (by simpa using hu)
theorem fx_ok : PrintOK ([1], [], [], [fe3]) where
 lab := fun x hx => by rw [List.mem_singleton.1 hx]; decide
 acc := fun x hx => by cases hx
 ses := fun x hx => by cases hx
 ev := fun x hx => by
  rw [List.mem_singleton.1 hx]
  refine ⟨⟨?_, ?_, ?_, ?_, ?_, ?_, by decide, by decide, by decide, fun l hl => by cases hl⟩, by decide, by decide⟩ <;> (unfold sc.InInt; decide)
 cnt := by decide
 sum := of_decide_eq_true (by kernel_rfl)
theorem fixed_calls (w : World) (hE : sc.Env w) : Calls Tryz.prog 17 #[] w fun e w' => e = .returned (.bool true) ∧ Below w.heap.size w w' := by
 have H1 := parse_calls fx1 w hE (by decide)
 rw [fx1_parse] at H1
 have HP1 := am_ H1
 have HE := am_ hE
 clear H1 hE
 go_enter Tryz.func17, Tryz.ntmps17
 go_wp2_with fail
 refine HP1.out.mono ?_
 rintro e w1 ⟨v0, v1, v2, v3, rfl, ⟨base, hbase, hr⟩, hb⟩
 obtain ⟨A0, c0, rfl⟩ := Kd.R_slice hr.r0
 obtain ⟨A1, c1, rfl⟩ := Kd.R_slice hr.r1
 obtain ⟨A2, c2, rfl⟩ := Kd.R_slice hr.r2
 obtain ⟨g, c, hv3, hcells⟩ := ev_cells hr.r3
 rcases hv3 with rfl | ⟨h, _⟩
 · obtain ⟨A8, c8, A11, c11, hc8, hval, hc11, hstr, hc⟩ := hcells 0 fe1 rfl
   obtain ⟨B8, d8, B11, d11, hd8, hval2, hd11, hstr2, hd⟩ := hcells 1 fe2 rfl
   have q8 := wld.cellA (show w1.cell? ⟨g, 8, none⟩ = some (.slice A8 3 c8) from hc 8 _ rfl) (.cells #[.slice A0 1 c0, .slice A1 0 c1, .slice A2 1 c2] 26)
   have q23 := wld.cellA (show w1.cell? ⟨g, 23, none⟩ = some (.slice B11 2 d11) from hd 11 _ rfl) (.cells #[.slice A0 1 c0, .slice A1 0 c1, .slice A2 1 c2] 26)
   have HB := am_ hb
   have HV := am_ hval
   clear hb hval hval2 hstr hstr2 hc hd hcells hr HP1 hbase hc8 hd8 hc11 hd11
   have hcv : Sem.run Tryz.prog (convert 38 9 (.slice A8 3 c8)) (w1.alloc (.cells #[.slice A0 1 c0, .slice A1 0 c1, .slice A2 1 c2] 26)) = .ok (.string ⟨#[118, 32, 119]⟩) (w1.alloc (.cells #[.slice A0 1 c0, .slice A1 0 c1, .slice A2 1 c2] 26)) := Kd.C_string (P := Tryz.prog) (A := A8) (c := c8) Tryz.underlying38 Tryz.underlying5 Tryz.underlying9 (Kd.C_below HV.out (b1_ (Below.refl w1.heap.size w1) (.cells #[.slice A0 1 c0, .slice A1 0 c1, .slice A2 1 c2] 26)))
   go_wp2_with fail
   have HB2 := am_ (b1_ HB.out (.cells #[.slice A0 1 c0, .slice A1 0 c1, .slice A2 1 c2] 26))
   clear q8 q23 hcv HV
   generalize w1.alloc _ = wa at HB2 ⊢
   have H2 := parse_calls fx2 wa (HE.out.below HB2.out) (by decide)
   rw [fx2_parse] at H2
   refine H2.mono ?_
   clear H2
   rintro e w2 ⟨u0, u1, u2, u3, rfl, _, hb2⟩
   replace HB2 := am_ (below_step HB2.out hb2)
   clear hb2
   have HB3 := am_ (b1_ (b1_ HB2.out (.cells #[.int .u64 1] 68)) (.cells #[.int .i64 5, .int .i64 0, .int .i64 0, .int .i64 0, .int .i64 0, .int .i64 0, .string ⟨#[]⟩, .string ⟨#[]⟩, .slice none 0 0, .int .i64 0, .int .i64 0, .slice none 0 0] 52))
   have hx1 : ((w2.alloc (.cells #[.int .u64 1] 68)).alloc (.cells #[.int .i64 5, .int .i64 0, .int .i64 0, .int .i64 0, .int .i64 0, .int .i64 0, .string ⟨#[]⟩, .string ⟨#[]⟩, .slice none 0 0, .int .i64 0, .int .i64 0, .slice none 0 0] 52)).heap[w2.heap.size]? = some (.cells #[.int .u64 1] 68) := (wld.alloc_other (by simp) _).trans (wld.alloc_same _ _)
   have hx2 : ((w2.alloc (.cells #[.int .u64 1] 68)).alloc (.cells #[.int .i64 5, .int .i64 0, .int .i64 0, .int .i64 0, .int .i64 0, .int .i64 0, .string ⟨#[]⟩, .string ⟨#[]⟩, .slice none 0 0, .int .i64 0, .int .i64 0, .slice none 0 0] 52)).heap[w2.heap.size + 1]? = some (.cells #[.int .i64 5, .int .i64 0, .int .i64 0, .int .i64 0, .int .i64 0, .int .i64 0, .string ⟨#[]⟩, .string ⟨#[]⟩, .slice none 0 0, .int .i64 0, .int .i64 0, .slice none 0 0] 52) := by
    have h := wld.alloc_same (w2.alloc (.cells #[.int .u64 1] 68)) (.cells #[.int .i64 5, .int .i64 0, .int .i64 0, .int .i64 0, .int .i64 0, .int .i64 0, .string ⟨#[]⟩, .string ⟨#[]⟩, .slice none 0 0, .int .i64 0, .int .i64 0, .slice none 0 0] 52)
    rw [World.size_alloc] at h
    exact h
   have HPR := print_calls (some ⟨w2.heap.size, 0, none⟩) 1 [1] none 0 [] none 0 [] (some ⟨w2.heap.size + 1, 0, none⟩) 1 [fe3] _ (HE.out.below HB3.out) (one_C hx1 rfl rfl) (nilC _ _) (nilC _ _) (one_C hx2 (k52_mk _ fe3 (A8 := none) (c8 := 0) (Nat.le_refl _) (nilC _ _) (A11 := none) (c11 := 0) (Nat.le_refl _) (nilC _ _)) rfl) fx_ok
   rw [fx_print] at HPR
   have HPR := am_ HPR
   clear hx1 hx2
   go_wp2_with fail
   refine HPR.out.mono ?_
   rintro e w3 ⟨rfl, hb3⟩
   have HB4 := am_ (below_step HB3.out hb3)
   have HQ := am_ (quoteB_c ⟨#[97, 32, 98]⟩ (by decide) w3 (HE.out.below HB4.out))
   rw [fx_quote] at HQ
   clear hb3
   go_wp2_with fail
   refine HQ.out.mono ?_
   rintro e w4 ⟨rfl, hb4⟩
   have HB5 := am_ (below_step HB4.out hb4)
   have HT := am_ (tell_fx w4 (HE.out.below HB5.out))
   clear hb4
   go_wp2_with fail
   refine HT.out.mono ?_
   rintro e w5 ⟨rfl, hb5⟩
   go_wp2_with fail
   go_ret
   exact ⟨rfl, below_step HB5.out hb5⟩
 cases h
def fw (ls : List (List S66)) : Nat := (ls.map fun l => 1 + l.length).sum
def wv (x : S52) : Nat := 1 + x.f2.f3.size + x.f2.f4.size + x.f2.f5.length + fw x.f4
def wvs (l : List S52) : Nat := (l.map wv).sum
theorem rd7_at (ls : List (List S66)) (j : Nat) (h : j < ls.length) : rd_L7 ls (j : Int) = ls[j] := by
 unfold rd_L7
 rw [Int.toNat_natCast, List.getD_eq_getElem?_getD, List.getElem?_eq_getElem h]
 rfl
theorem rd52_at (l : List S52) (j : Nat) (h : j < l.length) : rd_T52 l (j : Int) = l[j] := by
 unfold rd_T52
 rw [Int.toNat_natCast, List.getD_eq_getElem?_getD, List.getElem?_eq_getElem h]
 rfl
theorem w1_ {j : Nat} (h : j ≤ 268435456) : wrap64 ((j : Int) + 1) = ((j + 1 : Nat) : Int) := by rw [w64 (by omega) (by omega)]; omega
theorem ac_ {acc n : Nat} (h : acc + n ≤ 268435456) : wrap64 ((acc : Int) + wrap64 (1 + (n : Int))) = ((acc + (1 + n) : Nat) : Int) := by
 rw [w64 (x := 1 + (n : Int)) (by omega) (by omega), w64 (by omega) (by omega)]
 omega
theorem ad_ {acc a b c : Nat} (h : acc + a + b + c ≤ 268435456) : wrap64 ((acc : Int) + wrap64 (wrap64 (wrap64 (1 + (a : Int)) + (b : Int)) + (c : Int))) = ((acc + (1 + a + b + c) : Nat) : Int) := by
 rw [w64 (x := 1 + (a : Int)) (by omega) (by omega), w64 (x := 1 + (a : Int) + (b : Int)) (by omega) (by omega), w64 (x := 1 + (a : Int) + (b : Int) + (c : Int)) (by omega) (by omega), w64 (by omega) (by omega)]
 omega
theorem vast_l1 (x8 : List S52) (x9 x10 : Int) (ls : List (List S66)) (hlen : ls.length ≤ 268435456) : ∀ (q j acc : Nat), j + q = ls.length → acc + fw (ls.drop j) ≤ 268435456 →
 (∃ k, cloisterlaw26_vast.l0 k ((acc + fw (ls.drop j) : Nat) : Int) x8 x9 (wrap64 (x10 + 1)) = some false) → ∃ k, cloisterlaw26_vast.l1 k (acc : Int) x8 x9 x10 ls (ls.length : Int) (j : Int) = some false
 | 0, j, acc, hj, hb, ⟨k, hk⟩ => by
  rw [List.drop_eq_nil_of_le (by omega)] at hb hk
  have hb' : acc + 0 ≤ 268435456 := hb
  have hk' : cloisterlaw26_vast.l0 k (acc : Int) x8 x9 (wrap64 (x10 + 1)) = some false := hk
  exact ⟨k + 1, by rw [cloisterlaw26_vast.l1, if_neg (by omega), if_neg (by omega)]; exact hk'⟩
 | q + 1, j, acc, hj, hb, hk => by
  have hlt : j < ls.length := by omega
  have hr := rd7_at ls j hlt
  have e : fw (ls.drop j) = 1 + ls[j].length + fw (ls.drop (j + 1)) := by
   rw [List.drop_eq_getElem_cons hlt]
   unfold fw
   rw [List.map_cons, List.sum_cons]
  generalize ls[j] = s at *
  rw [e] at hb hk
  obtain ⟨f, hf⟩ : ∃ f, fw (ls.drop (j + 1)) = f := ⟨_, rfl⟩
  rw [hf] at hb hk
  have hlt' : (j : Int) < (ls.length : Int) := Int.ofNat_lt.2 hlt
  obtain ⟨n, hn⟩ : ∃ n, s.length = n := ⟨_, rfl⟩
  rw [hn] at hb hk
  obtain ⟨k, ih⟩ := vast_l1 x8 x9 x10 ls hlen q (j + 1) (acc + (1 + n)) (by omega) (by rw [hf]; omega) (by rw [hf, Nat.add_assoc]; exact hk)
  refine ⟨k + 1, ?_⟩
  rw [cloisterlaw26_vast.l1, if_pos hlt', if_pos (Int.natCast_nonneg j), if_pos hlt', hr, hn, ac_ (by omega), if_neg (by omega), w1_ (by omega)]
  exact ih
theorem vast_l0 (l : List S52) (hl : l.length ≤ 268435456) (hs : ∀ x ∈ l, x.f4.length ≤ 268435456) : ∀ (q i acc : Nat), i + q = l.length → acc + wvs (l.drop i) ≤ 268435456 → ∃ k, cloisterlaw26_vast.l0 k (acc : Int) l (l.length : Int) (i : Int) = some false
 | 0, i, acc, hi, hb => ⟨1, by rw [cloisterlaw26_vast.l0, if_neg (by omega)]⟩
 | q + 1, i, acc, hi, hb => by
  have hlt : i < l.length := by omega
  have hr := rd52_at l i hlt
  have e : wvs (l.drop i) = wv l[i] + wvs (l.drop (i + 1)) := by
   rw [List.drop_eq_getElem_cons hlt]
   unfold wvs
   rw [List.map_cons, List.sum_cons]
  have hsx := hs l[i] (List.getElem_mem hlt)
  rw [e] at hb
  have ih := vast_l0 l hl hs q (i + 1) (acc + wv l[i]) (by omega) (by omega)
  generalize l[i] = x at *
  have hw : wv x = 1 + x.f2.f3.size + x.f2.f4.size + x.f2.f5.length + fw x.f4 := rfl
  have hlt' : (i : Int) < (l.length : Int) := Int.ofNat_lt.2 hlt
  obtain ⟨a, ha⟩ : ∃ a, x.f2.f3.size = a := ⟨_, rfl⟩
  obtain ⟨b, hb'⟩ : ∃ b, x.f2.f4.size = b := ⟨_, rfl⟩
  obtain ⟨c, hc⟩ : ∃ c, x.f2.f5.length = c := ⟨_, rfl⟩
  rw [ha, hb', hc] at hw
  obtain ⟨k, hk⟩ := vast_l1 l (l.length : Int) (i : Int) x.f4 hsx x.f4.length 0 (acc + (1 + a + b + c)) (by omega) (by rw [List.drop_zero]; omega) (by
   rw [List.drop_zero, w1_ (by omega)]
   obtain ⟨k, ih⟩ := ih
   refine ⟨k, ?_⟩
   rw [show acc + (1 + a + b + c) + fw x.f4 = acc + wv x by omega]
   exact ih)
  refine ⟨k + 1, ?_⟩
  rw [cloisterlaw26_vast.l0, if_pos hlt', if_pos (Int.natCast_nonneg i), if_pos hlt', hr, ha, hb', hc, ad_ (by omega)]
  exact hk
theorem len_fw (ls : List (List S66)) : ls.length ≤ fw ls := by
 induction ls with
 | nil => exact Nat.le_refl _
 | cons x l ih =>
  unfold fw at ih ⊢
  rw [List.map_cons, List.sum_cons, List.length_cons]
  omega
theorem mem_wvs {l : List S52} {x : S52} (h : x ∈ l) : wv x ≤ wvs l := by
 induction l with
 | nil => cases h
 | cons y l ih =>
  unfold wvs at ih ⊢
  rw [List.map_cons, List.sum_cons]
  rcases List.mem_cons.1 h with rfl | h
  · omega
  have := ih h; omega
theorem vast_small (l : List S52) (h : wvs l ≤ 268435456) : ∃ k, cloisterlaw26_vast.f k l = some false := by
 have h1 : l.length ≤ wvs l := by
  clear h
  induction l with
  | nil => exact Nat.le_refl _
  | cons x l ih =>
   unfold wvs at ih ⊢
   rw [List.map_cons, List.sum_cons, List.length_cons]
   have : 1 ≤ wv x := by unfold wv; omega
   omega
 obtain ⟨k, hk⟩ := vast_l0 l (by omega) (fun x hx => by have h2 := mem_wvs hx; have h3 := len_fw x.f4; unfold wv at h2; omega) l.length 0 0 (by omega) (by rw [List.drop_zero]; omega)
 exact ⟨k, hk⟩
theorem print_code (s : Stt) : 0 ≤ (printS s).2 ∧ (printS s).2 ≤ 1000 := by
 unfold printS
 split
 · split
   · exact ⟨by decide, by decide⟩
   split
   · exact ⟨by decide, by decide⟩
   exact ⟨Int.le_refl 0, (by decide : (0 : Int) ≤ 1000)⟩
 exact ⟨by decide, by decide⟩
theorem prints_calls (A0 : Option Addr) (c0 : Nat) (l0 : List Int) (A1 : Option Addr) (c1 : Nat) (l1 : List S70) (A2 : Option Addr) (c2 : Nat) (l2 : List Int) (A3 : Option Addr) (c3 : Nat) (evs : List S52) (w : World) (hE : sc.Env w)
 (h0 : Kd.C (Kd.int .u64) w A0 l0.length l0) (h1 : Kd.C k70 w A1 l1.length l1) (h2 : Kd.C (Kd.int .i64) w A2 l2.length l2) (h3 : Kd.C k52 w A3 evs.length evs) (hc3 : evs.length ≤ c3) (ok : PrintOK (l0, l1, l2, evs))
 (hv : ∃ k, cloisterlaw26_vast.f k evs = some false) (t : ByteArray) (cd : Int) (hp : printS (l0, l1, l2, evs) = (t, cd)) (hcd : 0 ≤ cd ∧ cd ≤ 1000) :
 Calls Tryz.prog 3 #[.agg #[.slice A0 l0.length c0, .slice A1 l1.length c1, .slice A2 l2.length c2], .slice A3 evs.length c3] w fun e w' => e = .returned (.bool true) ∧ Below w.heap.size w w' := by
 have HE := am_ hE
 have H0 := am_ h0
 have H1 := am_ h1
 have H2 := am_ h2
 have H3 := am_ h3
 have HC3 := am_ hc3
 have HOK := am_ ok
 have HV := am_ hv
 have HP := am_ hp
 have hcd0 := hcd.1
 have hcd1 := hcd.2
 clear hE h0 h1 h2 h3 hc3 ok hv hp hcd
 obtain ⟨W, hW⟩ : ∃ W, w.alloc (.cells #[.slice A0 l0.length c0, .slice A1 l1.length c1, .slice A2 l2.length c2] 26) = W := ⟨_, rfl⟩
 have HB := am_ (show Below w.heap.size w W by rw [← hW]; exact b1_ (Below.refl _ _) _)
 have X := am_ (show W.heap[w.heap.size]? = some (.cells #[.slice A0 l0.length c0, .slice A1 l1.length c1, .slice A2 l2.length c2] 26) by rw [← hW]; exact wld.alloc_same _ _)
 have HW := am_ hW
 clear hW
 obtain ⟨kv, hkv⟩ := HV.out
 have HKV := am_ hkv
 clear hkv HV
 go_enter Tryz.func3, Tryz.ntmps3
 go_wp2_with fail
 rw [HW.out]
 refine (cloisterlaw26_vast.calls kv A3 c3 evs false W (Kd.C_below H3.out HB.out) HC3.out HKV.out).mono ?_
 rintro e w1 ⟨rfl, hb1⟩
 replace HB := am_ (below_step HB.out hb1)
 replace X := am_ ((hb1.block _ (blk_lt X.out)).trans X.out)
 clear hb1 HW HKV
 have x0 := wld.cell_of (o := 0) (v := .slice A0 l0.length c0) X.out rfl
 have x1 := wld.cell_of (o := 1) (v := .slice A1 l1.length c1) X.out rfl
 have x2 := wld.cell_of (o := 2) (v := .slice A2 l2.length c2) X.out rfl
 go_wp2_with fail
 have HPR := am_ (rprint_calls A0 c0 l0 A1 c1 l1 A2 c2 l2 A3 c3 evs w1 (HE.out.below HB.out) (Kd.C_below H0.out HB.out) (Kd.C_below H1.out HB.out) (Kd.C_below H2.out HB.out) (Kd.C_below H3.out HB.out) HOK.out)
 rw [HP.out] at HPR
 refine HPR.out.mono ?_
 clear x0 x1 x2 HPR
 rintro e w2 ⟨rfl, hb2⟩
 replace HB := am_ (below_step HB.out hb2)
 replace X := am_ ((hb2.block _ (blk_lt X.out)).trans X.out)
 clear hb2
 have x0 := wld.cell_of (o := 0) (v := .slice A0 l0.length c0) X.out rfl
 have x1 := wld.cell_of (o := 1) (v := .slice A1 l1.length c1) X.out rfl
 have x2 := wld.cell_of (o := 2) (v := .slice A2 l2.length c2) X.out rfl
 go_wp2_with fail
 have HPR := am_ (print_calls A0 c0 l0 A1 c1 l1 A2 c2 l2 A3 c3 evs w2 (HE.out.below HB.out) (Kd.C_below H0.out HB.out) (Kd.C_below H1.out HB.out) (Kd.C_below H2.out HB.out) (Kd.C_below H3.out HB.out) HOK.out)
 rw [HP.out] at HPR
 refine HPR.out.mono ?_
 clear x0 x1 x2 HPR
 rintro e w3 ⟨rfl, hb3⟩
 replace HB := am_ (below_step HB.out hb3)
 clear hb3 X
 go_wp2_with fail
 refine (fixed_calls w3 (HE.out.below HB.out)).mono ?_
 rintro e w4 ⟨rfl, hb4⟩
 replace HB := am_ (below_step HB.out hb4)
 clear hb4
 go_wp2_with fail
 go_ret
 exact ⟨rfl, HB.out⟩
end Go.Proofs.YtndbbgihpoiojaaGreatDoor.Q
namespace Go.Proofs.YtndbbgihpoiojaaGreatDoor.sc
open Go.RowKit
theorem qt_ind {P : List UInt8 → Prop} (h0 : P []) (hs : ∀ l, l ≠ [] → P (l.drop (Lib.decodeL l).2) → P l) : ∀ l, P l := by
 have : ∀ (n : Nat) (l : List UInt8), l.length ≤ n → P l := by
  intro n
  induction n with
  | zero =>
   intro l h
   have : l = [] := List.length_eq_zero_iff.1 (by omega)
   rw [this]; exact h0
  | succ n ih =>
   intro l h
   by_cases hne : l = []
   · rw [hne]; exact h0
   have hw := width_posL l
   have hp := List.length_pos_iff.2 hne
   exact hs l hne (ih _ (by rw [List.length_drop]; omega))
 exact fun l => this l.length l (Nat.le_refl _)
theorem quoteL_eq (l : List UInt8) : quoteL l = 34 :: (qt l ++ [34]) := rfl
theorem quote_len (l : List UInt8) : (quoteL l).length = (qt l).length + 2 := by rw [quoteL_eq]; simp
end Go.Proofs.YtndbbgihpoiojaaGreatDoor.sc
namespace Go.Proofs.YtndbbgihpoiojaaGreatDoor.Q
open Go.RowKit
def FatesOK (st : List (List S66)) : Prop := ∀ l ∈ st, ∀ f ∈ l, FateOK f
def EvRg (x : S52) : Prop := sc.InInt x.f1 ∧ sc.InInt x.f2.f1.f0 ∧ sc.InInt x.f2.f1.f1 ∧ sc.InInt x.f2.f2 ∧ sc.InInt x.f2.f6 ∧ sc.InInt x.f3 ∧ (∀ v ∈ x.f2.f5, 0 ≤ v ∧ v ≤ 255) ∧ FatesOK x.f4
theorem joinB_data (ws : List ByteArray) (c : UInt8) : (joinB ws ⟨#[c]⟩).data.toList = Lib.join (ws.map (·.data.toList)) [c] := rfl
def jl (ws : List (List UInt8)) : Nat := (ws.map fun x => x.length + 1).sum
theorem jl_cons (x : List UInt8) (r : List (List UInt8)) : jl (x :: r) = x.length + 1 + jl r := by unfold jl; rw [List.map_cons, List.sum_cons]
theorem join_jl (c : UInt8) : ∀ (ws : List (List UInt8)), ws ≠ [] → (Lib.join ws [c]).length + 1 = jl ws
 | [], h => absurd rfl h
 | [x], _ => by rw [Lib.join_one, jl_cons]; simp [jl]
 | x :: y :: r, _ => by
  have ih := join_jl c (y :: r) (by simp)
  rw [Lib.join_cons] at ih ⊢
  rw [jl_cons, ← ih]
  unfold Lib.joinTail
  simp
  omega
end Go.Proofs.YtndbbgihpoiojaaGreatDoor.Q
