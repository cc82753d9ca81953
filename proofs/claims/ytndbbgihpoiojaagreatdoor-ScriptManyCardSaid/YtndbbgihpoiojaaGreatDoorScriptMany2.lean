/- Script: texts merged, part 2: cut to what the claim uses. -/
import Derived.Test.YtndbbgihpoiojaaGreatDoorScriptMany1
set_option linter.unusedVariables false
set_option linter.unusedSimpArgs false
set_option maxRecDepth 100000
set_option maxHeartbeats 8000000
namespace Go.Proofs.YtndbbgihpoiojaaGreatDoor.Q
open Go.RowKit Go.Proofs.YtndbbgihpoiojaaGreatDoorW.PrintWords Go.Proofs.YtndbbgihpoiojaaGreatDoorW.PrintLast Go.Proofs.YtndbbgihpoiojaaGreatDoorW.PrintMore
attribute [local go_sem] max2_int min2_int max_two min_two max_three min_three max_four min_four   -- for this text's walks alone
mutual
def cloisterref26_Quote.l0 : Nat → ByteArray → List Int → Option (ByteArray)
 | 0, _, _ => none
 | k + 1, x0, x3 => if (x0.size : Int) > 0 then ((utf8_DecodeRuneInString.f x0).bind fun bt204 => (if bt204.1 = 65533 then (cloisterref26_Quote.j1 k x0 x3 bt204.1 bt204.2 (decide (bt204.2 > 1))) else (cloisterref26_Quote.j1 k x0 x3 bt204.1 bt204.2 true))) else (if x3.length < 140737488355328 then (some (strOfNums (x3 ++ [34]))) else (none))
def cloisterref26_Quote.j1 : Nat → ByteArray → List Int → Int → Int → Bool → Option (ByteArray)
 | 0, _, _, _, _, _ => none
 | k + 1, x0, x3, x4, x5, x6 => if x6 = true then (if x4 ≥ 33 then (if x4 ≤ 126 then (if x4 = 34 then (cloisterref26_Quote.j2 k x0 x3 x5 (decide (x4 ≥ 161))) else (if x4 = 37 then (cloisterref26_Quote.j2 k x0 x3 x5 (decide (x4 ≥ 161))) else (cloisterref26_Quote.j2 k x0 x3 x5 true))) else (cloisterref26_Quote.j2 k x0 x3 x5 (decide (x4 ≥ 161)))) else (cloisterref26_Quote.j2 k x0 x3 x5 (decide (x4 ≥ 161)))) else (cloisterref26_Quote.j2 k x0 x3 x5 false)
def cloisterref26_Quote.j2 : Nat → ByteArray → List Int → Int → Bool → Option (ByteArray)
 | 0, _, _, _, _ => none
 | k + 1, x0, x3, x5, x43 => if x43 = true then (if 0 ≤ x5 then (if x5 ≤ (x0.size : Int) then (if x3.length + (x0.extract 0 (x5 : Int).toNat).size < 140737488355328 then (cloisterref26_Quote.l0 k (x0.extract (x5 : Int).toNat x0.size) (x3 ++ bytesOf (x0.extract 0 (x5 : Int).toNat))) else (none)) else (none)) else (none)) else (cloisterref26_Quote.l1 k x0 x3 x5 0)
def cloisterref26_Quote.l1 : Nat → ByteArray → List Int → Int → Int → Option (ByteArray)
 | 0, _, _, _, _ => none
 | k + 1, x0, x3, x5, x7 => if x7 < x5 then (if 0 ≤ x7 then (if x7 < (x0.size : Int) then (if 0 ≤ ((Int.tdiv (bt x0 x7) 16) % 256) then (if ((Int.tdiv (bt x0 x7) 16) % 256) < 16 then (if 0 ≤ (Int.tmod (bt x0 x7) 16) then (if (Int.tmod (bt x0 x7) 16) < 16 then ((some (([37, bt (⟨#[48, 49, 50, 51, 52, 53, 54, 55, 56, 57, 65, 66, 67, 68, 69, 70]⟩ : ByteArray) ((Int.tdiv (bt x0 x7) 16) % 256), bt (⟨#[48, 49, 50, 51, 52, 53, 54, 55, 56, 57, 65, 66, 67, 68, 69, 70]⟩ : ByteArray) (Int.tmod (bt x0 x7) 16)] : List Int) : List Int)).bind fun y209 => (if x3.length + y209.length < 140737488355328 then (cloisterref26_Quote.l1 k x0 (x3 ++ y209) x5 (wrap64 (x7 + 1))) else (none))) else (none)) else (none)) else (none)) else (none)) else (none)) else (none)) else (if 0 ≤ x5 then (if x5 ≤ (x0.size : Int) then (cloisterref26_Quote.l0 k (x0.extract (x5 : Int).toNat x0.size) x3) else (none)) else (none))
end
def cloisterref26_Quote.f (k : Nat) (a0 : ByteArray) : Option (ByteArray) := cloisterref26_Quote.l0 k a0 (([34] : List Int))
theorem cloisterref26_Quote.mono_l : ∀ k, (∀ y0 y1, LeO (cloisterref26_Quote.l0 k y0 y1) (cloisterref26_Quote.l0 (k + 1) y0 y1)) ∧ (∀ y0 y1 y2 y3 y4, LeO (cloisterref26_Quote.j1 k y0 y1 y2 y3 y4) (cloisterref26_Quote.j1 (k + 1) y0 y1 y2 y3 y4)) ∧ (∀ y0 y1 y2 y3, LeO (cloisterref26_Quote.j2 k y0 y1 y2 y3) (cloisterref26_Quote.j2 (k + 1) y0 y1 y2 y3)) ∧ (∀ y0 y1 y2 y3, LeO (cloisterref26_Quote.l1 k y0 y1 y2 y3) (cloisterref26_Quote.l1 (k + 1) y0 y1 y2 y3))
 | 0 => ⟨fun _ _ r h => by simp [cloisterref26_Quote.l0] at h, fun _ _ _ _ _ r h => by simp [cloisterref26_Quote.j1] at h, fun _ _ _ _ r h => by simp [cloisterref26_Quote.j2] at h, fun _ _ _ _ r h => by simp [cloisterref26_Quote.l1] at h⟩
 | k + 1 => by
  obtain ⟨ih0, ih1, ih2, ih3⟩ := cloisterref26_Quote.mono_l k
  refine ⟨?_, ?_, ?_, ?_⟩
  · intro y0 y1
    unfold cloisterref26_Quote.l0
    repeat' first
    | (with_reducible exact ih0 _ _)
    | (with_reducible exact ih1 _ _ _ _ _)
    | (with_reducible exact ih2 _ _ _ _)
    | (with_reducible exact ih3 _ _ _ _)
    | (with_reducible exact LeO.refl _)
    | (with_reducible exact LeO.none _)
    | (with_reducible refine LeO.ite ?_ ?_)
    | (with_reducible refine LeO.bind ?_ (fun _ => ?_))
    | exact ih0 _ _
    | exact ih1 _ _ _ _ _
    | exact ih2 _ _ _ _
    | exact ih3 _ _ _ _
    | exact LeO.none _
    | refine LeO.ite ?_ ?_
    | refine LeO.bind ?_ (fun _ => ?_)
  · intro y0 y1 y2 y3 y4
    unfold cloisterref26_Quote.j1
    repeat' first
    | (with_reducible exact ih0 _ _)
    | (with_reducible exact ih1 _ _ _ _ _)
    | (with_reducible exact ih2 _ _ _ _)
    | (with_reducible exact ih3 _ _ _ _)
    | (with_reducible exact LeO.refl _)
    | (with_reducible exact LeO.none _)
    | (with_reducible refine LeO.ite ?_ ?_)
    | (with_reducible refine LeO.bind ?_ (fun _ => ?_))
    | exact ih0 _ _
    | exact ih1 _ _ _ _ _
    | exact ih2 _ _ _ _
    | exact ih3 _ _ _ _
    | exact LeO.none _
    | refine LeO.ite ?_ ?_
    | refine LeO.bind ?_ (fun _ => ?_)
  · intro y0 y1 y2 y3
    unfold cloisterref26_Quote.j2
    repeat' first
    | (with_reducible exact ih0 _ _)
    | (with_reducible exact ih1 _ _ _ _ _)
    | (with_reducible exact ih2 _ _ _ _)
    | (with_reducible exact ih3 _ _ _ _)
    | (with_reducible exact LeO.refl _)
    | (with_reducible exact LeO.none _)
    | (with_reducible refine LeO.ite ?_ ?_)
    | (with_reducible refine LeO.bind ?_ (fun _ => ?_))
    | exact ih0 _ _
    | exact ih1 _ _ _ _ _
    | exact ih2 _ _ _ _
    | exact ih3 _ _ _ _
    | exact LeO.none _
    | refine LeO.ite ?_ ?_
    | refine LeO.bind ?_ (fun _ => ?_)
  intro y0 y1 y2 y3
  unfold cloisterref26_Quote.l1
  repeat' first
  | (with_reducible exact ih0 _ _)
  | (with_reducible exact ih1 _ _ _ _ _)
  | (with_reducible exact ih2 _ _ _ _)
  | (with_reducible exact ih3 _ _ _ _)
  | (with_reducible exact LeO.refl _)
  | (with_reducible exact LeO.none _)
  | (with_reducible refine LeO.ite ?_ ?_)
  | (with_reducible refine LeO.bind ?_ (fun _ => ?_))
  | exact ih0 _ _
  | exact ih1 _ _ _ _ _
  | exact ih2 _ _ _ _
  | exact ih3 _ _ _ _
  | exact LeO.none _
  | refine LeO.ite ?_ ?_
  | refine LeO.bind ?_ (fun _ => ?_)
theorem cloisterref26_Quote.mono : ∀ a0 k, LeO (cloisterref26_Quote.f k a0) (cloisterref26_Quote.f (k + 1) a0) := by
 intro a0 k
 obtain ⟨ih0, ih1, ih2, ih3⟩ := cloisterref26_Quote.mono_l k
 unfold cloisterref26_Quote.f
 repeat' first
  | (with_reducible exact ih0 _ _)
  | (with_reducible exact ih1 _ _ _ _ _)
  | (with_reducible exact ih2 _ _ _ _)
  | (with_reducible exact ih3 _ _ _ _)
  | (with_reducible exact LeO.refl _)
  | (with_reducible exact LeO.none _)
  | (with_reducible refine LeO.ite ?_ ?_)
  | (with_reducible refine LeO.bind ?_ (fun _ => ?_))
  | exact ih0 _ _
  | exact ih1 _ _ _ _ _
  | exact ih2 _ _ _ _
  | exact ih3 _ _ _ _
  | exact LeO.none _
  | refine LeO.ite ?_ ?_
  | refine LeO.bind ?_ (fun _ => ?_)
def cloisterref26_Quote.T10 : Bool × List (List Nat × List Nat) := (true, [([], []), ([], []), ([], []), ([1, 2], [1, 2]), ([3], [3]), ([4], [4]), ([], []), ([], []), ([6, 7], [6, 7]), ([8], [8]), ([9], [9]), ([5, 10], [5, 10]), ([0, 11], [0, 11]), ([12, 12, 0, 1, 2, 3, 4, 5, 6, 7, 8, 9, 10, 11, 12], [0, 12])])
def cloisterref26_Quote.B10 : List Nat := [0, 0, 0, 6, 14, 30, 0, 0, 192, 448, 960, 2046, 4095, 8191]
theorem cloisterref26_Quote.tab10 : rtab .any (opsOf Tryz.f21 10) = cloisterref26_Quote.T10 := by kernel_rfl
theorem cloisterref26_Quote.bits10 : waitsOk cloisterref26_Quote.T10.2 cloisterref26_Quote.B10 = true := by kernel_rfl
theorem cloisterref26_Quote.calls (k : Nat) (a0 : ByteArray) (r : ByteArray) (w : World) (hE : sc.Env w) (h : cloisterref26_Quote.f k a0 = some r) :
 Calls Tryz.prog 21 #[.string a0] w fun e w' => e = .returned (.string r) ∧ Below w.heap.size w w' := by
 have HE := am_ hE
 clear hE
 have HB := am_ (Below.refl w.heap.size w)
 have H : (cloisterref26_Quote.l0 k a0 (([34] : List Int))) = some r := h
 clear h
 obtain ⟨y198, hy198⟩ : ∃ y_ : List Int, y_ = (([34] : List Int)) := ⟨_, rfl⟩
 replace H : (cloisterref26_Quote.l0 k a0 y198) = some r := by first | (rw [hy198]; with_reducible exact H) | (have H2_ := (Option.bind_some _ _).symm.trans H; rw [hy198]; with_reducible exact H2_) | (have H2_ := (Option.bind_some _ _).symm.trans H; with_reducible exact H2_) | with_reducible exact H | (rw [hy198]; exact H) | exact H
 have Ny198 := am_ hy198
 clear hy198
 have H' := am_ H
 clear H
 go_enter Tryz.func21, Tryz.ntmps21
 go_wp2_with (first | ((with_reducible refine gate_dst (N := 8) rfl ?_); refine Kd.R_lit (Kd.int .u8) _ 5 ?hg (N := 8) ?hd (xs := ([34] : List Int)) (inner := [.int .u8 34]) (ok := fun _ => True) (okp := fun _ => True) ?hr ?hp (fun _ hk => hk) trivial (Below.refl _ _) (Nat.le_refl _) (by simp) ?_; (case hd => rfl); (case hg => rfl); (case hr => first | (go_simp; done) | (go_simp; rfl)); (case hp => exact (Reps.one (show Kd.M (Kd.int .u8) _ _ _ 34 [.int .u8 34] from rfl) (Reps.none _ _))); intro v199 w2 ho3 hb hg_ hnew_; clear hg_ hnew_; (first | rw [← Ny198.out] at ho3 | (simp only [Int.reduceToNat] at ho3; rw [← Ny198.out] at ho3)); have HO200 := am_ (Kd.R_lower ho3 (below_size (cb_ HB))); replace HB := am_ (below_step (cb_ HB) hb); clear hb ho3))
 go_loopg [0, 3] k (fun kq v0 v3 w' => ∃ (x0_1 : ByteArray) (x3_1 : List Int), v0 = .string x0_1 ∧ Aside0 (cloisterref26_Quote.l0 kq x0_1 x3_1 = some r) ∧ Aside0 (kq ≤ k) ∧ Aside0 (Kd.R (Kd.int .u8) 5 w' w.heap.size (fun _ => True) v3 x3_1) ∧ Aside0 (Below w.heap.size w w'))
 case atStart => exact ⟨(a0), (y198), rf_, H', ⟨Nat.le_refl _⟩, cr_ HO200, ⟨cb_ HB⟩⟩
 case round =>
  clear H'
  try clear c2
  try clear p2
  obtain ⟨x0_1, x3_1, rfl, HA, HK1, HO_3, HB⟩ := hrel
  cases gk with
  | zero => exact absurd HA.out (by simp [cloisterref26_Quote.l0])
  | succ k1 =>
   have H := HA.out
   clear HA
   simp only [cloisterref26_Quote.l0] at H
   by_cases c4 : (x0_1.size : Int) > 0
   · rw [if_pos c4] at H
     have c4b0 : decide (0 < (x0_1.size : Int)) = true := decide_eq_true c4
     have c4b1 : decide (0 < x0_1.size) = true := decide_eq_true (by omega)
     clear c4
     replace H := Option.bind_eq_some_iff.mp H
     obtain ⟨⟨t204, t205⟩, A50, H⟩ := H
     replace H : (if t204 = 65533 then (cloisterref26_Quote.j1 k1 x0_1 x3_1 t204 t205 (decide (t205 > 1))) else (cloisterref26_Quote.j1 k1 x0_1 x3_1 t204 t205 true)) = some r := H
     have A5 := am_ A50
     clear A50
     have HC6 := am_ H
     clear H
     go_upto_region 4 with (first | ((with_reducible refine gate_callee (f := 36) rfl ?_); refine goesL_ (some 14) rfl rfl Tryz.func36 (by kernel_rfl) rfl #[.string x0_1] rfl ha_ ?_; (with_reducible refine (utf8_DecodeRuneInString.calls x0_1 t204 t205 _ ?side1 A5.out).mono ?_); (case side1 => exact sc.Env.below HE.out (cb_ HB)); rintro e w7 ⟨rfl, hb⟩; refine ⟨_, rfl, ?_⟩; replace HO_3 := am_ (Kd.R_below (cq_ HO_3) hb); replace HB := am_ (below_step (cb_ HB) hb); (try clear hb); (try clear hk)))
     (try simp only [Act.put, List.setIfInBounds_toArray, List.set_cons_zero, List.set_cons_succ])
     go_cut [6] (fun v6 wc => ∃ (kq : Nat) (x6_5 : Bool), v6 = .bool x6_5 ∧ Aside0 (cloisterref26_Quote.j1 kq x0_1 x3_1 t204 t205 x6_5 = some r) ∧ Aside0 (kq ≤ k1) ∧ Aside0 (Kd.R (Kd.int .u8) 5 wc w.heap.size (fun _ => True) u3 x3_1) ∧ Aside0 (Below w.heap.size w wc))
     case first =>
      have H := HC6.out
      clear HC6
      by_cases c8 : t204 = 65533
      · rw [if_pos c8] at H
        have c8b0 := eb_ c8
        have c8b1 := nb_ c8
        clear c8
        (first | rw [c8b0] | rw [c8b1] | rw [c8b2] | (simp only [i64_w, i32_w]; rw [c8b0]) | (simp only [i64_w, i32_w]; rw [c8b1]) | skip)
        have H' := am_ H
        clear H
        go_wp2
        go_meet
        case rel => exact ⟨_, (decide (t205 > 1)), rf_, H', ⟨by have := HK1.out; first | omega | exact Nat.le_refl _⟩, cr_ HO_3, ⟨cb_ HB⟩⟩
      rw [if_neg c8] at H
      have c8b0 := ec_ c8
      have c8b1 := nc_ c8
      (first | rw [c8b0] | rw [c8b1] | rw [c8b2] | (simp only [i64_w, i32_w]; rw [c8b0]) | (simp only [i64_w, i32_w]; rw [c8b1]) | skip)
      have H' := am_ H
      clear H
      go_wp2
      go_meet
      case rel => exact ⟨_, (true), rf_, H', ⟨by have := HK1.out; first | omega | exact Nat.le_refl _⟩, cr_ HO_3, ⟨cb_ HB⟩⟩
     case rest =>
      clear HC6
      try clear c2
      try clear p2
      try clear c3
      try clear c4
      try clear c4b0
      try clear c4b1
      try clear c8
      try clear c8b0
      try clear c8b1
      try clear c8b2
      try clear p2
      obtain ⟨kq, x6_5, rfl, HA, HJ5, HO_3, HB⟩ := hcut
      cases kq with
      | zero => exact absurd HA.out (by simp [cloisterref26_Quote.j1])
      | succ kj5 =>
       have H := HA.out
       clear HA
       simp only [cloisterref26_Quote.j1] at H
       have HC9 := am_ H
       clear H
       go_upto_region 5 with (fail)
       go_cut [43] (fun v43 wc => ∃ (kq : Nat) (x43_8 : Bool), v43 = .bool x43_8 ∧ Aside0 (cloisterref26_Quote.j2 kq x0_1 x3_1 t205 x43_8 = some r) ∧ Aside0 (kq ≤ kj5) ∧ Aside0 (Kd.R (Kd.int .u8) 5 wc w.heap.size (fun _ => True) u3 x3_1) ∧ Aside0 (Below w.heap.size w wc))
       case first =>
        have H := HC9.out
        clear HC9
        by_cases c10 : x6_5 = true
        · subst c10
          have H1 : (if t204 ≥ 33 then (if t204 ≤ 126 then (if t204 = 34 then (cloisterref26_Quote.j2 kj5 x0_1 x3_1 t205 (decide (t204 ≥ 161))) else (if t204 = 37 then (cloisterref26_Quote.j2 kj5 x0_1 x3_1 t205 (decide (t204 ≥ 161))) else (cloisterref26_Quote.j2 kj5 x0_1 x3_1 t205 true))) else (cloisterref26_Quote.j2 kj5 x0_1 x3_1 t205 (decide (t204 ≥ 161)))) else (cloisterref26_Quote.j2 kj5 x0_1 x3_1 t205 (decide (t204 ≥ 161)))) = some r := by rw [if_pos rfl] at H; exact H
          clear H
          have H := H1
          clear H1
          by_cases c11 : t204 ≥ 33
          · rw [if_pos c11] at H
            have c11b0 : decide (33 ≤ t204) = true := decide_eq_true c11
            clear c11
            (first | rw [c11b0] | rw [c11b1] | rw [c11b2] | (simp only [i64_w, i32_w]; rw [c11b0]) | (simp only [i64_w, i32_w]; rw [c11b1]) | skip)
            by_cases c12 : t204 ≤ 126
            · rw [if_pos c12] at H
              have c12b0 := decide_eq_true c12
              clear c12
              by_cases c13 : t204 = 34
              · rw [if_pos c13] at H
                have c13b0 := eb_ c13
                have c13b1 := nb_ c13
                clear c13
                have H' := am_ H
                clear H
                go_wp2
                go_meet
                case rel => exact ⟨_, (decide (t204 ≥ 161)), rf_, H', ⟨by have := HK1.out; have := HJ5.out; first | omega | exact Nat.le_refl _⟩, cr_ HO_3, ⟨cb_ HB⟩⟩
              rw [if_neg c13] at H
              have c13b0 := ec_ c13
              have c13b1 := nc_ c13
              by_cases c14 : t204 = 37
              · rw [if_pos c14] at H
                have c14b0 := eb_ c14
                have c14b1 := nb_ c14
                clear c14
                have H' := am_ H
                clear H
                go_wp2
                go_meet
                case rel => exact ⟨_, (decide (t204 ≥ 161)), rf_, H', ⟨by have := HK1.out; have := HJ5.out; first | omega | exact Nat.le_refl _⟩, cr_ HO_3, ⟨cb_ HB⟩⟩
              rw [if_neg c14] at H
              have c14b0 := ec_ c14
              have c14b1 := nc_ c14
              have H' := am_ H
              clear H
              go_wp2
              go_meet
              case rel => exact ⟨_, (true), rf_, H', ⟨by have := HK1.out; have := HJ5.out; first | omega | exact Nat.le_refl _⟩, cr_ HO_3, ⟨cb_ HB⟩⟩
            rw [if_neg c12] at H
            have c12b0 := decide_eq_false c12
            clear c12
            have H' := am_ H
            clear H
            go_wp2
            go_meet
            case rel => exact ⟨_, (decide (t204 ≥ 161)), rf_, H', ⟨by have := HK1.out; have := HJ5.out; first | omega | exact Nat.le_refl _⟩, cr_ HO_3, ⟨cb_ HB⟩⟩
          rw [if_neg c11] at H
          have c11b0 : decide (33 ≤ t204) = false := decide_eq_false c11
          clear c11
          (first | rw [c11b0] | rw [c11b1] | rw [c11b2] | (simp only [i64_w, i32_w]; rw [c11b0]) | (simp only [i64_w, i32_w]; rw [c11b1]) | skip)
          have H' := am_ H
          clear H
          go_wp2
          go_meet
          case rel => exact ⟨_, (decide (t204 ≥ 161)), rf_, H', ⟨by have := HK1.out; have := HJ5.out; first | omega | exact Nat.le_refl _⟩, cr_ HO_3, ⟨cb_ HB⟩⟩
        replace c10 := Bool.eq_false_iff.mpr c10
        subst c10
        have H1 : (cloisterref26_Quote.j2 kj5 x0_1 x3_1 t205 false) = some r := by rw [if_neg (show ¬ (false = true) by decide)] at H; exact H
        clear H
        have H := H1
        clear H1
        have H' := am_ H
        clear H
        go_wp2
        go_meet
        case rel => exact ⟨_, (false), rf_, H', ⟨by have := HK1.out; have := HJ5.out; first | omega | exact Nat.le_refl _⟩, cr_ HO_3, ⟨cb_ HB⟩⟩
       case rest =>
        clear HC9
        try clear c1
        try clear c2
        try clear p2
        try clear c3
        try clear c4
        try clear c4b0
        try clear c4b1
        try clear c8
        try clear c8b0
        try clear c8b1
        try clear c8b2
        try clear c10
        try clear c11
        try clear c11b0
        try clear c11b1
        try clear c11b2
        try clear c12
        try clear c12b0
        try clear c13
        try clear c13b0
        try clear c13b1
        try clear c14
        try clear c14b0
        try clear c14b1
        try clear p2
        obtain ⟨kq, x43_8, rfl, HA, HJ8, HO_3, HB⟩ := hcut
        cases kq with
        | zero => exact absurd HA.out (by simp [cloisterref26_Quote.j2])
        | succ kj8 =>
         have H := HA.out
         clear HA
         simp only [cloisterref26_Quote.j2] at H
         by_cases c15 : x43_8 = true
         · subst c15
           have H1 : (if 0 ≤ t205 then (if t205 ≤ (x0_1.size : Int) then (if x3_1.length + (x0_1.extract 0 (t205 : Int).toNat).size < 140737488355328 then (cloisterref26_Quote.l0 kj8 (x0_1.extract (t205 : Int).toNat x0_1.size) (x3_1 ++ bytesOf (x0_1.extract 0 (t205 : Int).toNat))) else (none)) else (none)) else (none)) = some r := by rw [if_pos rfl] at H; exact H
           clear H
           have H := H1
           clear H1
           by_cases c16 : 0 ≤ t205
           · rw [if_pos c16] at H
             have c16b0 := eq_true c16
             have c16b1 := decide_eq_true c16
             clear c16
             by_cases c17 : t205 ≤ (x0_1.size : Int)
             · rw [if_pos c17] at H
               have c17b0 := eq_true c17
               have c17b1 := decide_eq_true c17
               clear c17
               by_cases c18 : x3_1.length + (x0_1.extract 0 (t205 : Int).toNat).size < 140737488355328
               · rw [if_pos c18] at H
                 have LMc18 := am_ c18
                 clear c18
                 obtain ⟨y206, hy206⟩ : ∃ y_ : List Int, y_ = (x3_1 ++ bytesOf (x0_1.extract 0 (t205 : Int).toNat)) := ⟨_, rfl⟩
                 replace H : (cloisterref26_Quote.l0 kj8 (x0_1.extract (t205 : Int).toNat x0_1.size) y206) = some r := by first | (rw [hy206]; with_reducible exact H) | (have H2_ := (Option.bind_some _ _).symm.trans H; rw [hy206]; with_reducible exact H2_) | (have H2_ := (Option.bind_some _ _).symm.trans H; with_reducible exact H2_) | with_reducible exact H | (rw [hy206]; exact H) | exact H
                 have Ny206 := am_ hy206
                 clear hy206
                 have c19b0 := eq_true (od_ : 0 ≤ t205)
                 have c20b0 := eq_true (od_ : t205 ≤ (x0_1.size : Int))
                 have H' := am_ H
                 clear H
                 go_wp2_with (first | (at_builtin; refine print_append_str (w0 := w) w.heap.size rfl (.tmp 44) _ 38 9 5 rfl Tryz.underlying38 Tryz.underlying9 info5 u3 x3_1 (x0_1.extract 0 (t205 : Int).toNat) rfl rfl ?aO ?aB ?aS ?aL ?_; (case aB => exact (cb_ HB)); (case aO => exact (Kd.own_of_R (cq_ HO_3))); (case aS => exact (below_size (cb_ HB))); (case aL => have := LMc18.out; omega); intro v207 w21 ho0 hb hg; have ho := Kd.R_of_own (h1 := fun _ => rfl) (ok := fun _ => True) ho0 (fun _ _ => trivial); clear ho0; have hat := True.intro; rw [← Ny206.out] at ho; change Kd.R (Kd.int .u8) 5 w21 w.heap.size (fun _ => True) v207 y206 at ho; replace HB := am_ (hb); have HO208 := am_ (ho); clear HO_3; clear ho hb hg hat))
                 go_roundg kj8
                 case measure => have := HK1.out; have := HJ5.out; have := HJ8.out; omega
                 case rel => exact ⟨(x0_1.extract (t205 : Int).toNat x0_1.size), (y206), rf_, H', ⟨by have := HK1.out; have := HJ5.out; have := HJ8.out; omega⟩, cr_ HO208, ⟨cb_ HB⟩⟩
               rw [if_neg c18] at H
               exact absurd H (by simp)
             rw [if_neg c17] at H
             exact absurd H (by simp)
           rw [if_neg c16] at H
           exact absurd H (by simp)
         replace c15 := Bool.eq_false_iff.mpr c15
         subst c15
         have H1 : (cloisterref26_Quote.l1 kj8 x0_1 x3_1 t205 0) = some r := by rw [if_neg (show ¬ (false = true) by decide)] at H; exact H
         clear H
         have H := H1
         clear H1
         have H' := am_ H
         clear H
         go_wp2
         go_loopg [3, 7] kj8 (fun kq v3 v7 w' => ∃ (x3_4 : List Int) (x7_4 : Int), v7 = .int .i64 x7_4 ∧ Aside0 (cloisterref26_Quote.l1 kq x0_1 x3_4 t205 x7_4 = some r) ∧ Aside0 (kq ≤ kj8) ∧ Aside0 (Kd.R (Kd.int .u8) 5 w' w.heap.size (fun _ => True) v3 x3_4) ∧ Aside0 (Below w.heap.size w w'))
         case atStart => exact ⟨(x3_1), (0), rf_, H', ⟨Nat.le_refl _⟩, cr_ HO_3, ⟨cb_ HB⟩⟩
         case round =>
          clear H'
          try clear c1
          try clear c2
          try clear p2
          try clear c3
          try clear c4
          try clear c4b0
          try clear c4b1
          try clear c8
          try clear c8b0
          try clear c8b1
          try clear c8b2
          try clear c10
          try clear c11
          try clear c11b0
          try clear c11b1
          try clear c11b2
          try clear c12
          try clear c12b0
          try clear c13
          try clear c13b0
          try clear c13b1
          try clear c14
          try clear c14b0
          try clear c14b1
          try clear c15
          try clear c16
          try clear c16b0
          try clear c16b1
          try clear c17
          try clear c17b0
          try clear c17b1
          try clear c18
          try clear c19
          try clear c19b0
          try clear c20
          try clear c20b0
          try clear c21
          try clear p2
          obtain ⟨x3_4, x7_4, rfl, HA, HK4, HO_3, HB⟩ := hrel
          cases gk with
          | zero => exact absurd HA.out (by simp [cloisterref26_Quote.l1])
          | succ k4 =>
           have H := HA.out
           clear HA
           simp only [cloisterref26_Quote.l1] at H
           by_cases c22 : x7_4 < t205
           · rw [if_pos c22] at H
             have c22b0 := decide_eq_true c22
             clear c22
             by_cases c23 : 0 ≤ x7_4
             · rw [if_pos c23] at H
               have c23b0 := decide_eq_true c23
               clear c23
               by_cases c24 : x7_4 < (x0_1.size : Int)
               · rw [if_pos c24] at H
                 have c24b0 := decide_eq_true c24
                 clear c24
                 obtain ⟨ji26, hji26⟩ : ∃ j_ : Int, ((Int.tdiv (bt x0_1 x7_4) 16) % 256) = j_ := ⟨_, rfl⟩
                 replace H : (if 0 ≤ (ji26) then (if (ji26) < 16 then (if 0 ≤ (Int.tmod (bt x0_1 x7_4) 16) then (if (Int.tmod (bt x0_1 x7_4) 16) < 16 then ((some (([37, bt (⟨#[48, 49, 50, 51, 52, 53, 54, 55, 56, 57, 65, 66, 67, 68, 69, 70]⟩ : ByteArray) (ji26), bt (⟨#[48, 49, 50, 51, 52, 53, 54, 55, 56, 57, 65, 66, 67, 68, 69, 70]⟩ : ByteArray) (Int.tmod (bt x0_1 x7_4) 16)] : List Int) : List Int)).bind fun y209 => (if x3_4.length + y209.length < 140737488355328 then (cloisterref26_Quote.l1 k4 x0_1 (x3_4 ++ y209) t205 (wrap64 (x7_4 + 1))) else (none))) else (none)) else (none)) else (none)) else (none)) = some r := by first | (rw [hji26] at H; exact H) | (simp only [hji26] at H ⊢; exact H)
                 have hji26w : (IntKind.u8.wrap (Int.tdiv (bt x0_1 x7_4) 16)) = ji26 := (IntKind.wrap_u8 _).trans hji26
                 by_cases c27 : 0 ≤ (ji26)
                 · rw [if_pos c27] at H
                   have c27b0 := decide_eq_true c27
                   clear c27
                   by_cases c28 : (ji26) < 16
                   · rw [if_pos c28] at H
                     have c28b0 := decide_eq_true c28
                     clear c28
                     obtain ⟨ji31, hji31⟩ : ∃ j_ : Int, (Int.tmod (bt x0_1 x7_4) 16) = j_ := ⟨_, rfl⟩
                     replace H : (if 0 ≤ (ji31) then (if (ji31) < 16 then ((some (([37, bt (⟨#[48, 49, 50, 51, 52, 53, 54, 55, 56, 57, 65, 66, 67, 68, 69, 70]⟩ : ByteArray) (ji26), bt (⟨#[48, 49, 50, 51, 52, 53, 54, 55, 56, 57, 65, 66, 67, 68, 69, 70]⟩ : ByteArray) (ji31)] : List Int) : List Int)).bind fun y209 => (if x3_4.length + y209.length < 140737488355328 then (cloisterref26_Quote.l1 k4 x0_1 (x3_4 ++ y209) t205 (wrap64 (x7_4 + 1))) else (none))) else (none)) else (none)) = some r := by first | (rw [hji31] at H; exact H) | (simp only [hji31] at H ⊢; exact H)
                     by_cases c32 : 0 ≤ (ji31)
                     · rw [if_pos c32] at H
                       have c32b0 := decide_eq_true c32
                       clear c32
                       by_cases c33 : (ji31) < 16
                       · rw [if_pos c33] at H
                         have c33b0 := decide_eq_true c33
                         clear c33
                         obtain ⟨y209, hy209⟩ : ∃ y_ : List Int, y_ = (([37, bt (⟨#[48, 49, 50, 51, 52, 53, 54, 55, 56, 57, 65, 66, 67, 68, 69, 70]⟩ : ByteArray) (ji26), bt (⟨#[48, 49, 50, 51, 52, 53, 54, 55, 56, 57, 65, 66, 67, 68, 69, 70]⟩ : ByteArray) (ji31)] : List Int)) := ⟨_, rfl⟩
                         replace H : (if x3_4.length + y209.length < 140737488355328 then (cloisterref26_Quote.l1 k4 x0_1 (x3_4 ++ y209) t205 (wrap64 (x7_4 + 1))) else (none)) = some r := by first | (rw [hy209]; with_reducible exact H) | (have H2_ := (Option.bind_some _ _).symm.trans H; rw [hy209]; with_reducible exact H2_) | (have H2_ := (Option.bind_some _ _).symm.trans H; with_reducible exact H2_) | with_reducible exact H | (rw [hy209]; exact H) | exact H
                         have Ny209 := am_ hy209
                         clear hy209
                         by_cases c35 : x3_4.length + y209.length < 140737488355328
                         · rw [if_pos c35] at H
                           have LMc35 := am_ c35
                           clear c35
                           obtain ⟨y212, hy212⟩ : ∃ y_ : List Int, y_ = (x3_4 ++ y209) := ⟨_, rfl⟩
                           replace H : (cloisterref26_Quote.l1 k4 x0_1 y212 t205 (wrap64 (x7_4 + 1))) = some r := by first | (rw [hy212]; with_reducible exact H) | (have H2_ := (Option.bind_some _ _).symm.trans H; rw [hy212]; with_reducible exact H2_) | (have H2_ := (Option.bind_some _ _).symm.trans H; with_reducible exact H2_) | with_reducible exact H | (rw [hy212]; exact H) | exact H
                           have Ny212 := am_ hy212
                           clear hy212
                           have H' := am_ H
                           clear H
                           try go_wp2
                           replace HO_3 := am_ (r3_ HO_3.out)
                           replace HB := am_ (b3_ HB.out)
                           have p25 : 0 ≤ (x7_4 : Int) := od_
                           have q25 : x7_4 < (x0_1.size : Int) := od_
                           have hx25 := bt_at x0_1 x7_4
                           replace p25 := eq_true p25
                           replace q25 := eq_true q25
                           have p29 : 0 ≤ ((ji26) : Int) := od_
                           have q29 : (ji26) < (16 : Int) := od_
                           have hx29 := bt_at (⟨#[48, 49, 50, 51, 52, 53, 54, 55, 56, 57, 65, 66, 67, 68, 69, 70]⟩ : ByteArray) (ji26)
                           replace p29 := eq_true p29
                           replace q29 := eq_true q29
                           have p30 : 0 ≤ (x7_4 : Int) := od_
                           have q30 : x7_4 < (x0_1.size : Int) := od_
                           have hx30 := bt_at x0_1 x7_4
                           replace p30 := eq_true p30
                           replace q30 := eq_true q30
                           have p34 : 0 ≤ ((ji31) : Int) := od_
                           have q34 : (ji31) < (16 : Int) := od_
                           have hx34 := bt_at (⟨#[48, 49, 50, 51, 52, 53, 54, 55, 56, 57, 65, 66, 67, 68, 69, 70]⟩ : ByteArray) (ji31)
                           replace p34 := eq_true p34
                           replace q34 := eq_true q34
                           refine start_ (n := 14) (S := fun w' => True) (ds := []) (bs_ 14 0) (by kernel_rfl) rfl rfl trivial (fun hHeld => ?_); refine with_tabW cloisterref26_Quote.tab10 cloisterref26_Quote.bits10 (fun HT_ HW_ => ?_)
                           generalize wr.drew = w36 at HO_3 HB hHeld ⊢
                           refine pB_ HT_ 0 54 (bs_ 14 1) ?_
                           refine pB_ HT_ 1 55 (bs_ 14 3) ?_
                           refine pB_ HT_ 2 56 (bs_ 14 7) ?_
                           refine pB_ HT_ 6 60 (bs_ 14 71) ?_
                           refine pB_ HT_ 7 61 (bs_ 14 199) ?_
                           refine tB_ HT_ HW_ hHeld 3 57 (bs_ 14 207) ?_
                           refine pB_ HT_ 4 58 (bs_ 14 223) ?_
                           refine tB_ HT_ HW_ hHeld 5 59 (bs_ 14 255) ?_
                           refine tB_ HT_ HW_ hHeld 8 62 (bs_ 14 511) ?_
                           refine pB_ HT_ 9 63 (bs_ 14 1023) ?_
                           refine tB_ HT_ HW_ hHeld 10 64 (bs_ 14 2047) ?_
                           refine oB_ HT_ 11 65 (bs_ 14 4095) (fun K hK => ?_)
                           refine Kd.R_lit_step (Kd.int .u8) _ 5 ?hg (N := 65) ?hd (xs := ([37, bt (⟨#[48, 49, 50, 51, 52, 53, 54, 55, 56, 57, 65, 66, 67, 68, 69, 70]⟩ : ByteArray) (ji26), bt (⟨#[48, 49, 50, 51, 52, 53, 54, 55, 56, 57, 65, 66, 67, 68, 69, 70]⟩ : ByteArray) (ji31)] : List Int)) (inner := [.int .u8 37, .int .u8 (bt (⟨#[48, 49, 50, 51, 52, 53, 54, 55, 56, 57, 65, 66, 67, 68, 69, 70]⟩ : ByteArray) (ji26)), .int .u8 (bt (⟨#[48, 49, 50, 51, 52, 53, 54, 55, 56, 57, 65, 66, 67, 68, 69, 70]⟩ : ByteArray) (ji31))]) (ok := fun _ => True) (okp := fun _ => True) ?hr ?hp (fun _ hk => hk) trivial (Below.refl _ _) (Nat.le_refl _) (by simp) ?_; (case hd => rfl); (case hg => rfl); (case hr => first | (go_simp; done) | (go_simp; rfl)); (case hp => exact (Reps.one (show Kd.M (Kd.int .u8) _ _ _ 37 [.int .u8 37] from rfl) (Reps.one (show Kd.M (Kd.int .u8) _ _ _ (bt (⟨#[48, 49, 50, 51, 52, 53, 54, 55, 56, 57, 65, 66, 67, 68, 69, 70]⟩ : ByteArray) (ji26)) [.int .u8 (bt (⟨#[48, 49, 50, 51, 52, 53, 54, 55, 56, 57, 65, 66, 67, 68, 69, 70]⟩ : ByteArray) (ji26))] from rfl) (Reps.one (show Kd.M (Kd.int .u8) _ _ _ (bt (⟨#[48, 49, 50, 51, 52, 53, 54, 55, 56, 57, 65, 66, 67, 68, 69, 70]⟩ : ByteArray) (ji31)) [.int .u8 (bt (⟨#[48, 49, 50, 51, 52, 53, 54, 55, 56, 57, 65, 66, 67, 68, 69, 70]⟩ : ByteArray) (ji31))] from rfl) (Reps.none _ _)))))
                           intro v210 w37 ho38 hb hg_ hnew_
                           clear hg_ hnew_
                           (first | rw [← Ny209.out] at ho38 | (simp only [Int.reduceToNat] at ho38; rw [← Ny209.out] at ho38))
                           have HO211 := am_ (Kd.R_lower (Kd.R_new' ho38 (Kd.R_lt (cq_ HO_3))) (below_size (cb_ HB)))
                           replace HO_3 := am_ (Kd.R_elder' (cq_ HO_3) (Kd.R_base ho38) hb)
                           replace HB := am_ (below_step (cb_ HB) hb)
                           clear hb ho38
                           obtain ⟨Ao40, co40, eo40⟩ := Kd.R_slice HO211.out
                           (first | subst eo40 | (injection eo40 with f1_ f2_ f3_; have f4_ := f1_.symm; have f5_ := f3_.symm; clear f1_ f2_ f3_; subst f4_; subst f5_))
                           refine hK.out _ _ trivial (fun hHeld => ?_)
                           clear hK K
                           refine nA_ ?_
                           refine oB_ HT_ 12 66 (bs_ 14 8191) (fun K hK => ?_)
                           refine Kd.R_append_rows_step (Kd.int .u8) (w0 := w) w.heap.size (by rfl) (.tmp 54) (.tmp 65) 38 5 (.int .u8 0) 1 rfl Tryz.underlying38 info5 rfl (by decide) (by omega) u3 x3_4 y209 _ _ _ (fun k_ => some k_ ≠ (.slice Ao40 y209.length co40 : Value).ownBlock) (fun _ => False) rfl rfl ?aO ?aR (fun _ _ h => h) (fun _ h => h.elim) ?aF ?aB ?aS ?aL ?_
                           (case aR => repeat (first | exact (Kd.R_reads' HO211.out).2.2 | (with_reducible refine Kd.C_alloc ?_ _) | (with_reducible refine Kd.C_drewN ?_ _) | (with_reducible refine Kd.C_drew ?_)))
                           (case aB => exact (cb_ HB))
                           (case aF => exact (fun k_ hk => Kd.fresh' (Kd.R_lt (cq_ HO211)) k_ hk))
                           (case aO => exact (by (with_reducible repeat (first | apply r1_ | apply r2_ | apply r3_)); exact Kd.R_mono HO_3.out (fun _ hk => hk.2)))
                           (case aS => exact (below_size (cb_ HB)))
                           (case aL => have := LMc35.out; omega)
                           intro v213 w39 ho hb hg hat
                           rw [← Ny212.out] at ho
                           replace HO211 := am_ (Kd.R_after (ok := (fun _ => True)) (cq_ HO211) hg hat)
                           replace HB := am_ (hb)
                           have HO214 := am_ (ho)
                           clear HO_3
                           clear ho hb hg hat
                           refine hK.out _ _ trivial (fun hHeld => ?_)
                           clear hK K
                           refine nA_ ?_
                           refine pB_ HT_ 13 3 (bs_ 14 16383) ?_
                           refine done_ (done_of HT_.out (by kernel_rfl)) ?_
                           try go_wp2
                           go_roundg k4
                           case measure => have := HK1.out; have := HJ5.out; have := HJ8.out; have := HK4.out; omega
                           case rel => exact ⟨(y212), (wrap64 (x7_4 + 1)), rf_, H', ⟨by have := HK1.out; have := HJ5.out; have := HJ8.out; have := HK4.out; omega⟩, ⟨by (with_reducible repeat (first | apply r1_ | apply r2_ | apply r3_)); exact Kd.R_mono HO214.out (fun _ hk => trivial)⟩, ⟨cb_ HB⟩⟩
                         rw [if_neg c35] at H
                         exact absurd H (by simp)
                       rw [if_neg c33] at H
                       exact absurd H (by simp)
                     rw [if_neg c32] at H
                     exact absurd H (by simp)
                   rw [if_neg c28] at H
                   exact absurd H (by simp)
                 rw [if_neg c27] at H
                 exact absurd H (by simp)
               rw [if_neg c24] at H
               exact absurd H (by simp)
             rw [if_neg c23] at H
             exact absurd H (by simp)
           rw [if_neg c22] at H
           have c22b0 := decide_eq_false c22
           clear c22
           by_cases c41 : 0 ≤ t205
           · rw [if_pos c41] at H
             have c41b0 := eq_true c41
             have c41b1 := decide_eq_true c41
             clear c41
             by_cases c42 : t205 ≤ (x0_1.size : Int)
             · rw [if_pos c42] at H
               have c42b0 := eq_true c42
               have c42b1 := decide_eq_true c42
               clear c42
               have H' := am_ H
               clear H
               go_wp2
               go_roundg k4
               case measure => have := HK1.out; have := HJ5.out; have := HJ8.out; have := HK4.out; omega
               case rel => exact ⟨(x0_1.extract (t205 : Int).toNat x0_1.size), (x3_4), rf_, H', ⟨by have := HK1.out; have := HJ5.out; have := HJ8.out; have := HK4.out; omega⟩, cr_ HO_3, ⟨cb_ HB⟩⟩
             rw [if_neg c42] at H
             exact absurd H (by simp)
           rw [if_neg c41] at H
           exact absurd H (by simp)
   rw [if_neg c4] at H
   have c4b0 : decide (0 < (x0_1.size : Int)) = false := decide_eq_false c4
   have c4b1 : decide (0 < x0_1.size) = false := decide_eq_false (by omega)
   clear c4
   by_cases c43 : x3_1.length < 140737488355328
   · rw [if_pos c43] at H
     have LMc43 := am_ c43
     clear c43
     obtain ⟨y201, hy201⟩ : ∃ y_ : List Int, y_ = (x3_1 ++ [34]) := ⟨_, rfl⟩
     replace H : (some (strOfNums y201)) = some r := by first | (rw [hy201]; with_reducible exact H) | (have H2_ := (Option.bind_some _ _).symm.trans H; rw [hy201]; with_reducible exact H2_) | (have H2_ := (Option.bind_some _ _).symm.trans H; with_reducible exact H2_) | with_reducible exact H | (rw [hy201]; exact H) | exact H
     have Ny201 := am_ hy201
     clear hy201
     obtain rfl := Option.some.inj H
     go_wp2_with (first | ((with_reducible refine gate_builtin (b := .append) (xs := #[.tmp 70, .tmp 71]) rfl ?_); at_builtin; refine Kd.R_append (Kd.int .u8) (w0 := w) w.heap.size rfl (.tmp 70) (.tmp 71) 38 5 (.int .u8 0) 1 rfl Tryz.underlying38 info5 rfl (by decide) (by omega) u3 x3_1 34 [.int .u8 34] (fun _ => True) (fun _ => False) rfl rfl ?aP (fun _ hk => hk.elim) ?aF ?aO ?aB ?aS ?aL ?_; (case aP => exact rfl); (case aB => exact (cb_ HB)); (case aF => exact (fun _ _ => trivial)); (case aO => exact (cq_ HO_3)); (case aS => exact (below_size (cb_ HB))); (case aL => have := LMc43.out; omega); intro v202 w44 ho hb hg hat; rw [← Ny201.out] at ho; replace HB := am_ (hb); have HO203 := am_ (ho); clear HO_3; clear ho hb hg hat; have hcv45 := own_string (P := Tryz.prog) Tryz.underlying38 Tryz.underlying5 Tryz.underlying9 (Kd.own_of_R HO203.out)))
     go_ret
     exact ⟨re_, cb_ HB⟩
   rw [if_neg c43] at H
   exact absurd H (by simp)
theorem eqA37 (d : Nat) (w : World) (x0 y0 : Int) (x1 y1 : Int) :
 (Op.equalIn (d + 2) 37 (.agg #[.int .i64 x0, .int .i64 x1]) (.agg #[.int .i64 y0, .int .i64 y1])).run Tryz.prog w = .ok (x0 == y0 && (x1 == y1)) w := by
 refine eqA_of Tryz.underlying37 (by kernel_rfl) ?_
 refine eqf_cons (by rfl) (by go_simp; rfl) (by go_simp; rfl) (by go_simp) ?_
 exact eqf_last (by rfl) (by go_simp; rfl) (by go_simp; rfl) (by go_simp)
end Go.Proofs.YtndbbgihpoiojaaGreatDoor.Q
namespace Go.Proofs.YtndbbgihpoiojaaGreatDoor.Q
open Go.RowKit Go.Proofs.YtndbbgihpoiojaaGreatDoorW.PrintWords Go.Proofs.YtndbbgihpoiojaaGreatDoorW.PrintLast Go.Proofs.YtndbbgihpoiojaaGreatDoorW.PrintMore
attribute [local go_sem] max2_int min2_int max_two min_two max_three min_three max_four min_four   -- for this text's walks alone
attribute [local go_sem high] eqA37
def script_fate.f (a0 : ByteArray) : Option (Int × Int × Int × Bool) := (strings_Split.f a0 (⟨#[44]⟩ : ByteArray)).bind fun t628 => (if (t628.length : Int) = 3 then (if 0 < (t628.length : Int) then ((script_whole.f (rdOf ByteArray.empty t628 0)).bind fun bt632 => (if 1 < (t628.length : Int) then ((script_whole.f (rdOf ByteArray.empty t628 1)).bind fun bt635 => (if 2 < (t628.length : Int) then ((script_whole.f (rdOf ByteArray.empty t628 2)).bind fun bt638 => (if bt632.2 = true then (if bt635.2 = true then (if bt638.2 = true then (if bt638.1 ≥ 0 then (some (bt632.1, bt635.1, (bt638.1) % 256, decide (bt638.1 ≤ 255))) else (some (bt632.1, bt635.1, (bt638.1) % 256, false))) else (some (bt632.1, bt635.1, (bt638.1) % 256, false))) else (some (bt632.1, bt635.1, (bt638.1) % 256, false))) else (some (bt632.1, bt635.1, (bt638.1) % 256, false)))) else (none))) else (none))) else (none)) else (some (0, 0, 0, false)))
theorem script_fate.calls (a0 : ByteArray) (r1 : Int) (r2 : Int) (r3 : Int) (r4 : Bool) (w : World) (hE : sc.Env w) (h : script_fate.f a0 = some (r1, r2, r3, r4)) :
 Calls Tryz.prog 124 #[.string a0] w fun e w' => e = .returned (.tuple #[.agg #[.int .i64 r1, .int .i64 r2, .int .u8 r3], .bool r4]) ∧ Below w.heap.size w w' := by
 have hu66 := Tryz.underlying66
 have HE := am_ hE
 clear hE
 have HB := am_ (Below.refl w.heap.size w)
 have H : ((strings_Split.f a0 (⟨#[44]⟩ : ByteArray)).bind fun t628 => (if (t628.length : Int) = 3 then (if 0 < (t628.length : Int) then ((script_whole.f (rdOf ByteArray.empty t628 0)).bind fun bt632 => (if 1 < (t628.length : Int) then ((script_whole.f (rdOf ByteArray.empty t628 1)).bind fun bt635 => (if 2 < (t628.length : Int) then ((script_whole.f (rdOf ByteArray.empty t628 2)).bind fun bt638 => (if bt632.2 = true then (if bt635.2 = true then (if bt638.2 = true then (if bt638.1 ≥ 0 then (some (bt632.1, bt635.1, (bt638.1) % 256, decide (bt638.1 ≤ 255))) else (some (bt632.1, bt635.1, (bt638.1) % 256, false))) else (some (bt632.1, bt635.1, (bt638.1) % 256, false))) else (some (bt632.1, bt635.1, (bt638.1) % 256, false))) else (some (bt632.1, bt635.1, (bt638.1) % 256, false)))) else (none))) else (none))) else (none)) else (some (0, 0, 0, false)))) = some (r1, r2, r3, r4) := h
 clear h
 replace H := Option.bind_eq_some_iff.mp H
 obtain ⟨t628, A20, H⟩ := H
 have A2 := am_ A20
 clear A20
 by_cases c3 : (t628.length : Int) = 3
 · rw [if_pos c3] at H
   have c3b0 := eb_ c3
   have c3b1 := nb_ c3
   clear c3
   by_cases c4 : 0 < (t628.length : Int)
   · rw [if_pos c4] at H
     have c4b0 := decide_eq_true c4
     have c4b1 : decide (0 < t628.length) = true := decide_eq_true (by omega)
     clear c4
     replace H := Option.bind_eq_some_iff.mp H
     obtain ⟨⟨t632, t633⟩, A50, H⟩ := H
     replace H : (if 1 < (t628.length : Int) then ((script_whole.f (rdOf ByteArray.empty t628 1)).bind fun bt635 => (if 2 < (t628.length : Int) then ((script_whole.f (rdOf ByteArray.empty t628 2)).bind fun bt638 => (if t633 = true then (if bt635.2 = true then (if bt638.2 = true then (if bt638.1 ≥ 0 then (some (t632, bt635.1, (bt638.1) % 256, decide (bt638.1 ≤ 255))) else (some (t632, bt635.1, (bt638.1) % 256, false))) else (some (t632, bt635.1, (bt638.1) % 256, false))) else (some (t632, bt635.1, (bt638.1) % 256, false))) else (some (t632, bt635.1, (bt638.1) % 256, false)))) else (none))) else (none)) = some (r1, r2, r3, r4) := H
     have A5 := am_ A50
     clear A50
     by_cases c6 : 1 < (t628.length : Int)
     · rw [if_pos c6] at H
       have c6b0 := decide_eq_true c6
       have c6b1 : decide (1 < t628.length) = true := decide_eq_true (by omega)
       clear c6
       replace H := Option.bind_eq_some_iff.mp H
       obtain ⟨⟨t635, t636⟩, A70, H⟩ := H
       replace H : (if 2 < (t628.length : Int) then ((script_whole.f (rdOf ByteArray.empty t628 2)).bind fun bt638 => (if t633 = true then (if t636 = true then (if bt638.2 = true then (if bt638.1 ≥ 0 then (some (t632, t635, (bt638.1) % 256, decide (bt638.1 ≤ 255))) else (some (t632, t635, (bt638.1) % 256, false))) else (some (t632, t635, (bt638.1) % 256, false))) else (some (t632, t635, (bt638.1) % 256, false))) else (some (t632, t635, (bt638.1) % 256, false)))) else (none)) = some (r1, r2, r3, r4) := H
       have A7 := am_ A70
       clear A70
       by_cases c8 : 2 < (t628.length : Int)
       · rw [if_pos c8] at H
         have c8b0 := decide_eq_true c8
         have c8b1 : decide (2 < t628.length) = true := decide_eq_true (by omega)
         clear c8
         replace H := Option.bind_eq_some_iff.mp H
         obtain ⟨⟨t638, t639⟩, A90, H⟩ := H
         replace H : (if t633 = true then (if t636 = true then (if t639 = true then (if t638 ≥ 0 then (some (t632, t635, (t638) % 256, decide (t638 ≤ 255))) else (some (t632, t635, (t638) % 256, false))) else (some (t632, t635, (t638) % 256, false))) else (some (t632, t635, (t638) % 256, false))) else (some (t632, t635, (t638) % 256, false))) = some (r1, r2, r3, r4) := H
         have A9 := am_ A90
         clear A90
         by_cases c10 : t633 = true
         subst c10
         have H1 : (if t636 = true then (if t639 = true then (if t638 ≥ 0 then (some (t632, t635, (t638) % 256, decide (t638 ≤ 255))) else (some (t632, t635, (t638) % 256, false))) else (some (t632, t635, (t638) % 256, false))) else (some (t632, t635, (t638) % 256, false))) = some (r1, r2, r3, r4) := by rw [if_pos rfl] at H; exact H
         clear H
         have H := H1
         clear H1
         by_cases c11 : t636 = true
         subst c11
         have H1 : (if t639 = true then (if t638 ≥ 0 then (some (t632, t635, (t638) % 256, decide (t638 ≤ 255))) else (some (t632, t635, (t638) % 256, false))) else (some (t632, t635, (t638) % 256, false))) = some (r1, r2, r3, r4) := by rw [if_pos rfl] at H; exact H
         clear H
         have H := H1
         clear H1
         by_cases c12 : t639 = true
         subst c12
         have H1 : (if t638 ≥ 0 then (some (t632, t635, (t638) % 256, decide (t638 ≤ 255))) else (some (t632, t635, (t638) % 256, false))) = some (r1, r2, r3, r4) := by rw [if_pos rfl] at H; exact H
         clear H
         have H := H1
         clear H1
         by_cases c13 : t638 ≥ 0
         rw [if_pos c13] at H
         have c13b0 : decide (0 ≤ t638) = true := decide_eq_true c13
         clear c13
         rotate_left
         rw [if_neg c13] at H
         have c13b0 : decide (0 ≤ t638) = false := decide_eq_false c13
         clear c13
         rotate_left
         replace c12 := Bool.eq_false_iff.mpr c12
         subst c12
         have H1 : (some (t632, t635, (t638) % 256, false)) = some (r1, r2, r3, r4) := by rw [if_neg (show ¬ (false = true) by decide)] at H; exact H
         clear H
         have H := H1
         clear H1
         rotate_left
         replace c11 := Bool.eq_false_iff.mpr c11
         subst c11
         have H1 : (some (t632, t635, (t638) % 256, false)) = some (r1, r2, r3, r4) := by rw [if_neg (show ¬ (false = true) by decide)] at H; exact H
         clear H
         have H := H1
         clear H1
         rotate_left
         replace c10 := Bool.eq_false_iff.mpr c10
         subst c10
         have H1 : (some (t632, t635, (t638) % 256, false)) = some (r1, r2, r3, r4) := by rw [if_neg (show ¬ (false = true) by decide)] at H; exact H
         clear H
         have H := H1
         clear H1
         rotate_left
         all_goals
          simp only [Option.some.injEq, Prod.mk.injEq] at H
          obtain ⟨rfl, rfl, rfl, rfl⟩ := H
          go_enter Tryz.func124, Tryz.ntmps124
          try go_wp2_with (first | ((with_reducible refine gate_dst (N := 2) rfl ?_); refine box_event ?hg (N := 2) ?hd (cs := #[.int .i64 0, .int .i64 0, .int .u8 0]) (t := 66) ?hr ?_; (case hd => rfl); (case hg => rfl); (case hr => first | (go_simp; done) | (go_simp; rfl)); intro gb627 hg w14 hbox hb; have BK627 := am_ (hbox); have GW627 := am_ ((by rw [hg]; exact (below_size (cb_ HB)) : w.heap.size ≤ gb627)); have GE627 := am_ ((by rw [hg]; exact (below_size (cb_ HB)) : w.heap.size ≤ gb627)); replace HB := am_ (below_step (cb_ HB) hb); clear hb hbox hg) | ((with_reducible refine gate_callee (f := 135) rfl ?_); refine goesL_ (some 12) rfl rfl Tryz.func135 (by kernel_rfl) rfl #[.string a0, .string (⟨#[44]⟩ : ByteArray)] rfl ha_ ?_; (with_reducible refine (strings_Split.calls a0 (⟨#[44]⟩ : ByteArray) t628 _ ?side1 A2.out).mono ?_); (case side1 => exact sc.Env.below HE.out (cb_ HB)); rintro e w15 ⟨v629, rfl, ho0, hb⟩; refine ⟨_, rfl, ?_⟩; have HO630 := am_ (Kd.R_lower ho0 (below_size (cb_ HB))); replace BK627 := am_ (blk_below (cd_ BK627) hb); replace HB := am_ (below_step (cb_ HB) hb); (try clear hb); (try clear ho0); obtain ⟨Ao16, co16, eo16⟩ := Kd.R_slice HO630.out; subst eo16; have p631 : 0 ≤ (0 : Int) := (by omega); have q631 : 0 < (t628.length : Int) := od_; obtain ⟨ad631, e631, hx631_0⟩ := Kd.at_string (Kd.R_reads' HO630.out).2.2 0 p631 q631; cases e631; have qi631 : (0 < t628.length) = True := eq_true (by omega); (try rw [show ((0 : Int)).toNat = 0 from rfl] at hx631_0); (try rw [Addr.add_zero'] at hx631_0); replace p631 := eq_true p631; replace q631 := eq_true q631) | ((with_reducible refine gate_callee (f := 111) rfl ?_); refine goesL_ (some 21) rfl rfl Tryz.func111 (by kernel_rfl) rfl #[.string (rdOf ByteArray.empty t628 0)] rfl ha_ ?_; (with_reducible refine (script_whole.calls (rdOf ByteArray.empty t628 0) t632 _ _ ?side1 A5.out).mono ?_); (case side1 => exact sc.Env.below HE.out (cb_ HB)); rintro e w17 ⟨rfl, hb⟩; refine ⟨_, rfl, ?_⟩; replace HO630 := am_ (Kd.R_below (cq_ HO630) hb); replace BK627 := am_ (blk_below (cd_ BK627) hb); replace HB := am_ (below_step (cb_ HB) hb); (try clear hb); have p634 : 0 ≤ (1 : Int) := (by omega); have q634 : 1 < (t628.length : Int) := od_; obtain ⟨ad634, e634, hx634_0⟩ := Kd.at_string (Kd.R_reads' HO630.out).2.2 1 p634 q634; obtain rfl : ad631 = ad634 := (by injection e634); (try simp only [show (1 : Int).toNat = 1 from rfl, Nat.reduceMul, Nat.reduceEqDiff, Go.Addr.add, ↓reduceIte] at hx634_0); have qi634 : (1 < t628.length) = True := eq_true (by omega); (try rw [show ((1 : Int)).toNat = 1 from rfl] at hx634_0); replace p634 := eq_true p634; replace q634 := eq_true q634) | ((with_reducible refine gate_callee (f := 111) rfl ?_); refine goesL_ (some 28) rfl rfl Tryz.func111 (by kernel_rfl) rfl #[.string (rdOf ByteArray.empty t628 1)] rfl ha_ ?_; (with_reducible refine (script_whole.calls (rdOf ByteArray.empty t628 1) t635 _ _ ?side1 A7.out).mono ?_); (case side1 => exact sc.Env.below HE.out (cb_ HB)); rintro e w18 ⟨rfl, hb⟩; refine ⟨_, rfl, ?_⟩; replace HO630 := am_ (Kd.R_below (cq_ HO630) hb); replace BK627 := am_ (blk_below (cd_ BK627) hb); replace HB := am_ (below_step (cb_ HB) hb); (try clear hb); have p637 : 0 ≤ (2 : Int) := (by omega); have q637 : 2 < (t628.length : Int) := od_; obtain ⟨ad637, e637, hx637_0⟩ := Kd.at_string (Kd.R_reads' HO630.out).2.2 2 p637 q637; obtain rfl : ad631 = ad637 := (by injection e637); (try simp only [show (2 : Int).toNat = 2 from rfl, Nat.reduceMul, Nat.reduceEqDiff, Go.Addr.add, ↓reduceIte] at hx637_0); have qi637 : (2 < t628.length) = True := eq_true (by omega); (try rw [show ((2 : Int)).toNat = 2 from rfl] at hx637_0); replace p637 := eq_true p637; replace q637 := eq_true q637) | ((with_reducible refine gate_callee (f := 111) rfl ?_); refine goesL_ (some 35) rfl rfl Tryz.func111 (by kernel_rfl) rfl #[.string (rdOf ByteArray.empty t628 2)] rfl ha_ ?_; (with_reducible refine (script_whole.calls (rdOf ByteArray.empty t628 2) t638 _ _ ?side1 A9.out).mono ?_); (case side1 => exact sc.Env.below HE.out (cb_ HB)); rintro e w19 ⟨rfl, hb⟩; refine ⟨_, rfl, ?_⟩; replace HO630 := am_ (Kd.R_below (cq_ HO630) hb); replace BK627 := am_ (blk_below (cd_ BK627) hb); replace HB := am_ (below_step (cb_ HB) hb); (try clear hb); have hcz20_0 : w19.cell? ⟨gb627, 0, none⟩ = some (.int .i64 0) := (blk_cell BK627.out 0).trans rfl; have hcz20_1 : w19.cell? ⟨gb627, 1, none⟩ = some (.int .i64 0) := (blk_cell BK627.out 1).trans rfl; have hcz20_2 : w19.cell? ⟨gb627, 2, none⟩ = some (.int .u8 0) := (blk_cell BK627.out 2).trans rfl; have hfz20_0 := blk_frozen BK627.out 0; have hfz20_1 := blk_frozen BK627.out 1; have hfz20_2 := blk_frozen BK627.out 2))
          refine bodyPost_ret (results_ct rfl _ _ gb627 66 #[.int .i64 t632, .int .i64 t635, .int .u8 ((t638) % 256)] (0, 0) _ rfl (by (with_reducible repeat (first | refine d1_ ?_ _ | refine d2_ ?_ | refine d3_ ?_ _)); refine blk_put (cs := #[.int .i64 t632, .int .i64 t635, .int .u8 0]) ?_ 2 _ rfl; (with_reducible repeat (first | refine d1_ ?_ _ | refine d2_ ?_ | refine d3_ ?_ _)); refine blk_put (cs := #[.int .i64 t632, .int .i64 0, .int .u8 0]) ?_ 1 _ rfl; (with_reducible repeat (first | refine d1_ ?_ _ | refine d2_ ?_ | refine d3_ ?_ _)); refine blk_put (cs := #[.int .i64 0, .int .i64 0, .int .u8 0]) ?_ 0 _ rfl; (with_reducible repeat (first | refine d1_ ?_ _ | refine d2_ ?_ | refine d3_ ?_ _)); exact BK627.out) Tryz.underlying66 rfl (by kernel_rfl)) rfl ?_
          exact ⟨re_, cb_ HB⟩
       rw [if_neg c8] at H
       exact absurd H (by simp)
     rw [if_neg c6] at H
     exact absurd H (by simp)
   rw [if_neg c4] at H
   exact absurd H (by simp)
 rw [if_neg c3] at H
 have c3b0 := ec_ c3
 have c3b1 := nc_ c3
 simp only [Option.some.injEq, Prod.mk.injEq] at H
 obtain ⟨rfl, rfl, rfl, rfl⟩ := H
 go_enter Tryz.func124, Tryz.ntmps124
 try go_wp2_with (first | ((with_reducible refine gate_dst (N := 2) rfl ?_); refine box_event ?hg (N := 2) ?hd (cs := #[.int .i64 0, .int .i64 0, .int .u8 0]) (t := 66) ?hr ?_; (case hd => rfl); (case hg => rfl); (case hr => first | (go_simp; done) | (go_simp; rfl)); intro gb627 hg w49 hbox hb; have BK627 := am_ (hbox); have GW627 := am_ ((by rw [hg]; exact (below_size (cb_ HB)) : w.heap.size ≤ gb627)); have GE627 := am_ ((by rw [hg]; exact (below_size (cb_ HB)) : w.heap.size ≤ gb627)); replace HB := am_ (below_step (cb_ HB) hb); clear hb hbox hg) | ((with_reducible refine gate_callee (f := 135) rfl ?_); refine goesL_ (some 12) rfl rfl Tryz.func135 (by kernel_rfl) rfl #[.string a0, .string (⟨#[44]⟩ : ByteArray)] rfl ha_ ?_; (with_reducible refine (strings_Split.calls a0 (⟨#[44]⟩ : ByteArray) t628 _ ?side1 A2.out).mono ?_); (case side1 => exact sc.Env.below HE.out (cb_ HB)); rintro e w50 ⟨v629, rfl, ho0, hb⟩; refine ⟨_, rfl, ?_⟩; have HO630 := am_ (Kd.R_lower ho0 (below_size (cb_ HB))); replace BK627 := am_ (blk_below (cd_ BK627) hb); replace HB := am_ (below_step (cb_ HB) hb); (try clear hb); (try clear ho0); obtain ⟨Ao51, co51, eo51⟩ := Kd.R_slice HO630.out; subst eo51; have hcz52_0 : w50.cell? ⟨gb627, 0, none⟩ = some (.int .i64 0) := (blk_cell BK627.out 0).trans rfl; have hcz52_1 : w50.cell? ⟨gb627, 1, none⟩ = some (.int .i64 0) := (blk_cell BK627.out 1).trans rfl; have hcz52_2 : w50.cell? ⟨gb627, 2, none⟩ = some (.int .u8 0) := (blk_cell BK627.out 2).trans rfl; have hfz52_0 := blk_frozen BK627.out 0; have hfz52_1 := blk_frozen BK627.out 1; have hfz52_2 := blk_frozen BK627.out 2))
 refine bodyPost_ret (results_ct rfl _ _ gb627 66 #[.int .i64 0, .int .i64 0, .int .u8 0] (0, 0) _ rfl (by (with_reducible repeat (first | refine d1_ ?_ _ | refine d2_ ?_ | refine d3_ ?_ _)); refine blk_put (cs := #[.int .i64 0, .int .i64 0, .int .u8 0]) ?_ 2 _ rfl; (with_reducible repeat (first | refine d1_ ?_ _ | refine d2_ ?_ | refine d3_ ?_ _)); refine blk_put (cs := #[.int .i64 0, .int .i64 0, .int .u8 0]) ?_ 1 _ rfl; (with_reducible repeat (first | refine d1_ ?_ _ | refine d2_ ?_ | refine d3_ ?_ _)); refine blk_put (cs := #[.int .i64 0, .int .i64 0, .int .u8 0]) ?_ 0 _ rfl; (with_reducible repeat (first | refine d1_ ?_ _ | refine d2_ ?_ | refine d3_ ?_ _)); exact BK627.out) Tryz.underlying66 rfl (by kernel_rfl)) rfl ?_
 exact ⟨re_, cb_ HB⟩
def script_alike.f (a0_0 : Int) (a0_1 : Int) (a0_2 : Int) (a0_3 : Int) (a0_4 : ByteArray) (a0_5 : ByteArray) (l0_6 : List Int) (a0_7 : Int) (a1_0 : Int) (a1_1 : Int) (a1_2 : Int) (a1_3 : Int) (a1_4 : ByteArray) (a1_5 : ByteArray) (l1_6 : List Int) (a1_7 : Int) : Option (Bool) := if a0_0 = a1_0 then (if (a0_1 == a1_1 && (a0_2 == a1_2)) = true then (if a0_3 = a1_3 then (if a0_4.toList = a1_4.toList then (if a0_5.toList = a1_5.toList then (if a0_7 = a1_7 then (some ((l0_6.length : Int) == (l1_6.length : Int))) else (some false)) else (some false)) else (some false)) else (some false)) else (some false)) else (some false)
theorem script_alike.calls (a0_0 : Int) (a0_1 : Int) (a0_2 : Int) (a0_3 : Int) (a0_4 : ByteArray) (a0_5 : ByteArray) (A0_6 : Option Addr) (c0_6 : Nat) (l0_6 : List Int) (a0_7 : Int) (a1_0 : Int) (a1_1 : Int) (a1_2 : Int) (a1_3 : Int) (a1_4 : ByteArray) (a1_5 : ByteArray) (A1_6 : Option Addr) (c1_6 : Nat) (l1_6 : List Int) (a1_7 : Int) (r : Bool) (w : World) (hr0_6 : Kd.C (Kd.int .u8) w A0_6 l0_6.length l0_6) (hc0_6 : l0_6.length ≤ c0_6) (hr1_6 : Kd.C (Kd.int .u8) w A1_6 l1_6.length l1_6) (hc1_6 : l1_6.length ≤ c1_6) (h : script_alike.f a0_0 a0_1 a0_2 a0_3 a0_4 a0_5 l0_6 a0_7 a1_0 a1_1 a1_2 a1_3 a1_4 a1_5 l1_6 a1_7 = some r) :
 Calls Tryz.prog 57 #[.agg #[.int .i64 a0_0, .int .i64 a0_1, .int .i64 a0_2, .int .i64 a0_3, .string a0_4, .string a0_5, .slice A0_6 l0_6.length c0_6, .int .i64 a0_7], .agg #[.int .i64 a1_0, .int .i64 a1_1, .int .i64 a1_2, .int .i64 a1_3, .string a1_4, .string a1_5, .slice A1_6 l1_6.length c1_6, .int .i64 a1_7]] w fun e w' => e = .returned (.bool r) ∧ Below w.heap.size w w' := by
 have hu49 := Tryz.underlying49
 have hu37 := Tryz.underlying37
 have HR0_6 := am_ hr0_6
 have HC0_6 := am_ hc0_6
 clear hr0_6 hc0_6
 have HR1_6 := am_ hr1_6
 have HC1_6 := am_ hc1_6
 clear hr1_6 hc1_6
 have HB := am_ (Below.refl w.heap.size w)
 have H : (if a0_0 = a1_0 then (if (a0_1 == a1_1 && (a0_2 == a1_2)) = true then (if a0_3 = a1_3 then (if a0_4.toList = a1_4.toList then (if a0_5.toList = a1_5.toList then (if a0_7 = a1_7 then (some ((l0_6.length : Int) == (l1_6.length : Int))) else (some false)) else (some false)) else (some false)) else (some false)) else (some false)) else (some false)) = some r := h
 clear h
 by_cases c3 : a0_0 = a1_0
 rw [if_pos c3] at H
 have c3b0 := eb_ c3
 have c3b1 := nb_ c3
 clear c3
 by_cases c4 : (a0_1 == a1_1 && (a0_2 == a1_2)) = true
 rw [if_pos c4] at H
 have c4b0 : (a0_1 == a1_1 && (a0_2 == a1_2)) = true := c4
 (try (have c4b1 : decide (a0_1 = a1_1 && (a0_2 == a1_2)) = true := by simpa using c4))
 (try (have c4b2 : (a0_1 == a1_1 && (a0_2 == a1_2)) = true := by simpa using c4))
 clear c4
 by_cases c5 : a0_3 = a1_3
 rw [if_pos c5] at H
 have c5b0 := eb_ c5
 have c5b1 := nb_ c5
 clear c5
 by_cases c6 : a0_4.toList = a1_4.toList
 rw [if_pos c6] at H
 have c6b0 := eb_ c6
 have c6b1 := nb_ c6
 clear c6
 by_cases c7 : a0_5.toList = a1_5.toList
 rw [if_pos c7] at H
 have c7b0 := eb_ c7
 have c7b1 := nb_ c7
 clear c7
 by_cases c8 : a0_7 = a1_7
 rw [if_pos c8] at H
 have c8b0 := eb_ c8
 have c8b1 := nb_ c8
 clear c8
 rotate_left
 rw [if_neg c8] at H
 have c8b0 := ec_ c8
 have c8b1 := nc_ c8
 rotate_left
 rw [if_neg c7] at H
 have c7b0 := ec_ c7
 have c7b1 := nc_ c7
 rotate_left
 rw [if_neg c6] at H
 have c6b0 := ec_ c6
 have c6b1 := nc_ c6
 rotate_left
 rw [if_neg c5] at H
 have c5b0 := ec_ c5
 have c5b1 := nc_ c5
 rotate_left
 rw [if_neg c4] at H
 have c4b0 : (a0_1 == a1_1 && (a0_2 == a1_2)) = false := by simpa using c4
 (try (have c4b1 : decide (a0_1 = a1_1 && (a0_2 == a1_2)) = false := by simpa using c4))
 (try (have c4b2 : (a0_1 == a1_1 && (a0_2 == a1_2)) = false := by simpa using c4))
 (try (have c4b3 : ¬ (a0_1 = a1_1 && (a0_2 == a1_2)) := by simpa using c4))
 clear c4
 rotate_left
 rw [if_neg c3] at H
 have c3b0 := ec_ c3
 have c3b1 := nc_ c3
 rotate_left
 all_goals
  obtain rfl := Option.some.inj H
  go_enter Tryz.func57, Tryz.ntmps57
  try go_wp2_with (first | ((with_reducible refine gate_dst (N := 2) rfl ?_); (try (refine gate_guard (by rfl) ?_; dsimp only)); refine box_event ?hg (N := 2) ?hd (cs := #[.int .i64 a0_0, .int .i64 a0_1, .int .i64 a0_2, .int .i64 a0_3, .string a0_4, .string a0_5, .slice A0_6 l0_6.length c0_6, .int .i64 a0_7]) (t := 49) ?hr ?_; (case hd => rfl); (case hg => rfl); (case hr => first | (go_simp; done) | (go_simp; rfl)); intro gb643 hg w14 hbox hb; have BK643 := am_ (hbox); have GW643 := am_ ((by rw [hg]; exact (below_size (cb_ HB)) : w.heap.size ≤ gb643)); have GE643 := am_ ((by rw [hg]; exact (below_size (cb_ HB)) : w.heap.size ≤ gb643)); replace HB := am_ (below_step (cb_ HB) hb); clear hb hbox hg) | ((with_reducible refine gate_dst (N := 3) rfl ?_); (try (refine gate_guard (by rfl) ?_; dsimp only)); refine box_event ?hg (N := 3) ?hd (cs := #[.int .i64 a1_0, .int .i64 a1_1, .int .i64 a1_2, .int .i64 a1_3, .string a1_4, .string a1_5, .slice A1_6 l1_6.length c1_6, .int .i64 a1_7]) (t := 49) ?hr ?_; (case hd => rfl); (case hg => rfl); (case hr => first | (go_simp; done) | (go_simp; rfl)); intro gb644 hg w15 hbox hb; have BK644 := am_ (hbox); have GW644 := am_ ((by rw [hg]; exact (below_size (cb_ HB)) : w.heap.size ≤ gb644)); have GE644 := am_ ((by rw [hg]; exact (below_size (cb_ HB)) : w.heap.size ≤ gb644)); replace HB := am_ (below_step (cb_ HB) hb); have NB643_644 := am_ ((by rw [hg]; exact Nat.ne_of_lt (blk_lt (cd_ BK643)) : gb643 ≠ gb644)); have NB644_643 := am_ ((by rw [hg]; exact Nat.ne_of_gt (blk_lt (cd_ BK643)) : gb644 ≠ gb643)); replace BK643 := am_ (blk_below (cd_ BK643) hb); clear hb hbox hg; have hnb16 := NB643_644.out; have hnc16 := NB644_643.out; have hcz17_0 : w15.cell? ⟨gb643, 0, none⟩ = some (.int .i64 a0_0) := (blk_cell BK643.out 0).trans rfl; have hcz17_1 : w15.cell? ⟨gb643, 1, none⟩ = some (.int .i64 a0_1) := (blk_cell BK643.out 1).trans rfl; have hcz17_2 : w15.cell? ⟨gb643, 2, none⟩ = some (.int .i64 a0_2) := (blk_cell BK643.out 2).trans rfl; have hcz17_3 : w15.cell? ⟨gb643, 3, none⟩ = some (.int .i64 a0_3) := (blk_cell BK643.out 3).trans rfl; have hcz17_4 : w15.cell? ⟨gb643, 4, none⟩ = some (.string a0_4) := (blk_cell BK643.out 4).trans rfl; have hcz17_5 : w15.cell? ⟨gb643, 5, none⟩ = some (.string a0_5) := (blk_cell BK643.out 5).trans rfl; have hcz17_6 : w15.cell? ⟨gb643, 6, none⟩ = some (.slice A0_6 l0_6.length c0_6) := (blk_cell BK643.out 6).trans rfl; have hcz17_7 : w15.cell? ⟨gb643, 7, none⟩ = some (.int .i64 a0_7) := (blk_cell BK643.out 7).trans rfl; have hfz17_0 := blk_frozen BK643.out 0; have hfz17_1 := blk_frozen BK643.out 1; have hfz17_2 := blk_frozen BK643.out 2; have hfz17_3 := blk_frozen BK643.out 3; have hfz17_4 := blk_frozen BK643.out 4; have hfz17_5 := blk_frozen BK643.out 5; have hfz17_6 := blk_frozen BK643.out 6; have hfz17_7 := blk_frozen BK643.out 7; have hcz18_0 : w15.cell? ⟨gb644, 0, none⟩ = some (.int .i64 a1_0) := (blk_cell BK644.out 0).trans rfl; have hcz18_1 : w15.cell? ⟨gb644, 1, none⟩ = some (.int .i64 a1_1) := (blk_cell BK644.out 1).trans rfl; have hcz18_2 : w15.cell? ⟨gb644, 2, none⟩ = some (.int .i64 a1_2) := (blk_cell BK644.out 2).trans rfl; have hcz18_3 : w15.cell? ⟨gb644, 3, none⟩ = some (.int .i64 a1_3) := (blk_cell BK644.out 3).trans rfl; have hcz18_4 : w15.cell? ⟨gb644, 4, none⟩ = some (.string a1_4) := (blk_cell BK644.out 4).trans rfl; have hcz18_5 : w15.cell? ⟨gb644, 5, none⟩ = some (.string a1_5) := (blk_cell BK644.out 5).trans rfl; have hcz18_6 : w15.cell? ⟨gb644, 6, none⟩ = some (.slice A1_6 l1_6.length c1_6) := (blk_cell BK644.out 6).trans rfl; have hcz18_7 : w15.cell? ⟨gb644, 7, none⟩ = some (.int .i64 a1_7) := (blk_cell BK644.out 7).trans rfl; have hfz18_0 := blk_frozen BK644.out 0; have hfz18_1 := blk_frozen BK644.out 1; have hfz18_2 := blk_frozen BK644.out 2; have hfz18_3 := blk_frozen BK644.out 3; have hfz18_4 := blk_frozen BK644.out 4; have hfz18_5 := blk_frozen BK644.out 5; have hfz18_6 := blk_frozen BK644.out 6; have hfz18_7 := blk_frozen BK644.out 7))
  go_ret
  exact ⟨re_, cb_ HB⟩
def cloisterref26_digit.l0 : Nat → Int → Int → Option (Int)
 | 0, _, _ => none
 | k + 1, x0, x3 => if x3 < 16 then (if 0 ≤ x3 then (if (bt (⟨#[48, 49, 50, 51, 52, 53, 54, 55, 56, 57, 65, 66, 67, 68, 69, 70]⟩ : ByteArray) x3) = x0 then (some x3) else (cloisterref26_digit.l0 k x0 (wrap64 (x3 + 1)))) else (none)) else (some (-1))
def cloisterref26_digit.f (k : Nat) (a0 : Int) : Option (Int) := cloisterref26_digit.l0 k a0 0
theorem cloisterref26_digit.mono_l : ∀ k, (∀ y0 y1, LeO (cloisterref26_digit.l0 k y0 y1) (cloisterref26_digit.l0 (k + 1) y0 y1))
 | 0 => fun _ _ r h => by simp [cloisterref26_digit.l0] at h
 | k + 1 => by
  have ih0 := cloisterref26_digit.mono_l k
  intro y0 y1
  unfold cloisterref26_digit.l0
  repeat' first
  | (with_reducible exact ih0 _ _)
  | (with_reducible exact LeO.refl _)
  | (with_reducible exact LeO.none _)
  | (with_reducible refine LeO.ite ?_ ?_)
  | (with_reducible refine LeO.bind ?_ (fun _ => ?_))
  | exact ih0 _ _
  | exact LeO.none _
  | refine LeO.ite ?_ ?_
  | refine LeO.bind ?_ (fun _ => ?_)
theorem cloisterref26_digit.mono : ∀ a0 k, LeO (cloisterref26_digit.f k a0) (cloisterref26_digit.f (k + 1) a0) := by
 intro a0 k
 have ih0 := cloisterref26_digit.mono_l k
 unfold cloisterref26_digit.f
 repeat' first
  | (with_reducible exact ih0 _ _)
  | (with_reducible exact LeO.refl _)
  | (with_reducible exact LeO.none _)
  | (with_reducible refine LeO.ite ?_ ?_)
  | (with_reducible refine LeO.bind ?_ (fun _ => ?_))
  | exact ih0 _ _
  | exact LeO.none _
  | refine LeO.ite ?_ ?_
  | refine LeO.bind ?_ (fun _ => ?_)
theorem cloisterref26_digit.calls (k : Nat) (a0 : Int) (r : Int) (w : World) (h : cloisterref26_digit.f k a0 = some r) :
 Calls Tryz.prog 97 #[.int .u8 a0] w fun e w' => e = .returned (.int .i64 r) ∧ Drawn0 w w' := by
 have H : (cloisterref26_digit.l0 k a0 0) = some r := h
 clear h
 have H' := am_ H
 clear H
 go_enter Tryz.func97, Tryz.ntmps97
 go_wp2
 go_loopg [3] k (fun kq v3 w' => ∃ (x3_1 : Int), v3 = .int .i64 x3_1 ∧ Aside0 (cloisterref26_digit.l0 kq a0 x3_1 = some r) ∧ Aside0 (kq ≤ k) ∧ Drawn0 w w')
 case atStart => exact ⟨(0), rf_, H', ⟨Nat.le_refl _⟩, by repeat (first | exact Drawn0.refl _ | apply Drawn0.step)⟩
 case round =>
  clear H'
  obtain ⟨x3_1, rfl, HA, HK1, ⟨m1, rfl⟩⟩ := hrel
  cases gk with
  | zero => exact absurd HA.out (by simp [cloisterref26_digit.l0])
  | succ k1 =>
   have H := HA.out
   clear HA
   simp only [cloisterref26_digit.l0] at H
   by_cases c2 : x3_1 < 16
   · rw [if_pos c2] at H
     have c2b0 := decide_eq_true c2
     clear c2
     by_cases c3 : 0 ≤ x3_1
     · rw [if_pos c3] at H
       have c3b0 := decide_eq_true c3
       clear c3
       by_cases c5 : (bt (⟨#[48, 49, 50, 51, 52, 53, 54, 55, 56, 57, 65, 66, 67, 68, 69, 70]⟩ : ByteArray) x3_1) = a0
       · rw [if_pos c5] at H
         have c5b0 := eb_ c5
         have c5b1 := nb_ c5
         clear c5
         obtain rfl := Option.some.inj H
         have p4 : 0 ≤ (x3_1 : Int) := od_
         have q4 : x3_1 < (16 : Int) := od_
         have hx4 := bt_at (⟨#[48, 49, 50, 51, 52, 53, 54, 55, 56, 57, 65, 66, 67, 68, 69, 70]⟩ : ByteArray) x3_1
         replace p4 := eq_true p4
         replace q4 := eq_true q4
         go_wp2
         go_ret
         exact ⟨by first | rfl | (simp; done) | (simp [*]; done), by repeat (first | exact Drawn0.refl _ | apply Drawn0.step)⟩
       rw [if_neg c5] at H
       have c5b0 := ec_ c5
       have c5b1 := nc_ c5
       have H' := am_ H
       clear H
       have p4 : 0 ≤ (x3_1 : Int) := od_
       have q4 : x3_1 < (16 : Int) := od_
       have hx4 := bt_at (⟨#[48, 49, 50, 51, 52, 53, 54, 55, 56, 57, 65, 66, 67, 68, 69, 70]⟩ : ByteArray) x3_1
       replace p4 := eq_true p4
       replace q4 := eq_true q4
       go_wp2
       go_roundg k1
       case measure => have := HK1.out; omega
       case rel => exact ⟨(wrap64 (x3_1 + 1)), rf_, H', ⟨by have := HK1.out; omega⟩, by repeat (first | exact Drawn0.refl _ | apply Drawn0.step)⟩
     rw [if_neg c3] at H
     exact absurd H (by simp)
   rw [if_neg c2] at H
   have c2b0 := decide_eq_false c2
   clear c2
   obtain rfl := Option.some.inj H
   go_wp2
   go_ret
   exact ⟨by first | rfl | (simp; done) | (simp [*]; done), by repeat (first | exact Drawn0.refl _ | apply Drawn0.step)⟩
end Go.Proofs.YtndbbgihpoiojaaGreatDoor.Q
namespace Go.Proofs.YtndbbgihpoiojaaGreatDoor.Q
open Go.RowKit Go.Proofs.YtndbbgihpoiojaaGreatDoorW.PrintWords Go.Proofs.YtndbbgihpoiojaaGreatDoorW.PrintLast Go.Proofs.YtndbbgihpoiojaaGreatDoorW.PrintMore
attribute [local go_sem] max2_int min2_int max_two min_two max_three min_three max_four min_four   -- for this text's walks alone
mutual
def cloisterref26_Unquote.l0 : Nat → ByteArray → List Int → Int → Option (ByteArray × Bool)
 | 0, _, _, _ => none
 | k + 1, x0, x4, x5 => if x5 < (wrap64 ((x0.size : Int) - 1)) then (if 0 ≤ x5 then (if x5 < (x0.size : Int) then (if (bt x0 x5) = 37 then (if (wrap64 (x5 + 2)) ≥ (wrap64 ((x0.size : Int) - 1)) then (cloisterref26_Unquote.j1 k x0 x4 x5 true) else (if 0 ≤ (wrap64 (x5 + 1)) then (if (wrap64 (x5 + 1)) < (x0.size : Int) then ((cloisterref26_digit.f k (bt x0 (wrap64 (x5 + 1)))).bind fun t649 => (if t649 < 0 then (cloisterref26_Unquote.j1 k x0 x4 x5 true) else (if 0 ≤ (wrap64 (x5 + 2)) then (if (wrap64 (x5 + 2)) < (x0.size : Int) then ((cloisterref26_digit.f k (bt x0 (wrap64 (x5 + 2)))).bind fun t650 => (cloisterref26_Unquote.j1 k x0 x4 x5 (decide (t650 < 0)))) else (none)) else (none)))) else (none)) else (none))) else (if x4.length < 140737488355328 then (cloisterref26_Unquote.l0 k x0 (x4 ++ [bt x0 x5]) (wrap64 (x5 + 1))) else (none))) else (none)) else (none)) else ((cloisterref26_Quote.f k (strOfNums x4)).bind fun t645 => (some (strOfNums x4, (t645.toList == x0.toList))))
def cloisterref26_Unquote.j1 : Nat → ByteArray → List Int → Int → Bool → Option (ByteArray × Bool)
 | 0, _, _, _, _ => none
 | k + 1, x0, x4, x5, x47 => if x47 = true then (some ((⟨#[]⟩ : ByteArray), false)) else (if 0 ≤ (wrap64 (x5 + 1)) then (if (wrap64 (x5 + 1)) < (x0.size : Int) then ((cloisterref26_digit.f k (bt x0 (wrap64 (x5 + 1)))).bind fun t651 => (if 0 ≤ (wrap64 (x5 + 2)) then (if (wrap64 (x5 + 2)) < (x0.size : Int) then ((cloisterref26_digit.f k (bt x0 (wrap64 (x5 + 2)))).bind fun t652 => (if x4.length < 140737488355328 then (cloisterref26_Unquote.l0 k x0 (x4 ++ [(wrap64 ((wrap64 (16 * t651)) + t652)) % 256]) (wrap64 ((wrap64 (x5 + 2)) + 1))) else (none))) else (none)) else (none))) else (none)) else (none))
end
def cloisterref26_Unquote.f (k : Nat) (a0 : ByteArray) : Option (ByteArray × Bool) := if (a0.size : Int) < 2 then (some ((⟨#[]⟩ : ByteArray), false)) else (cloisterref26_Unquote.l0 k a0 ([] : List Int) 1)
def cloisterref26_Unquote.T11 : Bool × List (List Nat × List Nat) := (true, [([], []), ([], []), ([], []), ([2], [2]), ([1, 3], [1, 3]), ([4], [4]), ([5], [5]), ([], []), ([], []), ([8], [8]), ([7, 9], [7, 9]), ([10, 5], [10]), ([6, 11], [6, 11]), ([12], [12]), ([13], [13]), ([0, 14, 11], [0, 14]), ([15, 15, 0, 1, 2, 3, 4, 5, 6, 7, 8, 9, 10, 11, 12, 13, 14, 15], [0, 15])])
def cloisterref26_Unquote.B11 : List Nat := [0, 0, 0, 4, 14, 30, 62, 0, 0, 256, 896, 1982, 4094, 8190, 16382, 32767, 65535]
theorem cloisterref26_Unquote.tab11 : rtab .any (opsOf Tryz.f71 11) = cloisterref26_Unquote.T11 := by kernel_rfl
theorem cloisterref26_Unquote.bits11 : waitsOk cloisterref26_Unquote.T11.2 cloisterref26_Unquote.B11 = true := by kernel_rfl
def cloisterref26_Unquote.T13 : Bool × List (List Nat × List Nat) := (true, [([], []), ([0], [0]), ([], []), ([2], [2]), ([3], [3]), ([], []), ([4, 5], [4, 5]), ([1, 4, 0, 1], [1]), ([6, 7, 0, 1, 2, 3, 4, 5, 6, 7], [6])])
def cloisterref26_Unquote.B13 : List Nat := [0, 1, 0, 4, 12, 0, 60, 31, 255]
theorem cloisterref26_Unquote.tab13 : rtab .any (opsOf Tryz.f71 13) = cloisterref26_Unquote.T13 := by kernel_rfl
theorem cloisterref26_Unquote.bits13 : waitsOk cloisterref26_Unquote.T13.2 cloisterref26_Unquote.B13 = true := by kernel_rfl
theorem cloisterref26_Unquote.calls (k : Nat) (a0 : ByteArray) (r1 : ByteArray) (r2 : Bool) (w : World) (hE : sc.Env w) (h : cloisterref26_Unquote.f k a0 = some (r1, r2)) :
 Calls Tryz.prog 71 #[.string a0] w fun e w' => e = .returned (.tuple #[.string r1, .bool r2]) ∧ Below w.heap.size w w' := by
 have HE := am_ hE
 clear hE
 have HB := am_ (Below.refl w.heap.size w)
 have H : (if (a0.size : Int) < 2 then (some ((⟨#[]⟩ : ByteArray), false)) else (cloisterref26_Unquote.l0 k a0 ([] : List Int) 1)) = some (r1, r2) := h
 clear h
 by_cases c2 : (a0.size : Int) < 2
 · rw [if_pos c2] at H
   have c2b0 := decide_eq_true c2
   have c2b1 : decide (a0.size < 2) = true := decide_eq_true (by omega)
   clear c2
   simp only [Option.some.injEq, Prod.mk.injEq] at H
   obtain ⟨rfl, rfl⟩ := H
   go_enter Tryz.func71, Tryz.ntmps71
   go_wp2
   go_ret2
   exact ⟨re_, cb_ HB⟩
 rw [if_neg c2] at H
 have c2b0 := decide_eq_false c2
 have c2b1 : decide (a0.size < 2) = false := decide_eq_false (by omega)
 clear c2
 have H' := am_ H
 clear H
 go_enter Tryz.func71, Tryz.ntmps71
 go_wp2
 go_loopg [4, 5] k (fun kq v4 v5 w' => ∃ (x4_1 : List Int) (x5_1 : Int), v5 = .int .i64 x5_1 ∧ Aside0 (cloisterref26_Unquote.l0 kq a0 x4_1 x5_1 = some (r1, r2)) ∧ Aside0 (kq ≤ k) ∧ Aside0 (Kd.R (Kd.int .u8) 5 w' w.heap.size (fun _ => True) v4 x4_1) ∧ Aside0 (Below w.heap.size w w'))
 case atStart => exact ⟨(([] : List Int)), (1), rf_, H', ⟨Nat.le_refl _⟩, ⟨by first | exact Kd.R_nil _ _ _ _ _ | exact Kd.N_nil _ _ _ _ _ | exact Kd.V_nil _ _ _ _ _ | exact Kd.Q_nil _ _ _ _ _ | exact Kd.S_nil _ _ _ _ _⟩, ⟨cb_ HB⟩⟩
 case round =>
  clear H'
  try clear c2
  try clear c2b0
  try clear c2b1
  try clear p2
  obtain ⟨x4_1, x5_1, rfl, HA, HK1, HO_4, HB⟩ := hrel
  cases gk with
  | zero => exact absurd HA.out (by simp [cloisterref26_Unquote.l0])
  | succ k1 =>
   have H := HA.out
   clear HA
   simp only [cloisterref26_Unquote.l0] at H
   by_cases c3 : x5_1 < (wrap64 ((a0.size : Int) - 1))
   · rw [if_pos c3] at H
     have c3b0 := decide_eq_true c3
     clear c3
     by_cases c4 : 0 ≤ x5_1
     · rw [if_pos c4] at H
       have c4b0 := decide_eq_true c4
       clear c4
       by_cases c5 : x5_1 < (a0.size : Int)
       · rw [if_pos c5] at H
         have c5b0 := decide_eq_true c5
         clear c5
         by_cases c7 : (bt a0 x5_1) = 37
         · rw [if_pos c7] at H
           have c7b0 := eb_ c7
           have c7b1 := nb_ c7
           clear c7
           have HC8 := am_ H
           clear H
           have p6 : 0 ≤ (x5_1 : Int) := od_
           have q6 : x5_1 < (a0.size : Int) := od_
           have hx6 := bt_at a0 x5_1
           replace p6 := eq_true p6
           replace q6 := eq_true q6
           go_upto_region 9 with (fail)
           go_cut [47] (fun v47 wc => ∃ (kq : Nat) (x47_7 : Bool), v47 = .bool x47_7 ∧ Aside0 (cloisterref26_Unquote.j1 kq a0 x4_1 x5_1 x47_7 = some (r1, r2)) ∧ Aside0 (kq ≤ k1) ∧ Aside0 (Kd.R (Kd.int .u8) 5 wc w.heap.size (fun _ => True) u4 x4_1) ∧ Aside0 (Below w.heap.size w wc))
           case first =>
            have H := HC8.out
            clear HC8
            by_cases c9 : (wrap64 (x5_1 + 2)) ≥ (wrap64 ((a0.size : Int) - 1))
            · rw [if_pos c9] at H
              have c9b0 : decide ((wrap64 ((a0.size : Int) - 1)) ≤ (wrap64 (x5_1 + 2))) = true := decide_eq_true c9
              clear c9
              (first | rw [c9b0] | rw [c9b1] | rw [c9b2] | (simp only [i64_w, i32_w]; rw [c9b0]) | (simp only [i64_w, i32_w]; rw [c9b1]) | skip)
              have H' := am_ H
              clear H
              go_wp2
              go_meet
              case rel => exact ⟨_, (true), rf_, H', ⟨by have := HK1.out; first | omega | exact Nat.le_refl _⟩, cr_ HO_4, ⟨cb_ HB⟩⟩
            rw [if_neg c9] at H
            have c9b0 : decide ((wrap64 ((a0.size : Int) - 1)) ≤ (wrap64 (x5_1 + 2))) = false := decide_eq_false c9
            clear c9
            (first | rw [c9b0] | rw [c9b1] | rw [c9b2] | (simp only [i64_w, i32_w]; rw [c9b0]) | (simp only [i64_w, i32_w]; rw [c9b1]) | skip)
            obtain ⟨ji10, hji10⟩ : ∃ j_ : Int, (wrap64 (x5_1 + 1)) = j_ := ⟨_, rfl⟩
            replace H : (if 0 ≤ (ji10) then (if (ji10) < (a0.size : Int) then ((cloisterref26_digit.f k1 (bt a0 (ji10))).bind fun t649 => (if t649 < 0 then (cloisterref26_Unquote.j1 k1 a0 x4_1 x5_1 true) else (if 0 ≤ (wrap64 (x5_1 + 2)) then (if (wrap64 (x5_1 + 2)) < (a0.size : Int) then ((cloisterref26_digit.f k1 (bt a0 (wrap64 (x5_1 + 2)))).bind fun t650 => (cloisterref26_Unquote.j1 k1 a0 x4_1 x5_1 (decide (t650 < 0)))) else (none)) else (none)))) else (none)) else (none)) = some (r1, r2) := by first | (rw [hji10] at H; exact H) | (simp only [hji10] at H ⊢; exact H)
            have hji10w : (IntKind.i64.wrap (x5_1 + 1)) = ji10 := (i64_w _).trans hji10
            by_cases c11 : 0 ≤ (ji10)
            · rw [if_pos c11] at H
              have c11b0 := decide_eq_true c11
              clear c11
              by_cases c12 : (ji10) < (a0.size : Int)
              · rw [if_pos c12] at H
                have c12b0 := decide_eq_true c12
                clear c12
                replace H := Option.bind_eq_some_iff.mp H
                obtain ⟨t649, A140, H⟩ := H
                have A14 := am_ A140
                clear A140
                by_cases c15 : t649 < 0
                · rw [if_pos c15] at H
                  have c15b0 := decide_eq_true c15
                  clear c15
                  have H' := am_ H
                  clear H
                  have p13 : 0 ≤ ((ji10) : Int) := od_
                  have q13 : (ji10) < (a0.size : Int) := od_
                  have hx13 := bt_at a0 (ji10)
                  replace p13 := eq_true p13
                  replace q13 := eq_true q13
                  go_wp2_with (first | (go_at_call 97; (with_reducible refine (cloisterref26_digit.calls k1 (bt a0 (ji10)) _ _ A14.out).mono ?_); rintro e w' ⟨rfl, ⟨nd, rfl⟩⟩))
                  go_meet
                  case rel => exact ⟨_, (true), rf_, H', ⟨by have := HK1.out; first | omega | exact Nat.le_refl _⟩, cr_ HO_4, ⟨cb_ HB⟩⟩
                rw [if_neg c15] at H
                have c15b0 := decide_eq_false c15
                clear c15
                obtain ⟨ji16, hji16⟩ : ∃ j_ : Int, (wrap64 (x5_1 + 2)) = j_ := ⟨_, rfl⟩
                replace H : (if 0 ≤ (ji16) then (if (ji16) < (a0.size : Int) then ((cloisterref26_digit.f k1 (bt a0 (ji16))).bind fun t650 => (cloisterref26_Unquote.j1 k1 a0 x4_1 x5_1 (decide (t650 < 0)))) else (none)) else (none)) = some (r1, r2) := by first | (rw [hji16] at H; exact H) | (simp only [hji16] at H ⊢; exact H)
                (try rw [hji16] at c9b0)
                (try rw [hji16] at A14)
                have hji16w : (IntKind.i64.wrap (x5_1 + 2)) = ji16 := (i64_w _).trans hji16
                by_cases c17 : 0 ≤ (ji16)
                · rw [if_pos c17] at H
                  have c17b0 := decide_eq_true c17
                  clear c17
                  by_cases c18 : (ji16) < (a0.size : Int)
                  · rw [if_pos c18] at H
                    have c18b0 := decide_eq_true c18
                    clear c18
                    replace H := Option.bind_eq_some_iff.mp H
                    obtain ⟨t650, A200, H⟩ := H
                    have A20 := am_ A200
                    clear A200
                    have H' := am_ H
                    clear H
                    have p13 : 0 ≤ ((ji10) : Int) := od_
                    have q13 : (ji10) < (a0.size : Int) := od_
                    have hx13 := bt_at a0 (ji10)
                    replace p13 := eq_true p13
                    replace q13 := eq_true q13
                    go_wp2_with (first | (go_at_call 97; (with_reducible refine (cloisterref26_digit.calls k1 (bt a0 (ji10)) _ _ A14.out).mono ?_); rintro e w' ⟨rfl, ⟨nd, rfl⟩⟩; have p19 : 0 ≤ ((ji16) : Int) := od_; have q19 : (ji16) < (a0.size : Int) := od_; have hx19 := bt_at a0 (ji16); replace p19 := eq_true p19; replace q19 := eq_true q19) | (go_at_call 97; (with_reducible refine (cloisterref26_digit.calls k1 (bt a0 (ji16)) _ _ A20.out).mono ?_); rintro e w' ⟨rfl, ⟨nd, rfl⟩⟩))
                    go_meet
                    case rel => exact ⟨_, (decide (t650 < 0)), rf_, H', ⟨by have := HK1.out; first | omega | exact Nat.le_refl _⟩, cr_ HO_4, ⟨cb_ HB⟩⟩
                  rw [if_neg c18] at H
                  exact absurd H (by simp)
                rw [if_neg c17] at H
                exact absurd H (by simp)
              rw [if_neg c12] at H
              exact absurd H (by simp)
            rw [if_neg c11] at H
            exact absurd H (by simp)
           case rest =>
            clear HC8
            try clear c1
            try clear p1
            try clear q1
            try clear hx1
            try clear c2
            try clear c2b0
            try clear c2b1
            try clear p2
            try clear c3
            try clear c3b0
            try clear c4
            try clear c4b0
            try clear c5
            try clear c5b0
            try clear p6
            try clear q6
            try clear hx6
            try clear c7
            try clear c7b0
            try clear c7b1
            try clear c9
            try clear c9b0
            try clear c9b1
            try clear c9b2
            try clear c11
            try clear c11b0
            try clear c12
            try clear c12b0
            try clear p13
            try clear q13
            try clear hx13
            try clear c15
            try clear c15b0
            try clear c17
            try clear c17b0
            try clear c18
            try clear c18b0
            try clear p19
            try clear q19
            try clear hx19
            try clear p13
            try clear p19
            try clear p2
            try clear p6
            try clear q13
            try clear q19
            try clear q6
            obtain ⟨kq, x47_7, rfl, HA, HJ7, HO_4, HB⟩ := hcut
            cases kq with
            | zero => exact absurd HA.out (by simp [cloisterref26_Unquote.j1])
            | succ kj7 =>
             have H := HA.out
             clear HA
             simp only [cloisterref26_Unquote.j1] at H
             by_cases c21 : x47_7 = true
             · subst c21
               have H1 : (some ((⟨#[]⟩ : ByteArray), false)) = some (r1, r2) := by rw [if_pos rfl] at H; exact H
               clear H
               have H := H1
               clear H1
               simp only [Option.some.injEq, Prod.mk.injEq] at H
               obtain ⟨rfl, rfl⟩ := H
               go_wp2
               go_ret2
               exact ⟨re_, cb_ HB⟩
             replace c21 := Bool.eq_false_iff.mpr c21
             subst c21
             have H1 : (if 0 ≤ (wrap64 (x5_1 + 1)) then (if (wrap64 (x5_1 + 1)) < (a0.size : Int) then ((cloisterref26_digit.f kj7 (bt a0 (wrap64 (x5_1 + 1)))).bind fun t651 => (if 0 ≤ (wrap64 (x5_1 + 2)) then (if (wrap64 (x5_1 + 2)) < (a0.size : Int) then ((cloisterref26_digit.f kj7 (bt a0 (wrap64 (x5_1 + 2)))).bind fun t652 => (if x4_1.length < 140737488355328 then (cloisterref26_Unquote.l0 kj7 a0 (x4_1 ++ [(wrap64 ((wrap64 (16 * t651)) + t652)) % 256]) (wrap64 ((wrap64 (x5_1 + 2)) + 1))) else (none))) else (none)) else (none))) else (none)) else (none)) = some (r1, r2) := by rw [if_neg (show ¬ (false = true) by decide)] at H; exact H
             clear H
             have H := H1
             clear H1
             obtain ⟨ji22, hji22⟩ : ∃ j_ : Int, (wrap64 (x5_1 + 1)) = j_ := ⟨_, rfl⟩
             replace H : (if 0 ≤ (ji22) then (if (ji22) < (a0.size : Int) then ((cloisterref26_digit.f kj7 (bt a0 (ji22))).bind fun t651 => (if 0 ≤ (wrap64 (x5_1 + 2)) then (if (wrap64 (x5_1 + 2)) < (a0.size : Int) then ((cloisterref26_digit.f kj7 (bt a0 (wrap64 (x5_1 + 2)))).bind fun t652 => (if x4_1.length < 140737488355328 then (cloisterref26_Unquote.l0 kj7 a0 (x4_1 ++ [(wrap64 ((wrap64 (16 * t651)) + t652)) % 256]) (wrap64 ((wrap64 (x5_1 + 2)) + 1))) else (none))) else (none)) else (none))) else (none)) else (none)) = some (r1, r2) := by first | (rw [hji22] at H; exact H) | (simp only [hji22] at H ⊢; exact H)
             have hji22w : (IntKind.i64.wrap (x5_1 + 1)) = ji22 := (i64_w _).trans hji22
             by_cases c23 : 0 ≤ (ji22)
             · rw [if_pos c23] at H
               have c23b0 := decide_eq_true c23
               clear c23
               by_cases c24 : (ji22) < (a0.size : Int)
               · rw [if_pos c24] at H
                 have c24b0 := decide_eq_true c24
                 clear c24
                 replace H := Option.bind_eq_some_iff.mp H
                 obtain ⟨t651, A260, H⟩ := H
                 have A26 := am_ A260
                 clear A260
                 obtain ⟨ji27, hji27⟩ : ∃ j_ : Int, (wrap64 (x5_1 + 2)) = j_ := ⟨_, rfl⟩
                 replace H : (if 0 ≤ (ji27) then (if (ji27) < (a0.size : Int) then ((cloisterref26_digit.f kj7 (bt a0 (ji27))).bind fun t652 => (if x4_1.length < 140737488355328 then (cloisterref26_Unquote.l0 kj7 a0 (x4_1 ++ [(wrap64 ((wrap64 (16 * t651)) + t652)) % 256]) (wrap64 ((ji27) + 1))) else (none))) else (none)) else (none)) = some (r1, r2) := by first | (rw [hji27] at H; exact H) | (simp only [hji27] at H ⊢; exact H)
                 (try rw [hji27] at A26)
                 have hji27w : (IntKind.i64.wrap (x5_1 + 2)) = ji27 := (i64_w _).trans hji27
                 by_cases c28 : 0 ≤ (ji27)
                 · rw [if_pos c28] at H
                   have c28b0 := decide_eq_true c28
                   clear c28
                   by_cases c29 : (ji27) < (a0.size : Int)
                   · rw [if_pos c29] at H
                     have c29b0 := decide_eq_true c29
                     clear c29
                     replace H := Option.bind_eq_some_iff.mp H
                     obtain ⟨t652, A310, H⟩ := H
                     have A31 := am_ A310
                     clear A310
                     by_cases c32 : x4_1.length < 140737488355328
                     · rw [if_pos c32] at H
                       have LMc32 := am_ c32
                       clear c32
                       obtain ⟨y653, hy653⟩ : ∃ y_ : List Int, y_ = (x4_1 ++ [(wrap64 ((wrap64 (16 * t651)) + t652)) % 256]) := ⟨_, rfl⟩
                       replace H : (cloisterref26_Unquote.l0 kj7 a0 y653 (wrap64 ((ji27) + 1))) = some (r1, r2) := by first | (rw [hy653]; with_reducible exact H) | (have H2_ := (Option.bind_some _ _).symm.trans H; rw [hy653]; with_reducible exact H2_) | (have H2_ := (Option.bind_some _ _).symm.trans H; with_reducible exact H2_) | with_reducible exact H | (rw [hy653]; exact H) | exact H
                       have Ny653 := am_ hy653
                       clear hy653
                       have H' := am_ H
                       clear H
                       try go_wp2
                       replace HO_4 := am_ (r3_ HO_4.out)
                       replace HB := am_ (b3_ HB.out)
                       have p25 : 0 ≤ ((ji22) : Int) := od_
                       have q25 : (ji22) < (a0.size : Int) := od_
                       have hx25 := bt_at a0 (ji22)
                       replace p25 := eq_true p25
                       replace q25 := eq_true q25
                       have p30 : 0 ≤ ((ji27) : Int) := od_
                       have q30 : (ji27) < (a0.size : Int) := od_
                       have hx30 := bt_at a0 (ji27)
                       replace p30 := eq_true p30
                       replace q30 := eq_true q30
                       refine start_ (n := 17) (S := fun w' => True) (ds := []) (bs_ 17 0) (by kernel_rfl) rfl rfl trivial (fun hHeld => ?_); refine with_tabW cloisterref26_Unquote.tab11 cloisterref26_Unquote.bits11 (fun HT_ HW_ => ?_)
                       generalize wc.drew = w33 at HO_4 HB hHeld ⊢
                       refine pB_ HT_ 0 48 (bs_ 17 1) ?_
                       refine pB_ HT_ 1 49 (bs_ 17 3) ?_
                       refine pB_ HT_ 2 50 (bs_ 17 7) ?_
                       refine pB_ HT_ 3 51 (bs_ 17 15) ?_
                       refine pB_ HT_ 7 55 (bs_ 17 143) ?_
                       refine pB_ HT_ 8 56 (bs_ 17 399) ?_
                       refine pB_ HT_ 9 57 (bs_ 17 911) ?_
                       refine tB_ HT_ HW_ hHeld 4 52 (bs_ 17 927) ?_
                       refine tB_ HT_ HW_ hHeld 10 58 (bs_ 17 1951) ?_
                       refine oB_ HT_ 5 53 (bs_ 17 1983) (fun K hK => ?_)
                       refine goes_ Tryz.func97 (by kernel_rfl) rfl #[.int .u8 (bt a0 (ji22))] (by rfl) rfl rfl (by (try simp only [aT, aK, aL]); first | done | (simp only [hji22]; rfl) | rfl | (simp only [List.length_drop, List.length_take]; rfl)) ?_
                       with_reducible refine (cloisterref26_digit.calls kj7 (bt a0 (ji22)) _ _ A26.out).mono ?_
                       rintro e w' ⟨rfl, ⟨nd, rfl⟩⟩
                       refine ⟨_, rfl, ?_⟩
                       refine hK.out _ _ trivial (fun hHeld => ?_)
                       clear hK K
                       refine nA_ ?_
                       refine pB_ HT_ 6 54 (bs_ 17 2047) ?_
                       refine oB_ HT_ 11 59 (bs_ 17 4095) (fun K hK => ?_)
                       refine goes_ Tryz.func97 (by kernel_rfl) rfl #[.int .u8 (bt a0 (ji27))] (by rfl) rfl rfl (by (try simp only [aT, aK, aL]); first | done | (simp only [hji27]; rfl) | rfl | (simp only [List.length_drop, List.length_take]; rfl)) ?_
                       with_reducible refine (cloisterref26_digit.calls kj7 (bt a0 (ji27)) _ _ A31.out).mono ?_
                       rintro e w' ⟨rfl, ⟨nd, rfl⟩⟩
                       refine ⟨_, rfl, ?_⟩
                       refine hK.out _ _ trivial (fun hHeld => ?_)
                       clear hK K
                       refine nA_ ?_
                       refine pB_ HT_ 12 60 (bs_ 17 8191) ?_
                       refine pB_ HT_ 13 61 (bs_ 17 16383) ?_
                       refine oB_ HT_ 14 62 (bs_ 17 32767) (fun K hK => ?_)
                       refine vA_ ?_
                       refine hK.out _ _ trivial (fun hHeld => ?_)
                       clear hK K
                       refine nA_ ?_
                       refine oB_ HT_ 15 63 (bs_ 17 65535) (fun K hK => ?_)
                       refine Kd.R_append_step (Kd.int .u8) (w0 := w) w.heap.size (by rfl) (.tmp 48) (.tmp 62) 38 5 (.int .u8 0) 1 rfl Tryz.underlying38 info5 rfl (by decide) (by omega) u4 x4_1 ((wrap64 ((wrap64 (16 * t651)) + t652)) % 256) [.int .u8 ((wrap64 ((wrap64 (16 * t651)) + t652)) % 256)] (fun _ => True) (fun _ => False) rfl rfl ?aP (fun _ hk => hk.elim) ?aF ?aO ?aB ?aS ?aL ?_
                       (case aP => exact rfl)
                       (case aB => exact (cb_ HB))
                       (case aF => exact (fun _ _ => trivial))
                       (case aO => exact (cq_ HO_4))
                       (case aS => exact (below_size (cb_ HB)))
                       (case aL => have := LMc32.out; omega)
                       intro v654 w34 ho hb hg hat
                       rw [← Ny653.out] at ho
                       replace HB := am_ (hb)
                       have HO655 := am_ (ho)
                       clear HO_4
                       clear ho hb hg hat
                       refine hK.out _ _ trivial (fun hHeld => ?_)
                       clear hK K
                       refine nA_ ?_
                       refine pB_ HT_ 16 4 (bs_ 17 131071) ?_
                       refine done_ (done_of HT_.out (by kernel_rfl)) ?_
                       try go_wp2
                       go_roundg kj7
                       case measure => have := HK1.out; have := HJ7.out; omega
                       case rel => exact ⟨(y653), (wrap64 ((ji27) + 1)), (by first | rfl | (simp; done) | (simp only [← hji27] <;> (first | rfl | simp)) | (simp [*]; done)), H', ⟨by have := HK1.out; have := HJ7.out; omega⟩, cr_ HO655, ⟨cb_ HB⟩⟩
                     rw [if_neg c32] at H
                     exact absurd H (by simp)
                   rw [if_neg c29] at H
                   exact absurd H (by simp)
                 rw [if_neg c28] at H
                 exact absurd H (by simp)
               rw [if_neg c24] at H
               exact absurd H (by simp)
             rw [if_neg c23] at H
             exact absurd H (by simp)
         rw [if_neg c7] at H
         have c7b0 := ec_ c7
         have c7b1 := nc_ c7
         by_cases c36 : x4_1.length < 140737488355328
         · rw [if_pos c36] at H
           have LMc36 := am_ c36
           clear c36
           obtain ⟨y646, hy646⟩ : ∃ y_ : List Int, y_ = (x4_1 ++ [bt a0 x5_1]) := ⟨_, rfl⟩
           replace H : (cloisterref26_Unquote.l0 k1 a0 y646 (wrap64 (x5_1 + 1))) = some (r1, r2) := by first | (rw [hy646]; with_reducible exact H) | (have H2_ := (Option.bind_some _ _).symm.trans H; rw [hy646]; with_reducible exact H2_) | (have H2_ := (Option.bind_some _ _).symm.trans H; with_reducible exact H2_) | with_reducible exact H | (rw [hy646]; exact H) | exact H
           have Ny646 := am_ hy646
           clear hy646
           have H' := am_ H
           clear H
           have p6 : 0 ≤ (x5_1 : Int) := od_
           have q6 : x5_1 < (a0.size : Int) := od_
           have hx6 := bt_at a0 x5_1
           replace p6 := eq_true p6
           replace q6 := eq_true q6
           have p35 : 0 ≤ (x5_1 : Int) := od_
           have q35 : x5_1 < (a0.size : Int) := od_
           have hx35 := bt_at a0 x5_1
           replace p35 := eq_true p35
           replace q35 := eq_true q35
           go_wp2_with (first | ((with_reducible refine gate_builtin (b := .append) (xs := #[.tmp 20, .tmp 24]) rfl ?_); at_builtin; refine Kd.R_append (Kd.int .u8) (w0 := w) w.heap.size rfl (.tmp 20) (.tmp 24) 38 5 (.int .u8 0) 1 rfl Tryz.underlying38 info5 rfl (by decide) (by omega) u4 x4_1 (bt a0 x5_1) [.int .u8 (bt a0 x5_1)] (fun _ => True) (fun _ => False) rfl rfl ?aP (fun _ hk => hk.elim) ?aF ?aO ?aB ?aS ?aL ?_; (case aP => exact rfl); (case aB => exact (cb_ HB)); (case aF => exact (fun _ _ => trivial)); (case aO => exact (cq_ HO_4)); (case aS => exact (below_size (cb_ HB))); (case aL => have := LMc36.out; omega); intro v647 w37 ho hb hg hat; rw [← Ny646.out] at ho; replace HB := am_ (hb); have HO648 := am_ (ho); clear HO_4; clear ho hb hg hat))
           go_roundg k1
           case measure => have := HK1.out; omega
           case rel => exact ⟨(y646), (wrap64 (x5_1 + 1)), rf_, H', ⟨by have := HK1.out; omega⟩, cr_ HO648, ⟨cb_ HB⟩⟩
         rw [if_neg c36] at H
         exact absurd H (by simp)
       rw [if_neg c5] at H
       exact absurd H (by simp)
     rw [if_neg c4] at H
     exact absurd H (by simp)
   rw [if_neg c3] at H
   have c3b0 := decide_eq_false c3
   clear c3
   replace H := Option.bind_eq_some_iff.mp H
   obtain ⟨t645, A380, H⟩ := H
   have A38 := am_ A380
   clear A380
   simp only [Option.some.injEq, Prod.mk.injEq] at H
   obtain ⟨rfl, rfl⟩ := H
   try go_wp2
   replace HO_4 := am_ (r3_ HO_4.out)
   replace HB := am_ (b3_ HB.out)
   refine start_ (n := 9) (S := fun w' => (convert 38 9 u4).run Tryz.prog w' = .ok (.string (strOfNums x4_1)) w' ∧ (convert 38 9 u4).run Tryz.prog w' = .ok (.string (strOfNums x4_1)) w') (ds := []) (bs_ 9 0) (by kernel_rfl) rfl rfl ⟨own_string (P := Tryz.prog) Tryz.underlying38 Tryz.underlying5 Tryz.underlying9 (Kd.own_of_R HO_4.out), own_string (P := Tryz.prog) Tryz.underlying38 Tryz.underlying5 Tryz.underlying9 (Kd.own_of_R HO_4.out)⟩ (fun hHeld => ?_); refine with_tabW cloisterref26_Unquote.tab13 cloisterref26_Unquote.bits13 (fun HT_ HW_ => ?_)
   generalize wr.drew = w39 at HO_4 HB hHeld ⊢
   refine pB_ HT_ 0 66 (bs_ 9 1) ?_
   refine pB_ HT_ 2 68 (bs_ 9 5) ?_
   refine pB_ HT_ 5 71 (bs_ 9 37) ?_
   refine tB_ HT_ HW_ hHeld 1 67 (bs_ 9 39) ?_
   refine tB_ HT_ HW_ hHeld 3 69 (bs_ 9 47) ?_
   refine oB_ HT_ 4 70 (bs_ 9 63) (fun K hK => ?_)
   refine goes_ Tryz.func21 (by kernel_rfl) rfl #[.string (strOfNums x4_1)] (by rfl) rfl rfl ha_ ?_
   with_reducible refine (cloisterref26_Quote.calls k1 (strOfNums x4_1) t645 _ ?side1 A38.out).mono ?_
   (case side1 => exact sc.Env.below HE.out (cb_ HB))
   rintro e w40 ⟨rfl, hb⟩
   refine ⟨_, rfl, ?_⟩
   replace HO_4 := am_ (Kd.R_below (cq_ HO_4) hb)
   replace HB := am_ (below_step (cb_ HB) hb)
   (try clear hb)
   (try clear hk)
   refine hK.out _ _ ⟨own_string (P := Tryz.prog) Tryz.underlying38 Tryz.underlying5 Tryz.underlying9 (Kd.own_of_R HO_4.out), own_string (P := Tryz.prog) Tryz.underlying38 Tryz.underlying5 Tryz.underlying9 (Kd.own_of_R HO_4.out)⟩ (fun hHeld => ?_)
   clear hK K
   refine nA_ ?_
   refine pB_ HT_ 6 72 (bs_ 9 127) ?_
   refine pB_ HT_ 7 2 (bs_ 9 255) ?_
   refine pB_ HT_ 8 3 (bs_ 9 511) ?_
   refine done_ (done_of HT_.out (by kernel_rfl)) ?_
   try go_wp2
   go_ret2
   exact ⟨re_, cb_ HB⟩
def script_number.f (a0 : Int) : Option (ByteArray) := (strconv_Itoa.f a0).bind fun t143 => (some t143)
theorem script_number.calls (a0 : Int) (r : ByteArray) (w : World) (hE : sc.Env w) (h : script_number.f a0 = some r) :
 Calls Tryz.prog 33 #[.int .i64 a0] w fun e w' => e = .returned (.string r) ∧ Below w.heap.size w w' := by
 have HE := am_ hE
 clear hE
 have HB := am_ (Below.refl w.heap.size w)
 have H : ((strconv_Itoa.f a0).bind fun t143 => (some t143)) = some r := h
 clear h
 replace H := Option.bind_eq_some_iff.mp H
 obtain ⟨t143, A20, H⟩ := H
 have A2 := am_ A20
 clear A20
 obtain rfl := Option.some.inj H
 go_enter Tryz.func33, Tryz.ntmps33
 go_wp2_with (first | ((with_reducible refine gate_callee (f := 29) rfl ?_); refine goesL_ (some 4) rfl rfl Tryz.func29 (by kernel_rfl) rfl #[.int .i64 a0] rfl ha_ ?_; (with_reducible refine (strconv_Itoa.calls a0 t143 _ ?side1 A2.out).mono ?_); (case side1 => exact sc.Env.below HE.out (cb_ HB)); rintro e w3 ⟨rfl, hb⟩; refine ⟨_, rfl, ?_⟩; replace HB := am_ (below_step (cb_ HB) hb); (try clear hb)))
 go_ret
 exact ⟨re_, cb_ HB⟩
end Go.Proofs.YtndbbgihpoiojaaGreatDoor.Q
namespace Go.Proofs.YtndbbgihpoiojaaGreatDoor.Q
open Go.RowKit Go.Proofs.YtndbbgihpoiojaaGreatDoorW.PrintWords Go.Proofs.YtndbbgihpoiojaaGreatDoorW.PrintLast
def nums8 (l : List UInt8) : List Int := l.map fun b => (b.toNat : Int)
theorem nums8_append (a b : List UInt8) : nums8 (a ++ b) = nums8 a ++ nums8 b := List.map_append
theorem nums8_length (a : List UInt8) : (nums8 a).length = a.length := List.length_map ..
theorem strOf_nums8 (l : List UInt8) : strOfNums (nums8 l) = ⟨l.toArray⟩ := by
 unfold strOfNums nums8
 rw [List.map_map]
 congr 2
 conv => rhs; rw [← List.map_id l]
 apply List.map_congr_left
 intro b _
 simp
theorem bytesOf_nums8 (s : ByteArray) : bytesOf s = nums8 s.data.toList := rfl
theorem bt_nat (s : ByteArray) (i : Nat) (h : i < s.data.toList.length) : bt s (i : Int) = ((s.data.toList[i]).toNat : Int) := by
 have hs : i < s.size := by rw [← data_length]; exact h
 have := bt_at s (i : Int) (by simpa using hs)
 rw [← this]
 simp
 rfl
theorem bt_lit (l : List UInt8) (i : Nat) (h : i < l.length) : bt ⟨l.toArray⟩ (i : Int) = (l[i].toNat : Int) := bt_nat ⟨l.toArray⟩ i h
theorem w64 {x : Int} (h0 : -9223372036854775808 ≤ x) (h1 : x ≤ 9223372036854775807) : wrap64 x = x := by unfold wrap64; omega
theorem ba_ext {a b : ByteArray} (h : a.data.toList = b.data.toList) : a = b := by
 obtain ⟨⟨l⟩⟩ := a
 obtain ⟨⟨m⟩⟩ := b
 have h' : l = m := h
 subst h'
 rfl
theorem ba_eta (a : ByteArray) : (⟨a.data.toList.toArray⟩ : ByteArray) = a := ba_ext rfl
theorem toList_data (a : ByteArray) : a.toList = a.data.toList := sc.bytes_list a
theorem size_mk (l : List UInt8) : (⟨l.toArray⟩ : ByteArray).size = l.length := by simp [ByteArray.size]
theorem extract_data (s : ByteArray) (a b : Nat) : (s.extract a b).data.toList = (s.data.toList.drop a).take (b - a) := by
 simp [ByteArray.data_extract, List.take_drop]
end Go.Proofs.YtndbbgihpoiojaaGreatDoor.Q
namespace Go.Proofs.YtndbbgihpoiojaaGreatDoor.Q
open Go.RowKit Go.Proofs.YtndbbgihpoiojaaGreatDoorW.PrintWords Go.Proofs.YtndbbgihpoiojaaGreatDoorW.PrintLast Go.Proofs.YtndbbgihpoiojaaGreatDoorW.PrintMore
attribute [local go_sem] max2_int min2_int max_two min_two max_three min_three max_four min_four   -- for this text's walks alone
mutual
def script_unquote.j0 : Nat → ByteArray → Bool → Option (ByteArray × Bool)
 | 0, _, _ => none
 | k + 1, x0, x24 => if x24 = true then (some ((⟨#[]⟩ : ByteArray), false)) else (if 1 ≤ (wrap64 ((x0.size : Int) - 1)) then (if (wrap64 ((x0.size : Int) - 1)) ≤ (x0.size : Int) then (script_unquote.l0 k x0 (x0.extract 1 ((wrap64 ((x0.size : Int) - 1)) : Int).toNat) ([] : List Int) 0) else (none)) else (none))
def script_unquote.l0 : Nat → ByteArray → ByteArray → List Int → Int → Option (ByteArray × Bool)
 | 0, _, _, _, _ => none
 | k + 1, x0, x4, x5, x6 => if x6 < (x4.size : Int) then (if 0 ≤ x6 then (if (bt x4 x6) = 37 then (if (wrap64 (x6 + 2)) ≥ (x4.size : Int) then (some ((⟨#[]⟩ : ByteArray), false)) else (if 0 ≤ (wrap64 (x6 + 1)) then (if (wrap64 (x6 + 1)) < (x4.size : Int) then ((strings_IndexByte.f (⟨#[48, 49, 50, 51, 52, 53, 54, 55, 56, 57, 65, 66, 67, 68, 69, 70]⟩ : ByteArray) (bt x4 (wrap64 (x6 + 1)))).bind fun t622 => (if 0 ≤ (wrap64 (x6 + 2)) then (if (wrap64 (x6 + 2)) < (x4.size : Int) then ((strings_IndexByte.f (⟨#[48, 49, 50, 51, 52, 53, 54, 55, 56, 57, 65, 66, 67, 68, 69, 70]⟩ : ByteArray) (bt x4 (wrap64 (x6 + 2)))).bind fun t623 => (if t622 < 0 then (some ((⟨#[]⟩ : ByteArray), false)) else (if t623 < 0 then (some ((⟨#[]⟩ : ByteArray), false)) else (if x5.length < 140737488355328 then (script_unquote.l0 k x0 x4 (x5 ++ [(wrap64 ((wrap64 (16 * t622)) + t623)) % 256]) (wrap64 ((wrap64 (x6 + 2)) + 1))) else (none))))) else (none)) else (none))) else (none)) else (none))) else (if x5.length < 140737488355328 then (script_unquote.l0 k x0 x4 (x5 ++ [bt x4 x6]) (wrap64 (x6 + 1))) else (none))) else (none)) else ((script_Quote.f (strOfNums x5)).bind fun t618 => (some (strOfNums x5, (t618.toList == x0.toList))))
end
def script_unquote.f (k : Nat) (a0 : ByteArray) : Option (ByteArray × Bool) := if (a0.size : Int) < 2 then (script_unquote.j0 k a0 true) else (if 0 < (a0.size : Int) then (if (bt a0 0) = 34 then (if 0 ≤ (wrap64 ((a0.size : Int) - 1)) then (if (wrap64 ((a0.size : Int) - 1)) < (a0.size : Int) then (script_unquote.j0 k a0 ((bt a0 (wrap64 ((a0.size : Int) - 1))) != 34)) else (none)) else (none)) else (script_unquote.j0 k a0 true)) else (none))
def script_unquote.T12 : Bool × List (List Nat × List Nat) := (true, [([], []), ([], []), ([1], [1]), ([0, 2], [0, 2]), ([3], [3]), ([], []), ([], []), ([6], [6]), ([5, 7], [5, 7]), ([8, 4], [8]), ([4, 9, 0, 1, 2, 3, 4], [4]), ([9, 10, 0, 1, 2, 3, 4, 5, 6, 7, 8, 9, 10], [9])])
def script_unquote.B12 : List Nat := [0, 0, 2, 7, 15, 0, 0, 64, 224, 511, 1023, 2047]
theorem script_unquote.tab12 : rtab .any (opsOf Tryz.f115 12) = script_unquote.T12 := by kernel_rfl
theorem script_unquote.bits12 : waitsOk script_unquote.T12.2 script_unquote.B12 = true := by kernel_rfl
def script_unquote.T17 : Bool × List (List Nat × List Nat) := (true, [([], []), ([0], [0]), ([], []), ([2], [2]), ([3], [3]), ([], []), ([4, 5], [4, 5]), ([1, 4, 0, 1], [1]), ([6, 7, 0, 1, 2, 3, 4, 5, 6, 7], [6])])
def script_unquote.B17 : List Nat := [0, 1, 0, 4, 12, 0, 60, 31, 255]
theorem script_unquote.tab17 : rtab .any (opsOf Tryz.f115 17) = script_unquote.T17 := by kernel_rfl
theorem script_unquote.bits17 : waitsOk script_unquote.T17.2 script_unquote.B17 = true := by kernel_rfl
theorem script_unquote.calls (k : Nat) (a0 : ByteArray) (r1 : ByteArray) (r2 : Bool) (w : World) (hE : sc.Env w) (h : script_unquote.f k a0 = some (r1, r2)) :
 Calls Tryz.prog 115 #[.string a0] w fun e w' => e = .returned (.tuple #[.string r1, .bool r2]) ∧ Below w.heap.size w w' := by
 have HE := am_ hE
 clear hE
 have HB := am_ (Below.refl w.heap.size w)
 have H : (if (a0.size : Int) < 2 then (script_unquote.j0 k a0 true) else (if 0 < (a0.size : Int) then (if (bt a0 0) = 34 then (if 0 ≤ (wrap64 ((a0.size : Int) - 1)) then (if (wrap64 ((a0.size : Int) - 1)) < (a0.size : Int) then (script_unquote.j0 k a0 ((bt a0 (wrap64 ((a0.size : Int) - 1))) != 34)) else (none)) else (none)) else (script_unquote.j0 k a0 true)) else (none))) = some (r1, r2) := h
 clear h
 have HC2 := am_ H
 clear H
 go_enter Tryz.func115, Tryz.ntmps115
 go_upto_region 1 with (fail)
 go_cut [24] (fun v24 wc => ∃ (kq : Nat) (x24_1 : Bool), v24 = .bool x24_1 ∧ Aside0 (script_unquote.j0 kq a0 x24_1 = some (r1, r2)) ∧ Aside0 (kq ≤ k) ∧ Aside0 (Below w.heap.size w wc))
 case first =>
  have H := HC2.out
  clear HC2
  by_cases c3 : (a0.size : Int) < 2
  · rw [if_pos c3] at H
    have c3b0 := decide_eq_true c3
    have c3b1 : decide (a0.size < 2) = true := decide_eq_true (by omega)
    clear c3
    (first | rw [c3b0] | rw [c3b1] | rw [c3b2] | (simp only [i64_w, i32_w]; rw [c3b0]) | (simp only [i64_w, i32_w]; rw [c3b1]) | skip)
    have H' := am_ H
    clear H
    go_wp2
    go_meet
    case rel => exact ⟨_, (true), rf_, H', ⟨by first | omega | exact Nat.le_refl _⟩, ⟨cb_ HB⟩⟩
  rw [if_neg c3] at H
  have c3b0 := decide_eq_false c3
  have c3b1 : decide (a0.size < 2) = false := decide_eq_false (by omega)
  clear c3
  (first | rw [c3b0] | rw [c3b1] | rw [c3b2] | (simp only [i64_w, i32_w]; rw [c3b0]) | (simp only [i64_w, i32_w]; rw [c3b1]) | skip)
  by_cases c4 : 0 < (a0.size : Int)
  · rw [if_pos c4] at H
    have c4b0 := decide_eq_true c4
    have c4b1 : decide (0 < a0.size) = true := decide_eq_true (by omega)
    clear c4
    by_cases c6 : (bt a0 0) = 34
    · rw [if_pos c6] at H
      have c6b0 := eb_ c6
      have c6b1 := nb_ c6
      clear c6
      obtain ⟨ji7, hji7⟩ : ∃ j_ : Int, (wrap64 ((a0.size : Int) - 1)) = j_ := ⟨_, rfl⟩
      replace H : (if 0 ≤ (ji7) then (if (ji7) < (a0.size : Int) then (script_unquote.j0 k a0 ((bt a0 (ji7)) != 34)) else (none)) else (none)) = some (r1, r2) := by first | (rw [hji7] at H; exact H) | (simp only [hji7] at H ⊢; exact H)
      have hji7w : (IntKind.i64.wrap ((a0.size : Int) - 1)) = ji7 := (i64_w _).trans hji7
      by_cases c8 : 0 ≤ (ji7)
      · rw [if_pos c8] at H
        have c8b0 := decide_eq_true c8
        clear c8
        by_cases c9 : (ji7) < (a0.size : Int)
        · rw [if_pos c9] at H
          have c9b0 := decide_eq_true c9
          clear c9
          have H' := am_ H
          clear H
          have p5 : 0 ≤ (0 : Int) := (by omega)
          have q5 : 0 < a0.size := (by have : (0 : Int) < (a0.size : Int) := od_; omega)
          have hx5 : ∀ h : 0 < a0.size, ((a0[0]'h).toNat : Int) = bt a0 0 := bt_at a0 0
          clear p5
          have qi5 : (0 < (a0.size : Int)) = True := eq_true (od_)
          replace q5 := eq_true q5
          have p10 : 0 ≤ ((ji7) : Int) := od_
          have q10 : (ji7) < (a0.size : Int) := od_
          have hx10 := bt_at a0 (ji7)
          replace p10 := eq_true p10
          replace q10 := eq_true q10
          go_wp2
          go_meet
          case rel => exact ⟨_, (((bt a0 (ji7)) != 34)), (by first | rfl | (simp; done) | (simp only [← hji7] <;> (first | rfl | simp)) | (simp [*]; done)), H', ⟨by first | omega | exact Nat.le_refl _⟩, ⟨cb_ HB⟩⟩
        rw [if_neg c9] at H
        exact absurd H (by simp)
      rw [if_neg c8] at H
      exact absurd H (by simp)
    rw [if_neg c6] at H
    have c6b0 := ec_ c6
    have c6b1 := nc_ c6
    have H' := am_ H
    clear H
    have p5 : 0 ≤ (0 : Int) := (by omega)
    have q5 : 0 < a0.size := (by have : (0 : Int) < (a0.size : Int) := od_; omega)
    have hx5 : ∀ h : 0 < a0.size, ((a0[0]'h).toNat : Int) = bt a0 0 := bt_at a0 0
    clear p5
    have qi5 : (0 < (a0.size : Int)) = True := eq_true (od_)
    replace q5 := eq_true q5
    go_wp2
    go_meet
    case rel => exact ⟨_, (true), rf_, H', ⟨by first | omega | exact Nat.le_refl _⟩, ⟨cb_ HB⟩⟩
  rw [if_neg c4] at H
  exact absurd H (by simp)
 case rest =>
  clear HC2
  try clear c1
  try clear p1
  try clear q1
  try clear hx1
  try clear p2
  try clear c3
  try clear c3b0
  try clear c3b1
  try clear c3b2
  try clear c4
  try clear c4b0
  try clear c4b1
  try clear p5
  try clear q5
  try clear hx5
  try clear qi5
  try clear c6
  try clear c6b0
  try clear c6b1
  try clear p6
  try clear c8
  try clear c8b0
  try clear c9
  try clear c9b0
  try clear p10
  try clear q10
  try clear hx10
  try clear p10
  try clear p5
  try clear q10
  try clear q5
  obtain ⟨kq, x24_1, rfl, HA, HJ1, HB⟩ := hcut
  cases kq with
  | zero => exact absurd HA.out (by simp [script_unquote.j0])
  | succ kj1 =>
   have H := HA.out
   clear HA
   simp only [script_unquote.j0] at H
   by_cases c11 : x24_1 = true
   · subst c11
     have H1 : (some ((⟨#[]⟩ : ByteArray), false)) = some (r1, r2) := by rw [if_pos rfl] at H; exact H
     clear H
     have H := H1
     clear H1
     simp only [Option.some.injEq, Prod.mk.injEq] at H
     obtain ⟨rfl, rfl⟩ := H
     go_wp2
     go_ret2
     exact ⟨re_, cb_ HB⟩
   replace c11 := Bool.eq_false_iff.mpr c11
   subst c11
   have H1 : (if 1 ≤ (wrap64 ((a0.size : Int) - 1)) then (if (wrap64 ((a0.size : Int) - 1)) ≤ (a0.size : Int) then (script_unquote.l0 kj1 a0 (a0.extract 1 ((wrap64 ((a0.size : Int) - 1)) : Int).toNat) ([] : List Int) 0) else (none)) else (none)) = some (r1, r2) := by rw [if_neg (show ¬ (false = true) by decide)] at H; exact H
   clear H
   have H := H1
   clear H1
   by_cases c12 : 1 ≤ (wrap64 ((a0.size : Int) - 1))
   · rw [if_pos c12] at H
     have c12b0 := eq_true c12
     have c12b1 := decide_eq_true c12
     clear c12
     by_cases c13 : (wrap64 ((a0.size : Int) - 1)) ≤ (a0.size : Int)
     · rw [if_pos c13] at H
       have c13b0 := eq_true c13
       have c13b1 := decide_eq_true c13
       clear c13
       have H' := am_ H
       clear H
       go_wp2
       generalize a0.extract 1 ((wrap64 ((a0.size : Int) - 1)) : Int).toNat = y4 at *
       go_loopg [5, 6] kj1 (fun kq v5 v6 w' => ∃ (x5_2 : List Int) (x6_2 : Int), v6 = .int .i64 x6_2 ∧ Aside0 (script_unquote.l0 kq a0 y4 x5_2 x6_2 = some (r1, r2)) ∧ Aside0 (kq ≤ kj1) ∧ Aside0 (Kd.R (Kd.int .u8) 5 w' w.heap.size (fun _ => True) v5 x5_2) ∧ Aside0 (Below w.heap.size w w'))
       case atStart => exact ⟨(([] : List Int)), (0), rf_, H', ⟨Nat.le_refl _⟩, ⟨by first | exact Kd.R_nil _ _ _ _ _ | exact Kd.N_nil _ _ _ _ _ | exact Kd.V_nil _ _ _ _ _ | exact Kd.Q_nil _ _ _ _ _ | exact Kd.S_nil _ _ _ _ _⟩, ⟨cb_ HB⟩⟩
       case round =>
        clear H'
        try clear c1
        try clear p1
        try clear q1
        try clear hx1
        try clear p2
        try clear c3
        try clear c3b0
        try clear c3b1
        try clear c3b2
        try clear c4
        try clear c4b0
        try clear c4b1
        try clear p5
        try clear q5
        try clear hx5
        try clear qi5
        try clear c6
        try clear c6b0
        try clear c6b1
        try clear p6
        try clear c8
        try clear c8b0
        try clear c9
        try clear c9b0
        try clear p10
        try clear q10
        try clear hx10
        try clear c11
        try clear c12
        try clear c12b0
        try clear c12b1
        try clear c13
        try clear c13b0
        try clear c13b1
        try clear p1
        try clear p10
        try clear p2
        try clear p5
        try clear p6
        try clear q1
        try clear q10
        try clear q5
        obtain ⟨x5_2, x6_2, rfl, HA, HK2, HO_5, HB⟩ := hrel
        cases gk with
        | zero => exact absurd HA.out (by simp [script_unquote.l0])
        | succ k2 =>
         have H := HA.out
         clear HA
         simp only [script_unquote.l0] at H
         by_cases c14 : x6_2 < (y4.size : Int)
         · rw [if_pos c14] at H
           have c14b0 := decide_eq_true c14
           clear c14
           by_cases c15 : 0 ≤ x6_2
           · rw [if_pos c15] at H
             have c15b0 := decide_eq_true c15
             clear c15
             by_cases c17 : (bt y4 x6_2) = 37
             · rw [if_pos c17] at H
               have c17b0 := eb_ c17
               have c17b1 := nb_ c17
               clear c17
               by_cases c18 : (wrap64 (x6_2 + 2)) ≥ (y4.size : Int)
               · rw [if_pos c18] at H
                 have c18b0 : decide ((y4.size : Int) ≤ (wrap64 (x6_2 + 2))) = true := decide_eq_true c18
                 clear c18
                 simp only [Option.some.injEq, Prod.mk.injEq] at H
                 obtain ⟨rfl, rfl⟩ := H
                 have p16 : 0 ≤ (x6_2 : Int) := od_
                 have q16 : x6_2 < (y4.size : Int) := od_
                 have hx16 := bt_at y4 x6_2
                 replace p16 := eq_true p16
                 replace q16 := eq_true q16
                 go_wp2
                 go_ret2
                 exact ⟨re_, cb_ HB⟩
               rw [if_neg c18] at H
               have c18b0 : decide ((y4.size : Int) ≤ (wrap64 (x6_2 + 2))) = false := decide_eq_false c18
               clear c18
               obtain ⟨ji19, hji19⟩ : ∃ j_ : Int, (wrap64 (x6_2 + 1)) = j_ := ⟨_, rfl⟩
               replace H : (if 0 ≤ (ji19) then (if (ji19) < (y4.size : Int) then ((strings_IndexByte.f (⟨#[48, 49, 50, 51, 52, 53, 54, 55, 56, 57, 65, 66, 67, 68, 69, 70]⟩ : ByteArray) (bt y4 (ji19))).bind fun t622 => (if 0 ≤ (wrap64 (x6_2 + 2)) then (if (wrap64 (x6_2 + 2)) < (y4.size : Int) then ((strings_IndexByte.f (⟨#[48, 49, 50, 51, 52, 53, 54, 55, 56, 57, 65, 66, 67, 68, 69, 70]⟩ : ByteArray) (bt y4 (wrap64 (x6_2 + 2)))).bind fun t623 => (if t622 < 0 then (some ((⟨#[]⟩ : ByteArray), false)) else (if t623 < 0 then (some ((⟨#[]⟩ : ByteArray), false)) else (if x5_2.length < 140737488355328 then (script_unquote.l0 k2 a0 y4 (x5_2 ++ [(wrap64 ((wrap64 (16 * t622)) + t623)) % 256]) (wrap64 ((wrap64 (x6_2 + 2)) + 1))) else (none))))) else (none)) else (none))) else (none)) else (none)) = some (r1, r2) := by first | (rw [hji19] at H; exact H) | (simp only [hji19] at H ⊢; exact H)
               have hji19w : (IntKind.i64.wrap (x6_2 + 1)) = ji19 := (i64_w _).trans hji19
               by_cases c20 : 0 ≤ (ji19)
               · rw [if_pos c20] at H
                 have c20b0 := decide_eq_true c20
                 clear c20
                 by_cases c21 : (ji19) < (y4.size : Int)
                 · rw [if_pos c21] at H
                   have c21b0 := decide_eq_true c21
                   clear c21
                   replace H := Option.bind_eq_some_iff.mp H
                   obtain ⟨t622, A230, H⟩ := H
                   have A23 := am_ A230
                   clear A230
                   obtain ⟨ji24, hji24⟩ : ∃ j_ : Int, (wrap64 (x6_2 + 2)) = j_ := ⟨_, rfl⟩
                   replace H : (if 0 ≤ (ji24) then (if (ji24) < (y4.size : Int) then ((strings_IndexByte.f (⟨#[48, 49, 50, 51, 52, 53, 54, 55, 56, 57, 65, 66, 67, 68, 69, 70]⟩ : ByteArray) (bt y4 (ji24))).bind fun t623 => (if t622 < 0 then (some ((⟨#[]⟩ : ByteArray), false)) else (if t623 < 0 then (some ((⟨#[]⟩ : ByteArray), false)) else (if x5_2.length < 140737488355328 then (script_unquote.l0 k2 a0 y4 (x5_2 ++ [(wrap64 ((wrap64 (16 * t622)) + t623)) % 256]) (wrap64 ((ji24) + 1))) else (none))))) else (none)) else (none)) = some (r1, r2) := by first | (rw [hji24] at H; exact H) | (simp only [hji24] at H ⊢; exact H)
                   (try rw [hji24] at c18b0)
                   (try rw [hji24] at A23)
                   have hji24w : (IntKind.i64.wrap (x6_2 + 2)) = ji24 := (i64_w _).trans hji24
                   by_cases c25 : 0 ≤ (ji24)
                   · rw [if_pos c25] at H
                     have c25b0 := decide_eq_true c25
                     clear c25
                     by_cases c26 : (ji24) < (y4.size : Int)
                     · rw [if_pos c26] at H
                       have c26b0 := decide_eq_true c26
                       clear c26
                       replace H := Option.bind_eq_some_iff.mp H
                       obtain ⟨t623, A280, H⟩ := H
                       have A28 := am_ A280
                       clear A280
                       by_cases c29 : t622 < 0
                       · rw [if_pos c29] at H
                         have c29b0 := decide_eq_true c29
                         clear c29
                         simp only [Option.some.injEq, Prod.mk.injEq] at H
                         obtain ⟨rfl, rfl⟩ := H
                         have p16 : 0 ≤ (x6_2 : Int) := od_
                         have q16 : x6_2 < (y4.size : Int) := od_
                         have hx16 := bt_at y4 x6_2
                         replace p16 := eq_true p16
                         replace q16 := eq_true q16
                         try go_wp2
                         replace HO_5 := am_ (r3_ HO_5.out)
                         replace HB := am_ (b3_ HB.out)
                         have p22 : 0 ≤ ((ji19) : Int) := od_
                         have q22 : (ji19) < (y4.size : Int) := od_
                         have hx22 := bt_at y4 (ji19)
                         replace p22 := eq_true p22
                         replace q22 := eq_true q22
                         have p27 : 0 ≤ ((ji24) : Int) := od_
                         have q27 : (ji24) < (y4.size : Int) := od_
                         have hx27 := bt_at y4 (ji24)
                         replace p27 := eq_true p27
                         replace q27 := eq_true q27
                         refine start_ (n := 12) (S := fun w' => True) (ds := []) (bs_ 12 0) (by kernel_rfl) rfl rfl trivial (fun hHeld => ?_); refine with_tabW script_unquote.tab12 script_unquote.bits12 (fun HT_ HW_ => ?_)
                         generalize wr.drew = w30 at HO_5 HB hHeld ⊢
                         refine pB_ HT_ 0 51 (bs_ 12 1) ?_
                         refine pB_ HT_ 1 52 (bs_ 12 3) ?_
                         refine pB_ HT_ 2 53 (bs_ 12 7) ?_
                         refine pB_ HT_ 5 56 (bs_ 12 39) ?_
                         refine pB_ HT_ 6 57 (bs_ 12 103) ?_
                         refine pB_ HT_ 7 58 (bs_ 12 231) ?_
                         refine tB_ HT_ HW_ hHeld 3 54 (bs_ 12 239) ?_
                         refine tB_ HT_ HW_ hHeld 8 59 (bs_ 12 495) ?_
                         refine oB_ HT_ 4 55 (bs_ 12 511) (fun K hK => ?_)
                         refine goes_ Tryz.func82 (by kernel_rfl) rfl #[.string (⟨#[48, 49, 50, 51, 52, 53, 54, 55, 56, 57, 65, 66, 67, 68, 69, 70]⟩ : ByteArray), .int .u8 (bt y4 (ji19))] (by rfl) rfl rfl (by (try simp only [aT, aK, aL]); first | done | (simp only [hji19]; rfl) | rfl | (simp only [List.length_drop, List.length_take]; rfl)) ?_
                         with_reducible refine (strings_IndexByte.calls (⟨#[48, 49, 50, 51, 52, 53, 54, 55, 56, 57, 65, 66, 67, 68, 69, 70]⟩ : ByteArray) (bt y4 (ji19)) _ _ A23.out).mono ?_
                         rintro e w' ⟨rfl, ⟨nd, rfl⟩⟩
                         refine ⟨_, rfl, ?_⟩
                         refine hK.out _ _ trivial (fun hHeld => ?_)
                         clear hK K
                         refine nA_ ?_
                         refine oB_ HT_ 9 60 (bs_ 12 1023) (fun K hK => ?_)
                         refine goes_ Tryz.func82 (by kernel_rfl) rfl #[.string (⟨#[48, 49, 50, 51, 52, 53, 54, 55, 56, 57, 65, 66, 67, 68, 69, 70]⟩ : ByteArray), .int .u8 (bt y4 (ji24))] (by rfl) rfl rfl (by (try simp only [aT, aK, aL]); first | done | (simp only [hji24]; rfl) | rfl | (simp only [List.length_drop, List.length_take]; rfl)) ?_
                         with_reducible refine (strings_IndexByte.calls (⟨#[48, 49, 50, 51, 52, 53, 54, 55, 56, 57, 65, 66, 67, 68, 69, 70]⟩ : ByteArray) (bt y4 (ji24)) _ _ A28.out).mono ?_
                         rintro e w' ⟨rfl, ⟨nd, rfl⟩⟩
                         refine ⟨_, rfl, ?_⟩
                         refine hK.out _ _ trivial (fun hHeld => ?_)
                         clear hK K
                         refine nA_ ?_
                         refine pB_ HT_ 10 7 (bs_ 12 2047) ?_
                         refine pB_ HT_ 11 8 (bs_ 12 4095) ?_
                         refine done_ (done_of HT_.out (by kernel_rfl)) ?_
                         try go_wp2
                         go_ret2
                         exact ⟨by first | rfl | (simp [errW_none, errW_some] <;> rfl) | (simp only [← hji19, ← hji24]; first | rfl | (simp [errW_none, errW_some] <;> rfl)) | (simp [*, errW_none, errW_some] <;> rfl), cb_ HB⟩
                       rw [if_neg c29] at H
                       have c29b0 := decide_eq_false c29
                       clear c29
                       by_cases c31 : t623 < 0
                       · rw [if_pos c31] at H
                         have c31b0 := decide_eq_true c31
                         clear c31
                         simp only [Option.some.injEq, Prod.mk.injEq] at H
                         obtain ⟨rfl, rfl⟩ := H
                         have p16 : 0 ≤ (x6_2 : Int) := od_
                         have q16 : x6_2 < (y4.size : Int) := od_
                         have hx16 := bt_at y4 x6_2
                         replace p16 := eq_true p16
                         replace q16 := eq_true q16
                         try go_wp2
                         replace HO_5 := am_ (r3_ HO_5.out)
                         replace HB := am_ (b3_ HB.out)
                         have p22 : 0 ≤ ((ji19) : Int) := od_
                         have q22 : (ji19) < (y4.size : Int) := od_
                         have hx22 := bt_at y4 (ji19)
                         replace p22 := eq_true p22
                         replace q22 := eq_true q22
                         have p27 : 0 ≤ ((ji24) : Int) := od_
                         have q27 : (ji24) < (y4.size : Int) := od_
                         have hx27 := bt_at y4 (ji24)
                         replace p27 := eq_true p27
                         replace q27 := eq_true q27
                         refine start_ (n := 12) (S := fun w' => True) (ds := []) (bs_ 12 0) (by kernel_rfl) rfl rfl trivial (fun hHeld => ?_); refine with_tabW script_unquote.tab12 script_unquote.bits12 (fun HT_ HW_ => ?_)
                         generalize wr.drew = w32 at HO_5 HB hHeld ⊢
                         refine pB_ HT_ 0 51 (bs_ 12 1) ?_
                         refine pB_ HT_ 1 52 (bs_ 12 3) ?_
                         refine pB_ HT_ 2 53 (bs_ 12 7) ?_
                         refine pB_ HT_ 5 56 (bs_ 12 39) ?_
                         refine pB_ HT_ 6 57 (bs_ 12 103) ?_
                         refine pB_ HT_ 7 58 (bs_ 12 231) ?_
                         refine tB_ HT_ HW_ hHeld 3 54 (bs_ 12 239) ?_
                         refine tB_ HT_ HW_ hHeld 8 59 (bs_ 12 495) ?_
                         refine oB_ HT_ 4 55 (bs_ 12 511) (fun K hK => ?_)
                         refine goes_ Tryz.func82 (by kernel_rfl) rfl #[.string (⟨#[48, 49, 50, 51, 52, 53, 54, 55, 56, 57, 65, 66, 67, 68, 69, 70]⟩ : ByteArray), .int .u8 (bt y4 (ji19))] (by rfl) rfl rfl (by (try simp only [aT, aK, aL]); first | done | (simp only [hji19]; rfl) | rfl | (simp only [List.length_drop, List.length_take]; rfl)) ?_
                         with_reducible refine (strings_IndexByte.calls (⟨#[48, 49, 50, 51, 52, 53, 54, 55, 56, 57, 65, 66, 67, 68, 69, 70]⟩ : ByteArray) (bt y4 (ji19)) _ _ A23.out).mono ?_
                         rintro e w' ⟨rfl, ⟨nd, rfl⟩⟩
                         refine ⟨_, rfl, ?_⟩
                         refine hK.out _ _ trivial (fun hHeld => ?_)
                         clear hK K
                         refine nA_ ?_
                         refine oB_ HT_ 9 60 (bs_ 12 1023) (fun K hK => ?_)
                         refine goes_ Tryz.func82 (by kernel_rfl) rfl #[.string (⟨#[48, 49, 50, 51, 52, 53, 54, 55, 56, 57, 65, 66, 67, 68, 69, 70]⟩ : ByteArray), .int .u8 (bt y4 (ji24))] (by rfl) rfl rfl (by (try simp only [aT, aK, aL]); first | done | (simp only [hji24]; rfl) | rfl | (simp only [List.length_drop, List.length_take]; rfl)) ?_
                         with_reducible refine (strings_IndexByte.calls (⟨#[48, 49, 50, 51, 52, 53, 54, 55, 56, 57, 65, 66, 67, 68, 69, 70]⟩ : ByteArray) (bt y4 (ji24)) _ _ A28.out).mono ?_
                         rintro e w' ⟨rfl, ⟨nd, rfl⟩⟩
                         refine ⟨_, rfl, ?_⟩
                         refine hK.out _ _ trivial (fun hHeld => ?_)
                         clear hK K
                         refine nA_ ?_
                         refine pB_ HT_ 10 7 (bs_ 12 2047) ?_
                         refine pB_ HT_ 11 8 (bs_ 12 4095) ?_
                         refine done_ (done_of HT_.out (by kernel_rfl)) ?_
                         try go_wp2
                         go_ret2
                         exact ⟨by first | rfl | (simp [errW_none, errW_some] <;> rfl) | (simp only [← hji19, ← hji24]; first | rfl | (simp [errW_none, errW_some] <;> rfl)) | (simp [*, errW_none, errW_some] <;> rfl), cb_ HB⟩
                       rw [if_neg c31] at H
                       have c31b0 := decide_eq_false c31
                       clear c31
                       by_cases c33 : x5_2.length < 140737488355328
                       · rw [if_pos c33] at H
                         have LMc33 := am_ c33
                         clear c33
                         obtain ⟨y624, hy624⟩ : ∃ y_ : List Int, y_ = (x5_2 ++ [(wrap64 ((wrap64 (16 * t622)) + t623)) % 256]) := ⟨_, rfl⟩
                         replace H : (script_unquote.l0 k2 a0 y4 y624 (wrap64 ((ji24) + 1))) = some (r1, r2) := by first | (rw [hy624]; with_reducible exact H) | (have H2_ := (Option.bind_some _ _).symm.trans H; rw [hy624]; with_reducible exact H2_) | (have H2_ := (Option.bind_some _ _).symm.trans H; with_reducible exact H2_) | with_reducible exact H | (rw [hy624]; exact H) | exact H
                         have Ny624 := am_ hy624
                         clear hy624
                         have H' := am_ H
                         clear H
                         have p16 : 0 ≤ (x6_2 : Int) := od_
                         have q16 : x6_2 < (y4.size : Int) := od_
                         have hx16 := bt_at y4 x6_2
                         replace p16 := eq_true p16
                         replace q16 := eq_true q16
                         try go_wp2
                         replace HO_5 := am_ (r3_ HO_5.out)
                         replace HB := am_ (b3_ HB.out)
                         have p22 : 0 ≤ ((ji19) : Int) := od_
                         have q22 : (ji19) < (y4.size : Int) := od_
                         have hx22 := bt_at y4 (ji19)
                         replace p22 := eq_true p22
                         replace q22 := eq_true q22
                         have p27 : 0 ≤ ((ji24) : Int) := od_
                         have q27 : (ji24) < (y4.size : Int) := od_
                         have hx27 := bt_at y4 (ji24)
                         replace p27 := eq_true p27
                         replace q27 := eq_true q27
                         refine start_ (n := 12) (S := fun w' => True) (ds := []) (bs_ 12 0) (by kernel_rfl) rfl rfl trivial (fun hHeld => ?_); refine with_tabW script_unquote.tab12 script_unquote.bits12 (fun HT_ HW_ => ?_)
                         generalize wr.drew = w34 at HO_5 HB hHeld ⊢
                         refine pB_ HT_ 0 51 (bs_ 12 1) ?_
                         refine pB_ HT_ 1 52 (bs_ 12 3) ?_
                         refine pB_ HT_ 2 53 (bs_ 12 7) ?_
                         refine pB_ HT_ 5 56 (bs_ 12 39) ?_
                         refine pB_ HT_ 6 57 (bs_ 12 103) ?_
                         refine pB_ HT_ 7 58 (bs_ 12 231) ?_
                         refine tB_ HT_ HW_ hHeld 3 54 (bs_ 12 239) ?_
                         refine tB_ HT_ HW_ hHeld 8 59 (bs_ 12 495) ?_
                         refine oB_ HT_ 4 55 (bs_ 12 511) (fun K hK => ?_)
                         refine goes_ Tryz.func82 (by kernel_rfl) rfl #[.string (⟨#[48, 49, 50, 51, 52, 53, 54, 55, 56, 57, 65, 66, 67, 68, 69, 70]⟩ : ByteArray), .int .u8 (bt y4 (ji19))] (by rfl) rfl rfl (by (try simp only [aT, aK, aL]); first | done | (simp only [hji19]; rfl) | rfl | (simp only [List.length_drop, List.length_take]; rfl)) ?_
                         with_reducible refine (strings_IndexByte.calls (⟨#[48, 49, 50, 51, 52, 53, 54, 55, 56, 57, 65, 66, 67, 68, 69, 70]⟩ : ByteArray) (bt y4 (ji19)) _ _ A23.out).mono ?_
                         rintro e w' ⟨rfl, ⟨nd, rfl⟩⟩
                         refine ⟨_, rfl, ?_⟩
                         refine hK.out _ _ trivial (fun hHeld => ?_)
                         clear hK K
                         refine nA_ ?_
                         refine oB_ HT_ 9 60 (bs_ 12 1023) (fun K hK => ?_)
                         refine goes_ Tryz.func82 (by kernel_rfl) rfl #[.string (⟨#[48, 49, 50, 51, 52, 53, 54, 55, 56, 57, 65, 66, 67, 68, 69, 70]⟩ : ByteArray), .int .u8 (bt y4 (ji24))] (by rfl) rfl rfl (by (try simp only [aT, aK, aL]); first | done | (simp only [hji24]; rfl) | rfl | (simp only [List.length_drop, List.length_take]; rfl)) ?_
                         with_reducible refine (strings_IndexByte.calls (⟨#[48, 49, 50, 51, 52, 53, 54, 55, 56, 57, 65, 66, 67, 68, 69, 70]⟩ : ByteArray) (bt y4 (ji24)) _ _ A28.out).mono ?_
                         rintro e w' ⟨rfl, ⟨nd, rfl⟩⟩
                         refine ⟨_, rfl, ?_⟩
                         refine hK.out _ _ trivial (fun hHeld => ?_)
                         clear hK K
                         refine nA_ ?_
                         refine pB_ HT_ 10 7 (bs_ 12 2047) ?_
                         refine pB_ HT_ 11 8 (bs_ 12 4095) ?_
                         refine done_ (done_of HT_.out (by kernel_rfl)) ?_
                         try go_wp2_with (first | ((with_reducible refine gate_builtin (b := .append) (xs := #[.tmp 67, .tmp 73]) rfl ?_); (try (refine gate_guard (by rfl) ?_; dsimp only)); at_builtin; refine Kd.R_append (Kd.int .u8) (w0 := w) w.heap.size rfl (.tmp 67) (.tmp 73) 38 5 (.int .u8 0) 1 rfl Tryz.underlying38 info5 rfl (by decide) (by omega) u5 x5_2 ((wrap64 ((wrap64 (16 * t622)) + t623)) % 256) [.int .u8 ((wrap64 ((wrap64 (16 * t622)) + t623)) % 256)] (fun _ => True) (fun _ => False) rfl rfl ?aP (fun _ hk => hk.elim) ?aF ?aO ?aB ?aS ?aL ?_; (case aP => exact rfl); (case aB => exact (cb_ HB)); (case aF => exact (fun _ _ => trivial)); (case aO => exact (cq_ HO_5)); (case aS => exact (below_size (cb_ HB))); (case aL => have := LMc33.out; omega); intro v625 w35 ho hb hg hat; rw [← Ny624.out] at ho; replace HB := am_ (hb); have HO626 := am_ (ho); clear HO_5; clear ho hb hg hat))
                         go_roundg k2
                         case measure => have := HJ1.out; have := HK2.out; omega
                         case rel => exact ⟨(y624), (wrap64 ((ji24) + 1)), (by first | rfl | (simp; done) | (simp only [← hji24] <;> (first | rfl | simp)) | (simp [*]; done)), H', ⟨by have := HJ1.out; have := HK2.out; omega⟩, cr_ HO626, ⟨cb_ HB⟩⟩
                       rw [if_neg c33] at H
                       exact absurd H (by simp)
                     rw [if_neg c26] at H
                     exact absurd H (by simp)
                   rw [if_neg c25] at H
                   exact absurd H (by simp)
                 rw [if_neg c21] at H
                 exact absurd H (by simp)
               rw [if_neg c20] at H
               exact absurd H (by simp)
             rw [if_neg c17] at H
             have c17b0 := ec_ c17
             have c17b1 := nc_ c17
             by_cases c37 : x5_2.length < 140737488355328
             · rw [if_pos c37] at H
               have LMc37 := am_ c37
               clear c37
               obtain ⟨y619, hy619⟩ : ∃ y_ : List Int, y_ = (x5_2 ++ [bt y4 x6_2]) := ⟨_, rfl⟩
               replace H : (script_unquote.l0 k2 a0 y4 y619 (wrap64 (x6_2 + 1))) = some (r1, r2) := by first | (rw [hy619]; with_reducible exact H) | (have H2_ := (Option.bind_some _ _).symm.trans H; rw [hy619]; with_reducible exact H2_) | (have H2_ := (Option.bind_some _ _).symm.trans H; with_reducible exact H2_) | with_reducible exact H | (rw [hy619]; exact H) | exact H
               have Ny619 := am_ hy619
               clear hy619
               have H' := am_ H
               clear H
               have p16 : 0 ≤ (x6_2 : Int) := od_
               have q16 : x6_2 < (y4.size : Int) := od_
               have hx16 := bt_at y4 x6_2
               replace p16 := eq_true p16
               replace q16 := eq_true q16
               have p36 : 0 ≤ (x6_2 : Int) := od_
               have q36 : x6_2 < (y4.size : Int) := od_
               have hx36 := bt_at y4 x6_2
               replace p36 := eq_true p36
               replace q36 := eq_true q36
               go_wp2_with (first | ((with_reducible refine gate_builtin (b := .append) (xs := #[.tmp 40, .tmp 44]) rfl ?_); (try (refine gate_guard (by rfl) ?_; dsimp only)); at_builtin; refine Kd.R_append (Kd.int .u8) (w0 := w) w.heap.size rfl (.tmp 40) (.tmp 44) 38 5 (.int .u8 0) 1 rfl Tryz.underlying38 info5 rfl (by decide) (by omega) u5 x5_2 (bt y4 x6_2) [.int .u8 (bt y4 x6_2)] (fun _ => True) (fun _ => False) rfl rfl ?aP (fun _ hk => hk.elim) ?aF ?aO ?aB ?aS ?aL ?_; (case aP => exact rfl); (case aB => exact (cb_ HB)); (case aF => exact (fun _ _ => trivial)); (case aO => exact (cq_ HO_5)); (case aS => exact (below_size (cb_ HB))); (case aL => have := LMc37.out; omega); intro v620 w38 ho hb hg hat; rw [← Ny619.out] at ho; replace HB := am_ (hb); have HO621 := am_ (ho); clear HO_5; clear ho hb hg hat))
               go_roundg k2
               case measure => have := HJ1.out; have := HK2.out; omega
               case rel => exact ⟨(y619), (wrap64 (x6_2 + 1)), rf_, H', ⟨by have := HJ1.out; have := HK2.out; omega⟩, cr_ HO621, ⟨cb_ HB⟩⟩
             rw [if_neg c37] at H
             exact absurd H (by simp)
           rw [if_neg c15] at H
           exact absurd H (by simp)
         rw [if_neg c14] at H
         have c14b0 := decide_eq_false c14
         clear c14
         replace H := Option.bind_eq_some_iff.mp H
         obtain ⟨t618, A390, H⟩ := H
         have A39 := am_ A390
         clear A390
         simp only [Option.some.injEq, Prod.mk.injEq] at H
         obtain ⟨rfl, rfl⟩ := H
         try go_wp2
         replace HO_5 := am_ (r3_ HO_5.out)
         replace HB := am_ (b3_ HB.out)
         refine start_ (n := 9) (S := fun w' => (convert 38 9 u5).run Tryz.prog w' = .ok (.string (strOfNums x5_2)) w' ∧ (convert 38 9 u5).run Tryz.prog w' = .ok (.string (strOfNums x5_2)) w') (ds := []) (bs_ 9 0) (by kernel_rfl) rfl rfl ⟨own_string (P := Tryz.prog) Tryz.underlying38 Tryz.underlying5 Tryz.underlying9 (Kd.own_of_R HO_5.out), own_string (P := Tryz.prog) Tryz.underlying38 Tryz.underlying5 Tryz.underlying9 (Kd.own_of_R HO_5.out)⟩ (fun hHeld => ?_); refine with_tabW script_unquote.tab17 script_unquote.bits17 (fun HT_ HW_ => ?_)
         generalize wr.drew = w40 at HO_5 HB hHeld ⊢
         refine pB_ HT_ 0 77 (bs_ 9 1) ?_
         refine pB_ HT_ 2 79 (bs_ 9 5) ?_
         refine pB_ HT_ 5 82 (bs_ 9 37) ?_
         refine tB_ HT_ HW_ hHeld 1 78 (bs_ 9 39) ?_
         refine tB_ HT_ HW_ hHeld 3 80 (bs_ 9 47) ?_
         refine oB_ HT_ 4 81 (bs_ 9 63) (fun K hK => ?_)
         refine goes_ Tryz.func20 (by kernel_rfl) rfl #[.string (strOfNums x5_2)] (by rfl) rfl rfl ha_ ?_
         with_reducible refine (script_Quote.calls (strOfNums x5_2) t618 _ ?side1 A39.out).mono ?_
         (case side1 => exact sc.Env.below HE.out (cb_ HB))
         rintro e w41 ⟨rfl, hb⟩
         refine ⟨_, rfl, ?_⟩
         replace HO_5 := am_ (Kd.R_below (cq_ HO_5) hb)
         replace HB := am_ (below_step (cb_ HB) hb)
         (try clear hb)
         (try clear hk)
         refine hK.out _ _ ⟨own_string (P := Tryz.prog) Tryz.underlying38 Tryz.underlying5 Tryz.underlying9 (Kd.own_of_R HO_5.out), own_string (P := Tryz.prog) Tryz.underlying38 Tryz.underlying5 Tryz.underlying9 (Kd.own_of_R HO_5.out)⟩ (fun hHeld => ?_)
         clear hK K
         refine nA_ ?_
         refine pB_ HT_ 6 83 (bs_ 9 127) ?_
         refine pB_ HT_ 7 2 (bs_ 9 255) ?_
         refine pB_ HT_ 8 3 (bs_ 9 511) ?_
         refine done_ (done_of HT_.out (by kernel_rfl)) ?_
         try go_wp2
         go_ret2
         exact ⟨re_, cb_ HB⟩
     rw [if_neg c13] at H
     exact absurd H (by simp)
   rw [if_neg c12] at H
   exact absurd H (by simp)
end Go.Proofs.YtndbbgihpoiojaaGreatDoor.Q
namespace Go.Proofs.YtndbbgihpoiojaaGreatDoor.sc
open Go.RowKit Go.Proofs.YtndbbgihpoiojaaGreatDoor.wld
def hexV (c : UInt8) : Option Nat := if 48 ≤ c.toNat ∧ c.toNat ≤ 57 then some (c.toNat - 48) else if 65 ≤ c.toNat ∧ c.toNat ≤ 70 then some (c.toNat - 55) else none
def unqL : List UInt8 → Option (List UInt8)
 | [] => some []
 | c :: r => if c ≠ 37 then (unqL r).map (c :: ·) else match r with
  | a :: b :: r' => match hexV a, hexV b with
   | some x, some y => (unqL r').map (UInt8.ofNat (16 * x + y) :: ·)
   | _, _ => none
  | _ => none
def unquoteL (w : List UInt8) : Option (List UInt8) :=
 if 2 ≤ w.length ∧ w.head? = some 34 ∧ w.getLast? = some 34 then match unqL ((w.drop 1).take (w.length - 2)) with
  | some b => if quoteL b = w then some b else none
  | none => none
 else none
theorem hexV_index (c : UInt8) : Lib.indexByte [48, 49, 50, 51, 52, 53, 54, 55, 56, 57, 65, 66, 67, 68, 69, 70] c = match hexV c with
 | some k => (k : Int)
 | none => -1 := by
 have : ∀ n : Fin 256, Lib.indexByte [48, 49, 50, 51, 52, 53, 54, 55, 56, 57, 65, 66, 67, 68, 69, 70] (UInt8.ofNat n.val) = match hexV (UInt8.ofNat n.val) with
  | some k => (k : Int)
  | none => -1 := by decide +kernel
 have h := this ⟨c.toNat, UInt8.toNat_lt c⟩
 simpa using h
theorem hexV_lt {c : UInt8} {k : Nat} (h : hexV c = some k) : k < 16 := by
 unfold hexV at h
 split at h
 · have := Option.some.inj h; omega
 split at h
 · have := Option.some.inj h; omega
 cases h
theorem unqL_plain {c : UInt8} (r : List UInt8) (h : c ≠ 37) : unqL (c :: r) = (unqL r).map (c :: ·) := by
 rw [unqL.eq_def]; simp [h]
theorem unqL_short (r : List UInt8) (h : r.length < 2) : unqL (37 :: r) = none := by
 rw [unqL.eq_def]
 cases r with
 | nil => simp
 | cons a r =>
  cases r with
  | nil => simp
  | cons b r => simp at h; omega
theorem unqL_pct (a b : UInt8) (r : List UInt8) : unqL (37 :: a :: b :: r) = match hexV a, hexV b with
 | some x, some y => (unqL r).map (UInt8.ofNat (16 * x + y) :: ·)
 | _, _ => none := by
 rw [unqL.eq_def]; simp
theorem unqL_len : ∀ (n : Nat) (l b : List UInt8), l.length ≤ n → unqL l = some b → b.length ≤ l.length := by
 intro n
 induction n with
 | zero =>
  intro l b hl h
  cases l with
  | nil => rw [unqL.eq_def] at h; cases h; exact Nat.le_refl _
  | cons c r => simp at hl
 | succ n ih =>
  intro l b hl h
  cases l with
  | nil => rw [unqL.eq_def] at h; cases h; exact Nat.le_refl _
  | cons c r =>
   by_cases hc : c = 37
   · subst hc
     rcases r with _ | ⟨x, _ | ⟨y, r⟩⟩
     · rw [unqL_short _ (by simp)] at h; cases h
     · rw [unqL_short _ (by simp)] at h; cases h
     rw [unqL_pct] at h
     cases hx : hexV x with
     | none => rw [hx] at h; cases h
     | some u => cases hy : hexV y with
      | none => rw [hx, hy] at h; cases h
      | some v =>
       rw [hx, hy] at h
       simp only [Option.map_eq_some_iff] at h
       obtain ⟨b', h1, rfl⟩ := h
       have := ih r b' (by simp at hl; omega) h1
       simp; omega
   rw [unqL_plain r hc] at h
   simp only [Option.map_eq_some_iff] at h
   obtain ⟨b', h1, rfl⟩ := h
   have := ih r b' (by simp at hl; omega) h1
   simp; omega
end Go.Proofs.YtndbbgihpoiojaaGreatDoor.sc
namespace Go.Proofs.YtndbbgihpoiojaaGreatDoor.Q
open Go.RowKit Go.Proofs.YtndbbgihpoiojaaGreatDoorW.PrintWords Go.Proofs.YtndbbgihpoiojaaGreatDoorW.PrintLast
open sc (hexV unqL unquoteL quoteL)
theorem hexIdx (c : UInt8) : strings_IndexByte.f (⟨#[48, 49, 50, 51, 52, 53, 54, 55, 56, 57, 65, 66, 67, 68, 69, 70]⟩ : ByteArray) (c.toNat : Int) = some (match hexV c with
 | some k => (k : Int)
 | none => -1) := by
 unfold strings_IndexByte.f
 rw [← sc.hexV_index]
 simp
def unqEnd (x0 : ByteArray) (acc : List UInt8) : Option (List UInt8) → Option (ByteArray × Bool)
 | some r => some (⟨(acc ++ r).toArray⟩, quoteL (acc ++ r) == x0.data.toList)
 | none => some (⟨#[]⟩, false)
theorem unqEnd_map (x0 : ByteArray) (acc : List UInt8) (c : UInt8) (o : Option (List UInt8)) : unqEnd x0 acc (o.map (c :: ·)) = unqEnd x0 (acc ++ [c]) o := by
 cases o <;> simp [unqEnd]
theorem unquote_l0 (x0 : ByteArray) (L : List UInt8) (hL : L.length ≤ 70000) : ∀ (d i : Nat) (acc : List UInt8) (k : Nat), i + d = L.length → acc.length ≤ i → d < k →
 script_unquote.l0 k x0 ⟨L.toArray⟩ (nums8 acc) (i : Int) = unqEnd x0 acc (unqL (L.drop i)) := by
 intro d
 induction d using Nat.strongRecOn with
 | _ d ih =>
  intro i acc k hi ha hk
  obtain ⟨k, rfl⟩ : ∃ m, k = m + 1 := ⟨k - 1, by omega⟩
  simp only [script_unquote.l0, size_mk]
  by_cases hlt : i < L.length
  · rw [if_pos (by omega), if_pos (by omega), bt_lit L i hlt, List.drop_eq_getElem_cons hlt]
    by_cases h37 : L[i] = 37
    · rw [if_pos (by rw [h37]; rfl), h37, w64 (by omega) (by omega), w64 (by omega) (by omega)]
      by_cases h2 : i + 2 < L.length
      · rw [if_neg (by omega), if_pos (by omega), if_pos (by omega), show ((i : Int) + 1) = ((i + 1 : Nat) : Int) by omega, show ((i : Int) + 2) = ((i + 2 : Nat) : Int) by omega, bt_lit L (i + 1) (by omega), bt_lit L (i + 2) h2, hexIdx, hexIdx]
        simp only [Option.bind_some]
        rw [if_pos (by omega), if_pos (by omega), List.drop_eq_getElem_cons (by omega : i + 1 < L.length), List.drop_eq_getElem_cons h2, sc.unqL_pct]
        cases hx : hexV L[i + 1] with
        | none => simp [unqEnd]
        | some x =>
         simp only
         rw [if_neg (by omega)]
         cases hy : hexV L[i + 2] with
         | none => simp [unqEnd]
         | some y =>
          have h1 := sc.hexV_lt hx
          have h2 := sc.hexV_lt hy
          simp only
          rw [if_neg (by omega), if_pos (by rw [nums8_length]; omega), w64 (x := 16 * (x : Int)) (by omega) (by omega), w64 (x := 16 * (x : Int) + (y : Int)) (by omega) (by omega), w64 (by omega) (by omega), unqEnd_map]
          have e1 : nums8 acc ++ [(16 * (x : Int) + (y : Int)) % 256] = nums8 (acc ++ [UInt8.ofNat (16 * x + y)]) := by
           rw [nums8_append]
           simp [nums8]
          rw [e1, show ((i + 2 : Nat) : Int) + 1 = ((i + 3 : Nat) : Int) by omega]
          exact ih (d - 3) (by omega) (i + 3) _ k (by omega) (by simp; omega) (by omega)
      rw [if_pos (by omega), sc.unqL_short _ (by rw [List.length_drop]; omega)]
      rfl
    have hne : ¬ ((L[i].toNat : Int) = 37) := by
     intro e
     apply h37
     apply UInt8.toNat_inj.mp
     have : L[i].toNat = 37 := by omega
     rw [this]
     rfl
    rw [if_neg hne, if_pos (by rw [nums8_length]; omega), sc.unqL_plain _ h37, unqEnd_map, w64 (by omega) (by omega), show ((i : Int) + 1) = ((i + 1 : Nat) : Int) by omega]
    rw [show nums8 acc ++ [(L[i].toNat : Int)] = nums8 (acc ++ [L[i]]) by rw [nums8_append]; rfl]
    exact ih (d - 1) (by omega) (i + 1) _ k (by omega) (by simp; omega) (by omega)
  have hd : L.drop i = [] := List.drop_of_length_le (by omega)
  rw [if_neg (by omega), hd]
  unfold script_Quote.f
  rw [strOf_nums8, size_mk, if_pos (by omega)]
  simp only [Option.bind_some, toList_data, unqEnd, unqL, List.append_nil]
theorem unquote_spec (s : ByteArray) (hs : s.size ≤ 65536) : ∃ k t, script_unquote.f k s = some (t, (unquoteL s.data.toList).isSome) ∧ (∀ u, unquoteL s.data.toList = some u → t = ⟨u.toArray⟩) ∧ t.size ≤ s.size := by
 have hl := data_length s
 refine ⟨s.size + 2, ?_⟩
 unfold script_unquote.f
 by_cases h2 : s.size < 2
 · rw [if_pos (by omega)]
   have : unquoteL s.data.toList = none := by
    unfold sc.unquoteL
    rw [if_neg (by omega)]
   rw [this]
   exact ⟨_, by simp only [script_unquote.j0]; rfl, (fun u hu => by cases hu), Nat.zero_le _⟩
 rw [if_neg (by omega), if_pos (by omega)]
 have e0 := bt_nat s 0 (by omega)
 have e1 := bt_nat s (s.size - 1) (by omega)
 rw [show ((0 : Nat) : Int) = 0 from rfl] at e0
 rw [e0]
 have hh : s.data.toList.head? = some (s.data.toList[0]'(by omega)) := by
  rw [List.head?_eq_getElem?, List.getElem?_eq_getElem]
 have hg : s.data.toList.getLast? = some (s.data.toList[s.size - 1]'(by omega)) := by
  rw [List.getLast?_eq_getElem?, List.getElem?_eq_getElem (by omega)]
  simp only [hl]
 by_cases ha : s.data.toList[0]'(by omega) = 34
 · rw [if_pos (by rw [ha]; rfl), w64 (by omega) (by omega), if_pos (by omega), if_pos (by omega), show (s.size : Int) - 1 = ((s.size - 1 : Nat) : Int) by omega, e1]
   by_cases hz : s.data.toList[s.size - 1]'(by omega) = 34
   · have hb : (((s.data.toList[s.size - 1]'(by omega)).toNat : Int) != 34) = false := by rw [hz]; rfl
     rw [hb]
     simp only [script_unquote.j0]
     rw [if_neg (by decide), w64 (by omega) (by omega), if_pos (by omega), if_pos (by omega), show (s.size : Int) - 1 = ((s.size - 1 : Nat) : Int) by omega]
     have e2 : s.extract 1 (((s.size - 1 : Nat) : Int)).toNat = ⟨((s.data.toList.drop 1).take (s.data.toList.length - 2)).toArray⟩ := by
      apply ba_ext
      rw [extract_data]
      simp only [Int.toNat_natCast]
      rw [hl, show s.size - 1 - 1 = s.size - 2 by omega]
     have hq : unquoteL s.data.toList = match unqL ((s.data.toList.drop 1).take (s.data.toList.length - 2)) with
      | some b => if quoteL b = s.data.toList then some b else none
      | none => none := by
      unfold sc.unquoteL
      rw [if_pos ⟨by omega, by rw [hh, ha], by rw [hg, hz]⟩]
     rw [hq, e2]
     generalize hL : (s.data.toList.drop 1).take (s.data.toList.length - 2) = L
     have hLl : L.length ≤ s.size := by rw [← hL, List.length_take, List.length_drop]; omega
     have := unquote_l0 s L (by omega) L.length 0 [] (s.size + 1) (by omega) (by simp) (by omega)
     rw [show nums8 [] = ([] : List Int) from rfl, show ((0 : Nat) : Int) = 0 from rfl] at this
     rw [this]
     simp only [List.drop_zero]
     cases hqL : unqL L with
     | none => exact ⟨_, rfl, (fun u hu => by cases hu), Nat.zero_le _⟩
     | some b =>
      simp only [unqEnd, List.nil_append]
      have hsz : (⟨b.toArray⟩ : ByteArray).size ≤ s.size := by have := sc.unqL_len _ L b (Nat.le_refl _) hqL; show b.toArray.size ≤ _; simp; omega
      by_cases e : quoteL b = s.data.toList
      · exact ⟨⟨b.toArray⟩, by simp [e], (fun u hu => by rw [if_pos e] at hu; rw [Option.some.inj hu]), hsz⟩
      exact ⟨⟨b.toArray⟩, by simp [e], (fun u hu => by rw [if_neg e] at hu; cases hu), hsz⟩
   have hne : ¬ (((s.data.toList[s.size - 1]'(by omega)).toNat : Int) = 34) := by
    intro e
    apply hz
    apply UInt8.toNat_inj.mp
    have : (s.data.toList[s.size - 1]'(by omega)).toNat = 34 := by omega
    rw [this]; rfl
   have hb : (((s.data.toList[s.size - 1]'(by omega)).toNat : Int) != 34) = true := by simpa using hne
   rw [hb]
   have : unquoteL s.data.toList = none := by
    unfold sc.unquoteL
    rw [if_neg (by rintro ⟨_, _, h⟩; rw [hg] at h; exact hz (Option.some.inj h))]
   rw [this]
   exact ⟨_, by simp only [script_unquote.j0]; rfl, (fun u hu => by cases hu), Nat.zero_le _⟩
 have hne : ¬ (((s.data.toList[0]'(by omega)).toNat : Int) = 34) := by
  intro e
  apply ha
  apply UInt8.toNat_inj.mp
  have : (s.data.toList[0]'(by omega)).toNat = 34 := by omega
  rw [this]; rfl
 rw [if_neg hne]
 have : unquoteL s.data.toList = none := by
  unfold sc.unquoteL
  rw [if_neg (by rintro ⟨_, h, _⟩; rw [hh] at h; exact ha (Option.some.inj h))]
 rw [this]
 exact ⟨_, by simp only [script_unquote.j0]; rfl, (fun u hu => by cases hu), Nat.zero_le _⟩
end Go.Proofs.YtndbbgihpoiojaaGreatDoor.Q
namespace Go.Proofs.YtndbbgihpoiojaaGreatDoor.Q
open Go.RowKit Go.Proofs.YtndbbgihpoiojaaGreatDoorW.PrintWords Go.Proofs.YtndbbgihpoiojaaGreatDoorW.PrintLast
def script_reader_next.f (s0 : List ByteArray) (s1 : Bool) : Option (ByteArray × List ByteArray × Bool) := match s0 with
 | [] => some (⟨#[]⟩, [], true)
 | x :: l => some (x, l, s1)
theorem script_reader_next.calls (g : Nat) (s0 : List ByteArray) (s1 : Bool) (r1 : ByteArray) (r2 : List ByteArray) (r3 : Bool) (w0 w : World) (hI : IsS134 w0 w g s0 s1) (hB : Below w0.heap.size w0 w) (h : script_reader_next.f s0 s1 = some (r1, r2, r3)) :
 Calls Tryz.prog 109 #[.pointer (some ⟨g, 0, none⟩)] w fun e w' => e = .returned (.string r1) ∧ IsS134 w0 w' g r2 r3 ∧ Below w0.heap.size w0 w' ∧ KeepBut w w' g none := by
 obtain ⟨A0, c0, hb, hg, hc, hr⟩ := hI
 have h0 : w.cell? ⟨g, 0, none⟩ = some (.slice A0 s0.length c0) := (blk_cell hb 0).trans rfl
 have h1 : w.cell? ⟨g, 1, none⟩ = some (.bool s1) := (blk_cell hb 1).trans rfl
 have f0 := blk_frozen hb 0
 have f1 := blk_frozen hb 1
 cases s0 with
 | nil =>
  unfold script_reader_next.f at h
  have h' := Option.some.inj h
  injection h' with e1 h'
  injection h' with e2 e3
  subst e1 e2 e3
  have HBL := am_ hb
  have HB := am_ hB
  have HG := am_ hg
  have HR := am_ hr
  have HC := am_ hc
  clear hb hB hg hr hc h
  go_enter Tryz.func109, Tryz.ntmps109
  go_wp2
  go_ret
  exact ⟨rfl, ⟨A0, c0, by simpa using blk_set HBL.out 1 (.bool true), HG.out, HC.out, HR.out⟩, b4_ HB.out HG.out, (KeepBut.refl w g none).set_ 1 _⟩
 | cons x l =>
  unfold script_reader_next.f at h
  have h' := Option.some.inj h
  injection h' with e1 h'
  injection h' with e2 e3
  subst e1 e2 e3
  obtain ⟨ad, hA, hx⟩ := Kd.at_string hr 0 (by omega) (by simp)
  subst hA
  have hs := spot_of hx
  obtain ⟨bk, o, sp⟩ := ad
  rw [show ((0 : Int).toNat) = 0 from rfl, show ((⟨bk, o, sp⟩ : Addr).add 0) = ⟨bk, o, sp⟩ by unfold Addr.add; simp] at hx hs
  have hs' : sp = none := hs
  subst hs'
  have hx' : w.cell? ⟨bk, o, none⟩ = some (.string x) := (hB.cell (World.block_lt_of_cell? w0 _ hx)).trans hx
  have hd := Kd.C_drop (m := 1) (c := c0) hr (by simp) hc
  have HBL := am_ hb
  have HB := am_ hB
  have HG := am_ hg
  have HD := am_ hd
  clear hb hB hg hr h hx hd
  generalize hL : (x :: l).length = L at *
  have hLl : L = l.length + 1 := by simp at hL; omega
  have hL1 : (1 : Int) ≤ (L : Int) := by omega
  have hLc : L ≤ c0 := hc
  have HLL := am_ hLl
  clear hL hLl hc
  go_enter Tryz.func109, Tryz.ntmps109
  go_wp2
  · have hcc : c0 = 1 := by assumption
    go_ret
    have e1 : L - 1 = l.length := by have := HLL.out; omega
    rw [e1]
    refine ⟨rfl, ⟨_, 0, by simpa using blk_set HBL.out 0 (.slice (some ⟨bk, o, none⟩) l.length 0), HG.out, by have := HLL.out; omega, ?_⟩, b4_ HB.out HG.out, (KeepBut.refl w g none).set_ 0 _⟩
    have := HD.out
    rw [if_pos hcc] at this
    exact this
  have hcc : ¬ c0 = 1 := by assumption
  go_ret
  have e1 : L - 1 = l.length := by have := HLL.out; omega
  rw [e1]
  refine ⟨rfl, ⟨_, c0 - 1, by simpa using blk_set HBL.out 0 (.slice (some ⟨bk, o + 1, none⟩) l.length (c0 - 1)), HG.out, by have := HLL.out; omega, ?_⟩, b4_ HB.out HG.out, (KeepBut.refl w g none).set_ 0 _⟩
  have := HD.out
  rw [if_neg hcc] at this
  exact this
end Go.Proofs.YtndbbgihpoiojaaGreatDoor.Q
namespace Go.Proofs.YtndbbgihpoiojaaGreatDoor.Q
open Go.RowKit Go.Proofs.YtndbbgihpoiojaaGreatDoorW.PrintWords Go.Proofs.YtndbbgihpoiojaaGreatDoorW.PrintLast Go.Proofs.YtndbbgihpoiojaaGreatDoorW.PrintMore
attribute [local go_sem] max2_int min2_int max_two min_two max_three min_three max_four min_four   -- for this text's walks alone
def script_reader_strikes.l0 : Nat → List (List (S66)) → List ByteArray → Bool → Option ((List (List (S66))) × List ByteArray × Bool)
 | 0, _, _, _ => none
 | k + 1, x3, x1000, x1001 => if (x1000.length : Int) > 0 then ((script_reader_next.f x1000 x1001).bind fun bt656 => (if bt656.1.toList = ([47] : List UInt8) then (if x3.length < 5864062014805 then (script_reader_strikes.l0 k (x3 ++ [([] : List (S66))]) bt656.2.1 bt656.2.2) else (none)) else ((script_fate.f bt656.1).bind fun bt662 => (if bt662.2.2.2 = true then (if (x3.length : Int) = 0 then (some (([] : List (List (S66))), bt656.2.1, true)) else (if 0 ≤ (wrap64 ((x3.length : Int) - 1)) then (if (wrap64 ((x3.length : Int) - 1)) < (x3.length : Int) then (if (rd_L7 x3 (wrap64 ((x3.length : Int) - 1))).length < 5864062014805 then (script_reader_strikes.l0 k (x3.set ((wrap64 ((x3.length : Int) - 1)) : Int).toNat ((rd_L7 x3 (wrap64 ((x3.length : Int) - 1))) ++ [(⟨bt662.1, bt662.2.1, bt662.2.2.1⟩ : S66)])) bt656.2.1 bt656.2.2) else (none)) else (none)) else (none))) else (some (([] : List (List (S66))), bt656.2.1, true)))))) else (some (x3, x1000, x1001))
def script_reader_strikes.f (k : Nat) (s0_0 : List ByteArray) (s0_1 : Bool) : Option ((List (List (S66))) × List ByteArray × Bool) := script_reader_strikes.l0 k ([] : List (List (S66))) s0_0 s0_1
def script_reader_strikes.T11 : Bool × List (List Nat × List Nat) := (true, [([], []), ([], []), ([], []), ([], []), ([2, 3], [2, 3]), ([4], [4]), ([], []), ([6], [6]), ([5, 7], [5, 7]), ([0, 1, 0, 1, 2, 3, 4, 5, 6, 7, 8], [0, 1]), ([9, 8, 8, 0, 1, 2, 3, 4, 5, 6, 7, 8], [8, 9])])
def script_reader_strikes.B11 : List Nat := [0, 0, 0, 0, 12, 28, 0, 64, 252, 511, 1023]
theorem script_reader_strikes.tab11 : rtab .any (opsOf Tryz.f113 11) = script_reader_strikes.T11 := by kernel_rfl
theorem script_reader_strikes.bits11 : waitsOk script_reader_strikes.T11.2 script_reader_strikes.B11 = true := by kernel_rfl
theorem script_reader_strikes.calls (k : Nat) (g : Nat) (s0_0 : List ByteArray) (s0_1 : Bool) (r1 : List (List (S66))) (r2 : List ByteArray) (r3 : Bool) (w0 w : World) (hI : IsS134 w0 w g s0_0 s0_1) (hB : Below w0.heap.size w0 w) (hE : sc.Env w0) (h : script_reader_strikes.f k s0_0 s0_1 = some (r1, r2, r3)) :
 Calls Tryz.prog 113 #[.pointer (some ⟨g, 0, none⟩)] w fun e w' => ∃ v0_ : Value, e = .returned (v0_) ∧ Kd.S (Kd.slice 66 k66) 64 w' w.heap.size (fun _ => True) v0_ r1 ∧ IsS134 w0 w' g r2 r3 ∧ Below w0.heap.size w0 w' ∧ KeepBut w w' g none := by
 have hu66 := Tryz.underlying66
 have HE := am_ hE
 clear hE
 have HI0 := am_ hI
 have HK := am_ (KeepBut.refl w g none)
 have HL := am_ hB.size
 clear hI
 have HW0 := am_ hB.size
 have HB := am_ hB
 clear hB
 have H : (script_reader_strikes.l0 k ([] : List (List (S66))) s0_0 s0_1) = some (r1, r2, r3) := h
 clear h
 have H' := am_ H
 clear H
 go_enter Tryz.func113, Tryz.ntmps113
 go_wp2
 go_loopg [3] k (fun kq v3 w' => ∃ (x3_1 : List (List (S66))) (x1000_1 : List ByteArray) (x1001_1 : Bool), Aside0 (script_reader_strikes.l0 kq x3_1 x1000_1 x1001_1 = some (r1, r2, r3)) ∧ Aside0 (kq ≤ k) ∧ Aside0 (Kd.S (Kd.slice 66 k66) 64 w' w.heap.size (fun _ => True) v3 x3_1) ∧ Aside0 (IsS134 w0 w' g x1000_1 x1001_1) ∧ Aside0 (KeepBut w w' g none) ∧ Aside0 (Below w0.heap.size w0 w'))
 case atStart => exact ⟨(([] : List (List (S66)))), (s0_0), (s0_1), H', ⟨Nat.le_refl _⟩, ⟨by first | exact Kd.S_nil _ _ _ _ _ | exact Kd.N_nil _ _ _ _ _ | exact Kd.V_nil _ _ _ _ _ | exact Kd.Q_nil _ _ _ _ _ | exact Kd.R_nil _ _ _ _ _⟩, ⟨ci_ HI0⟩, ⟨ck_ HK⟩, ⟨ce_ HB HI0⟩⟩
 case round =>
  clear H'
  try clear c1
  obtain ⟨x3_1, x1000_1, x1001_1, HA, HK1, HO_3, HI0, HK, HB⟩ := hrel
  cases gk with
  | zero => exact absurd HA.out (by simp [script_reader_strikes.l0])
  | succ k1 =>
   have H := HA.out
   clear HA
   simp only [script_reader_strikes.l0] at H
   by_cases c2 : (x1000_1.length : Int) > 0
   · rw [if_pos c2] at H
     have c2b0 : decide (0 < (x1000_1.length : Int)) = true := decide_eq_true c2
     have c2b1 : decide (0 < x1000_1.length) = true := decide_eq_true (by omega)
     clear c2
     replace H := Option.bind_eq_some_iff.mp H
     obtain ⟨⟨t656, t657, t658⟩, A30, H⟩ := H
     replace H : (if t656.toList = ([47] : List UInt8) then (if x3_1.length < 5864062014805 then (script_reader_strikes.l0 k1 (x3_1 ++ [([] : List (S66))]) t657 t658) else (none)) else ((script_fate.f t656).bind fun bt662 => (if bt662.2.2.2 = true then (if (x3_1.length : Int) = 0 then (some (([] : List (List (S66))), t657, true)) else (if 0 ≤ (wrap64 ((x3_1.length : Int) - 1)) then (if (wrap64 ((x3_1.length : Int) - 1)) < (x3_1.length : Int) then (if (rd_L7 x3_1 (wrap64 ((x3_1.length : Int) - 1))).length < 5864062014805 then (script_reader_strikes.l0 k1 (x3_1.set ((wrap64 ((x3_1.length : Int) - 1)) : Int).toNat ((rd_L7 x3_1 (wrap64 ((x3_1.length : Int) - 1))) ++ [(⟨bt662.1, bt662.2.1, bt662.2.2.1⟩ : S66)])) t657 t658) else (none)) else (none)) else (none))) else (some (([] : List (List (S66))), t657, true))))) = some (r1, r2, r3) := H
     have A3 := am_ A30
     clear A30
     by_cases c4 : t656.toList = ([47] : List UInt8)
     · rw [if_pos c4] at H
       have c4b0 := eb_ c4
       have c4b1 := nb_ c4
       clear c4
       by_cases c5 : x3_1.length < 5864062014805
       · rw [if_pos c5] at H
         have LMc5 := am_ c5
         clear c5
         obtain ⟨y659, hy659⟩ : ∃ y_ : List (List (S66)), y_ = (x3_1 ++ [([] : List (S66))]) := ⟨_, rfl⟩
         replace H : (script_reader_strikes.l0 k1 y659 t657 t658) = some (r1, r2, r3) := by first | (rw [hy659]; with_reducible exact H) | (have H2_ := (Option.bind_some _ _).symm.trans H; rw [hy659]; with_reducible exact H2_) | (have H2_ := (Option.bind_some _ _).symm.trans H; with_reducible exact H2_) | with_reducible exact H | (rw [hy659]; exact H) | exact H
         have Ny659 := am_ hy659
         clear hy659
         have H' := am_ H
         clear H
         obtain ⟨ASz6_0, cSz6_0, HGz6, hgz6, HSz6_0⟩ := HI0.out
         have hcz6_0 := cellS134_0 HGz6
         have hcz6_1 := cellS134_1 HGz6
         have hfz6_0 := blk_frozen HGz6 0
         have hfz6_1 := blk_frozen HGz6 1
         clear HGz6 hgz6
         try go_wp2_with (first | ((with_reducible refine gate_callee (f := 109) rfl ?_); refine goesL_ (some 15) rfl rfl Tryz.func109 (by kernel_rfl) rfl #[.pointer (some ⟨g, 0, none⟩)] rfl ha_ ?_; (with_reducible refine (script_reader_next.calls g x1000_1 x1001_1 t656 t657 t658 w0 _ ?side1 ?side2 A3.out).mono ?_); (case side1 => exact ci_ HI0); (case side2 => exact ce_ HB HI0); rintro e w7 ⟨rfl, hi, hb, hk⟩; refine ⟨_, rfl, ?_⟩; replace HO_3 := am_ (Kd.S_mono (Kd.S_keep (IsS134.apartS (show IsS134 w0 _ g x1000_1 x1001_1 from ci_ HI0) (cs_ HO_3) (by decide)) hk (fun _ h => h.2)) (fun _ h => h.1)); replace HK := am_ (KeepBut.trans (ck_ HK) hk (.inl rfl)); replace HB := am_ (hb); replace HI0 := am_ (hi); (try clear hb); (try clear hk); (try clear hi)) | ((with_reducible refine gate_builtin (b := .append) (xs := #[.tmp 18, .tmp 19]) rfl ?_); (try (refine gate_guard (by rfl) ?_; dsimp only)); at_builtin; refine Kd.S_append (Kd.slice 66 k66) w.heap.size rfl (.tmp 18) (.tmp 19) 50 64 (.slice none 0 0) 24 rfl Tryz.underlying50 info64 rfl (by decide) (by omega) u3 x3_1 ([] : List (S66)) [.slice none 0 0] (fun _ => True) (fun _ => False) rfl rfl ?aP (fun k_ hk_ => hk_.elim) ?aF ?aO (Below.refl _ _) ?aS ?aL ?_; (case aP => exact Kd.M_row (Kd.R_nil _ _ _ _ _)); (case aF => exact (fun _ _ => trivial)); (case aO => exact (by (with_reducible repeat (first | apply Kd.S_alloc | apply Kd.S_drewN | apply Kd.S_drew)); exact Kd.S_mono HO_3.out (fun k_ hk => ⟨trivial, fun e_ => e_⟩))); (case aS => exact (keep_size (w := w) (g := g) (row := none) (ck_ HK))); (case aL => have := LMc5.out; omega); intro v660 w8 ho hb hg hat; rw [← Ny659.out] at ho; replace HB := am_ (below_weaken (ce_ HB HI0) HL.out hb); replace HI0 := am_ (IsS134.grown (ci_ HI0) hg (IsS134.own_neS HI0.out HO_3.out (by decide))); replace HK := am_ (KeepBut.trans (ck_ HK) (KeepBut.of_grown hg g) (Kd.S_base2 HO_3.out)); have HO661 := am_ (ho); clear HO_3; clear ho hb hg hat))
         go_roundg k1
         case measure => have := HK1.out; omega
         case rel => exact ⟨(y659), (t657), (t658), H', ⟨by have := HK1.out; omega⟩, ⟨cs_ HO661⟩, ⟨ci_ HI0⟩, ⟨ck_ HK⟩, ⟨ce_ HB HI0⟩⟩
       rw [if_neg c5] at H
       exact absurd H (by simp)
     rw [if_neg c4] at H
     have c4b0 := ec_ c4
     have c4b1 := nc_ c4
     replace H := Option.bind_eq_some_iff.mp H
     obtain ⟨⟨t662, t663, t664, t665⟩, A90, H⟩ := H
     replace H : (if t665 = true then (if (x3_1.length : Int) = 0 then (some (([] : List (List (S66))), t657, true)) else (if 0 ≤ (wrap64 ((x3_1.length : Int) - 1)) then (if (wrap64 ((x3_1.length : Int) - 1)) < (x3_1.length : Int) then (if (rd_L7 x3_1 (wrap64 ((x3_1.length : Int) - 1))).length < 5864062014805 then (script_reader_strikes.l0 k1 (x3_1.set ((wrap64 ((x3_1.length : Int) - 1)) : Int).toNat ((rd_L7 x3_1 (wrap64 ((x3_1.length : Int) - 1))) ++ [(⟨t662, t663, t664⟩ : S66)])) t657 t658) else (none)) else (none)) else (none))) else (some (([] : List (List (S66))), t657, true))) = some (r1, r2, r3) := H
     have A9 := am_ A90
     clear A90
     by_cases c10 : t665 = true
     · subst c10
       have H1 : (if (x3_1.length : Int) = 0 then (some (([] : List (List (S66))), t657, true)) else (if 0 ≤ (wrap64 ((x3_1.length : Int) - 1)) then (if (wrap64 ((x3_1.length : Int) - 1)) < (x3_1.length : Int) then (if (rd_L7 x3_1 (wrap64 ((x3_1.length : Int) - 1))).length < 5864062014805 then (script_reader_strikes.l0 k1 (x3_1.set ((wrap64 ((x3_1.length : Int) - 1)) : Int).toNat ((rd_L7 x3_1 (wrap64 ((x3_1.length : Int) - 1))) ++ [(⟨t662, t663, t664⟩ : S66)])) t657 t658) else (none)) else (none)) else (none))) = some (r1, r2, r3) := by rw [if_pos rfl] at H; exact H
       clear H
       have H := H1
       clear H1
       by_cases c11 : (x3_1.length : Int) = 0
       · rw [if_pos c11] at H
         have c11b0 := eb_ c11
         have c11b1 := nb_ c11
         clear c11
         simp only [Option.some.injEq, Prod.mk.injEq] at H
         obtain ⟨rfl, rfl, rfl⟩ := H
         obtain ⟨ASz12_0, cSz12_0, HGz12, hgz12, HSz12_0⟩ := HI0.out
         have hcz12_0 := cellS134_0 HGz12
         have hcz12_1 := cellS134_1 HGz12
         have hfz12_0 := blk_frozen HGz12 0
         have hfz12_1 := blk_frozen HGz12 1
         clear HGz12 hgz12
         try go_wp2_with (first | ((with_reducible refine gate_callee (f := 109) rfl ?_); refine goesL_ (some 15) rfl rfl Tryz.func109 (by kernel_rfl) rfl #[.pointer (some ⟨g, 0, none⟩)] rfl ha_ ?_; (with_reducible refine (script_reader_next.calls g x1000_1 x1001_1 t656 t657 t658 w0 _ ?side1 ?side2 A3.out).mono ?_); (case side1 => exact ci_ HI0); (case side2 => exact ce_ HB HI0); rintro e w13 ⟨rfl, hi, hb, hk⟩; refine ⟨_, rfl, ?_⟩; replace HO_3 := am_ (Kd.S_mono (Kd.S_keep (IsS134.apartS (show IsS134 w0 _ g x1000_1 x1001_1 from ci_ HI0) (cs_ HO_3) (by decide)) hk (fun _ h => h.2)) (fun _ h => h.1)); replace HK := am_ (KeepBut.trans (ck_ HK) hk (.inl rfl)); replace HB := am_ (hb); replace HI0 := am_ (hi); (try clear hb); (try clear hk); (try clear hi)) | ((with_reducible refine gate_callee (f := 124) rfl ?_); refine goesL_ (some 23) rfl rfl Tryz.func124 (by kernel_rfl) rfl #[.string t656] rfl ha_ ?_; (with_reducible refine (script_fate.calls t656 t662 t663 t664 _ _ ?side1 A9.out).mono ?_); (case side1 => exact sc.Env.below HE.out (ce_ HB HI0)); rintro e w14 ⟨rfl, hb⟩; refine ⟨_, rfl, ?_⟩; replace HO_3 := am_ (Kd.S_below (cs_ HO_3) hb); replace HK := am_ (KeepBut.trans (ck_ HK) (KeepBut.of_below hb g none) (.inl rfl)); replace HB := am_ (below_step (ce_ HB HI0) hb); replace HI0 := am_ (IsS134.below (ci_ HI0) hb); (try clear hb); (try clear hk); (try clear hi)) | ((with_reducible refine gate_dst (N := 5) rfl ?_); (try (refine gate_guard (by rfl) ?_; dsimp only)); refine box_event ?hg (N := 5) ?hd (cs := #[.int .i64 0, .int .i64 0, .int .u8 0]) (t := 66) ?hr ?_; (case hd => rfl); (case hg => rfl); (case hr => first | (go_simp; done) | (go_simp; rfl)); intro gb666 hg w15 hbox hb; replace HO_3 := am_ (Kd.S_below (Kd.S_elderB (cs_ HO_3) gb666 (Nat.le_of_eq hg.symm)) hb); replace HB := am_ (below_step (ce_ HB HI0) hb); have BK666 := am_ (hbox); have GW666 := am_ ((by rw [hg]; exact (keep_size (w := w) (g := g) (row := none) (ck_ HK)) : w.heap.size ≤ gb666)); have GE666 := am_ ((Nat.le_trans HW0.out (by rw [hg]; exact (keep_size (w := w) (g := g) (row := none) (ck_ HK)) : w.heap.size ≤ gb666) : w0.heap.size ≤ gb666)); replace HK := am_ (KeepBut.trans (ck_ HK) (KeepBut.of_below hb g none) (.inl rfl)); have NB0_666 := am_ ((by rw [hg]; exact Nat.ne_of_lt (IsS134.lt (show IsS134 w0 _ g t657 t658 from ci_ HI0)) : g ≠ gb666)); have NB666_0 := am_ ((by rw [hg]; exact Nat.ne_of_gt (IsS134.lt (show IsS134 w0 _ g t657 t658 from ci_ HI0)) : gb666 ≠ g)); replace HI0 := am_ (IsS134.below (ci_ HI0) hb); clear hb hbox hg; have hnb16 := NB666_0.out; have hnc16 := NB0_666.out; have hcz17_0 : w15.cell? ⟨gb666, 0, none⟩ = some (.int .i64 0) := (blk_cell BK666.out 0).trans rfl; have hcz17_1 : w15.cell? ⟨gb666, 1, none⟩ = some (.int .i64 0) := (blk_cell BK666.out 1).trans rfl; have hcz17_2 : w15.cell? ⟨gb666, 2, none⟩ = some (.int .u8 0) := (blk_cell BK666.out 2).trans rfl; have hfz17_0 := blk_frozen BK666.out 0; have hfz17_1 := blk_frozen BK666.out 1; have hfz17_2 := blk_frozen BK666.out 2; obtain ⟨Ao18, co18, eo18⟩ := Kd.S_slice HO_3.out; subst eo18; obtain ⟨ASz19_0, cSz19_0, HGz19, hgz19, HSz19_0⟩ := HI0.out; have hcz19_0 := cellS134_0 HGz19; have hcz19_1 := cellS134_1 HGz19; have hfz19_0 := blk_frozen HGz19 0; have hfz19_1 := blk_frozen HGz19 1; clear HGz19 hgz19))
         go_ret
         exact ⟨_, re_, by first | exact Kd.S_nil _ _ _ _ _ | exact Kd.N_nil _ _ _ _ _ | exact Kd.V_nil _ _ _ _ _ | exact Kd.Q_nil _ _ _ _ _ | exact Kd.R_nil _ _ _ _ _, by repeat (first | (with_reducible first | exact HI0.out | apply IsS134.alloc | apply IsS134.drewN | apply IsS134.drew | apply IsS134.set_0 | apply IsS134.set_1 | apply IsS134.far (hne := NB0_666.out)) | exact HI0.out), by repeat (first | (with_reducible first | exact HB.out | apply b1_ | apply b2_ | apply b3_ | refine b4_ ?_ (IsS134.ge HI0.out) | refine b4_ ?_ GE666.out) | exact HB.out), by repeat (first | (with_reducible first | exact HK.out | apply KeepBut.set_ | apply keep_drewN | apply keep_drew | apply keep_alloc | refine keep_far ?_ GW666.out _) | exact HK.out)⟩
       rw [if_neg c11] at H
       have c11b0 := ec_ c11
       have c11b1 := nc_ c11
       have c11b2 : ¬ (x3_1 = []) := fun h_ => c11 (by rw [h_]; rfl)
       obtain ⟨ji20, hji20⟩ : ∃ j_ : Int, (wrap64 ((x3_1.length : Int) - 1)) = j_ := ⟨_, rfl⟩
       replace H : (if 0 ≤ (ji20) then (if (ji20) < (x3_1.length : Int) then (if (rd_L7 x3_1 (ji20)).length < 5864062014805 then (script_reader_strikes.l0 k1 (x3_1.set ((ji20) : Int).toNat ((rd_L7 x3_1 (ji20)) ++ [(⟨t662, t663, t664⟩ : S66)])) t657 t658) else (none)) else (none)) else (none)) = some (r1, r2, r3) := by first | (rw [hji20] at H; exact H) | (simp only [hji20] at H ⊢; exact H)
       (try rw [hji20] at A3)
       (try rw [hji20] at A9)
       have hji20w : (IntKind.i64.wrap ((x3_1.length : Int) - 1)) = ji20 := (i64_w _).trans hji20
       by_cases c21 : 0 ≤ (ji20)
       · rw [if_pos c21] at H
         have c21b0 := decide_eq_true c21
         clear c21
         by_cases c22 : (ji20) < (x3_1.length : Int)
         · rw [if_pos c22] at H
           have c22b0 := decide_eq_true c22
           clear c22
           by_cases c23 : (rd_L7 x3_1 (ji20)).length < 5864062014805
           · rw [if_pos c23] at H
             have LMc23 := am_ c23
             clear c23
             obtain ⟨y668, hy668⟩ : ∃ y_ : List (S66), y_ = ((rd_L7 x3_1 (ji20)) ++ [(⟨t662, t663, t664⟩ : S66)]) := ⟨_, rfl⟩
             replace H : (script_reader_strikes.l0 k1 (x3_1.set ((ji20) : Int).toNat y668) t657 t658) = some (r1, r2, r3) := by first | (rw [hy668]; with_reducible exact H) | (have H2_ := (Option.bind_some _ _).symm.trans H; rw [hy668]; with_reducible exact H2_) | (have H2_ := (Option.bind_some _ _).symm.trans H; with_reducible exact H2_) | with_reducible exact H | (rw [hy668]; exact H) | exact H
             have Ny668 := am_ hy668
             clear hy668
             obtain ⟨y671, hy671⟩ : ∃ y_ : List (List (S66)), y_ = (x3_1.set ((ji20) : Int).toNat y668) := ⟨_, rfl⟩
             replace H : (script_reader_strikes.l0 k1 y671 t657 t658) = some (r1, r2, r3) := by first | (rw [hy671]; with_reducible exact H) | (have H2_ := (Option.bind_some _ _).symm.trans H; rw [hy671]; with_reducible exact H2_) | (have H2_ := (Option.bind_some _ _).symm.trans H; with_reducible exact H2_) | with_reducible exact H | (rw [hy671]; exact H) | exact H
             have Ny671 := am_ hy671
             clear hy671
             have H' := am_ H
             clear H
             obtain ⟨ASz25_0, cSz25_0, HGz25, hgz25, HSz25_0⟩ := HI0.out
             have hcz25_0 := cellS134_0 HGz25
             have hcz25_1 := cellS134_1 HGz25
             have hfz25_0 := blk_frozen HGz25 0
             have hfz25_1 := blk_frozen HGz25 1
             clear HGz25 hgz25
             try go_wp2_with (first | ((with_reducible refine gate_callee (f := 109) rfl ?_); refine goesL_ (some 15) rfl rfl Tryz.func109 (by kernel_rfl) rfl #[.pointer (some ⟨g, 0, none⟩)] rfl ha_ ?_; (with_reducible refine (script_reader_next.calls g x1000_1 x1001_1 t656 t657 t658 w0 _ ?side1 ?side2 A3.out).mono ?_); (case side1 => exact ci_ HI0); (case side2 => exact ce_ HB HI0); rintro e w26 ⟨rfl, hi, hb, hk⟩; refine ⟨_, rfl, ?_⟩; replace HO_3 := am_ (Kd.S_mono (Kd.S_keep (IsS134.apartS (show IsS134 w0 _ g x1000_1 x1001_1 from ci_ HI0) (cs_ HO_3) (by decide)) hk (fun _ h => h.2)) (fun _ h => h.1)); replace HK := am_ (KeepBut.trans (ck_ HK) hk (.inl rfl)); replace HB := am_ (hb); replace HI0 := am_ (hi); (try clear hb); (try clear hk); (try clear hi)) | ((with_reducible refine gate_callee (f := 124) rfl ?_); refine goesL_ (some 23) rfl rfl Tryz.func124 (by kernel_rfl) rfl #[.string t656] rfl ha_ ?_; (with_reducible refine (script_fate.calls t656 t662 t663 t664 _ _ ?side1 A9.out).mono ?_); (case side1 => exact sc.Env.below HE.out (ce_ HB HI0)); rintro e w27 ⟨rfl, hb⟩; refine ⟨_, rfl, ?_⟩; replace HO_3 := am_ (Kd.S_below (cs_ HO_3) hb); replace HK := am_ (KeepBut.trans (ck_ HK) (KeepBut.of_below hb g none) (.inl rfl)); replace HB := am_ (below_step (ce_ HB HI0) hb); replace HI0 := am_ (IsS134.below (ci_ HI0) hb); (try clear hb); (try clear hk); (try clear hi)) | ((with_reducible refine gate_dst (N := 5) rfl ?_); (try (refine gate_guard (by rfl) ?_; dsimp only)); refine box_event ?hg (N := 5) ?hd (cs := #[.int .i64 0, .int .i64 0, .int .u8 0]) (t := 66) ?hr ?_; (case hd => rfl); (case hg => rfl); (case hr => first | (go_simp; done) | (go_simp; rfl)); intro gb666 hg w28 hbox hb; replace HO_3 := am_ (Kd.S_below (Kd.S_elderB (cs_ HO_3) gb666 (Nat.le_of_eq hg.symm)) hb); replace HB := am_ (below_step (ce_ HB HI0) hb); have BK666 := am_ (hbox); have GW666 := am_ ((by rw [hg]; exact (keep_size (w := w) (g := g) (row := none) (ck_ HK)) : w.heap.size ≤ gb666)); have GE666 := am_ ((Nat.le_trans HW0.out (by rw [hg]; exact (keep_size (w := w) (g := g) (row := none) (ck_ HK)) : w.heap.size ≤ gb666) : w0.heap.size ≤ gb666)); replace HK := am_ (KeepBut.trans (ck_ HK) (KeepBut.of_below hb g none) (.inl rfl)); have NB0_666 := am_ ((by rw [hg]; exact Nat.ne_of_lt (IsS134.lt (show IsS134 w0 _ g t657 t658 from ci_ HI0)) : g ≠ gb666)); have NB666_0 := am_ ((by rw [hg]; exact Nat.ne_of_gt (IsS134.lt (show IsS134 w0 _ g t657 t658 from ci_ HI0)) : gb666 ≠ g)); replace HI0 := am_ (IsS134.below (ci_ HI0) hb); clear hb hbox hg; have hnb29 := NB666_0.out; have hnc29 := NB0_666.out; have hcz30_0 : w28.cell? ⟨gb666, 0, none⟩ = some (.int .i64 0) := (blk_cell BK666.out 0).trans rfl; have hcz30_1 : w28.cell? ⟨gb666, 1, none⟩ = some (.int .i64 0) := (blk_cell BK666.out 1).trans rfl; have hcz30_2 : w28.cell? ⟨gb666, 2, none⟩ = some (.int .u8 0) := (blk_cell BK666.out 2).trans rfl; have hfz30_0 := blk_frozen BK666.out 0; have hfz30_1 := blk_frozen BK666.out 1; have hfz30_2 := blk_frozen BK666.out 2; obtain ⟨Ao31, co31, eo31⟩ := Kd.S_slice HO_3.out; subst eo31))
             have n0_ : Aside0 (Kd.S (Kd.slice 66 k66) 64 (((w28.setCell ⟨gb666, 0, none⟩ (.int .i64 t662)).setCell ⟨gb666, 1, none⟩ (.int .i64 t663)).setCell ⟨gb666, 2, none⟩ (.int .u8 t664)) w.heap.size (fun k_ => k_ ≠ gb666) (.slice Ao31 x3_1.length co31) x3_1) := ⟨by (with_reducible repeat (first | apply Kd.S_alloc | apply Kd.S_drewN | apply Kd.S_drew)); exact Kd.S_mono (Kd.S_far (p := ⟨gb666, 2, none⟩) (Kd.S_far (p := ⟨gb666, 1, none⟩) (Kd.S_far (p := ⟨gb666, 0, none⟩) (Kd.S_mono HO_3.out (fun k_ hk => (⟨hk, hk.2⟩ : _ ∧ k_ ≠ gb666))) (fun _ hk => hk.2) (.int .i64 t662)) (fun _ hk => hk.2) (.int .i64 t663)) (fun _ hk => hk.2) (.int .u8 t664)) (fun _ hk => hk.1.2)⟩
             have n1_ : Aside0 ((((w28.setCell ⟨gb666, 0, none⟩ (.int .i64 t662)).setCell ⟨gb666, 1, none⟩ (.int .i64 t663)).setCell ⟨gb666, 2, none⟩ (.int .u8 t664)).heap[gb666]? = some (.cells #[.int .i64 t662, .int .i64 t663, .int .u8 t664] 66 (0, 0))) := ⟨by (with_reducible repeat (first | refine d1_ ?_ _ | refine d2_ ?_ | refine d3_ ?_ _)); refine blk_put (cs := #[.int .i64 t662, .int .i64 t663, .int .u8 0]) ?_ 2 _ rfl; (with_reducible repeat (first | refine d1_ ?_ _ | refine d2_ ?_ | refine d3_ ?_ _)); refine blk_put (cs := #[.int .i64 t662, .int .i64 0, .int .u8 0]) ?_ 1 _ rfl; (with_reducible repeat (first | refine d1_ ?_ _ | refine d2_ ?_ | refine d3_ ?_ _)); refine blk_put (cs := #[.int .i64 0, .int .i64 0, .int .u8 0]) ?_ 0 _ rfl; (with_reducible repeat (first | refine d1_ ?_ _ | refine d2_ ?_ | refine d3_ ?_ _)); exact BK666.out⟩
             have n2_ : Aside0 (IsS134 w0 (((w28.setCell ⟨gb666, 0, none⟩ (.int .i64 t662)).setCell ⟨gb666, 1, none⟩ (.int .i64 t663)).setCell ⟨gb666, 2, none⟩ (.int .u8 t664)) g t657 t658) := ⟨by repeat (first | (with_reducible first | exact HI0.out | apply IsS134.alloc | apply IsS134.drewN | apply IsS134.drew | apply IsS134.set_0 | apply IsS134.set_1 | apply IsS134.far (hne := NB0_666.out)) | exact HI0.out)⟩
             have n3_ : Aside0 (KeepBut w (((w28.setCell ⟨gb666, 0, none⟩ (.int .i64 t662)).setCell ⟨gb666, 1, none⟩ (.int .i64 t663)).setCell ⟨gb666, 2, none⟩ (.int .u8 t664)) g none) := ⟨by repeat (first | (with_reducible first | exact HK.out | apply KeepBut.set_ | apply keep_drewN | apply keep_drew | apply keep_alloc | refine keep_far ?_ GW666.out _) | exact HK.out)⟩
             have n4_ : Aside0 (Below w0.heap.size w0 (((w28.setCell ⟨gb666, 0, none⟩ (.int .i64 t662)).setCell ⟨gb666, 1, none⟩ (.int .i64 t663)).setCell ⟨gb666, 2, none⟩ (.int .u8 t664))) := ⟨by repeat (first | (with_reducible first | exact HB.out | apply b1_ | apply b2_ | apply b3_ | refine b4_ ?_ (IsS134.ge HI0.out) | refine b4_ ?_ GE666.out) | exact HB.out)⟩
             (try clear HO_3)
             (try clear BK666)
             (try clear HI0)
             (try clear HK)
             (try clear HB)
             generalize (((w28.setCell ⟨gb666, 0, none⟩ (.int .i64 t662)).setCell ⟨gb666, 1, none⟩ (.int .i64 t663)).setCell ⟨gb666, 2, none⟩ (.int .u8 t664)) = w32 at n0_ n1_ n2_ n3_ n4_ ⊢
             have HO_3 := n0_
             have BK666 := n1_
             have HI0 := n2_
             have HK := n3_
             have HB := n4_
             clear n0_ n1_ n2_ n3_ n4_
             replace HO_3 := am_ (Kd.S_drew HO_3.out)
             replace BK666 := am_ (d2_ BK666.out)
             replace HI0 := am_ (IsS134.drew HI0.out)
             replace HK := am_ (keep_drew HK.out)
             replace HB := am_ (b3_ HB.out)
             have p667 : 0 ≤ ((ji20) : Int) := od_
             have q667 : (ji20) < (x3_1.length : Int) := od_
             obtain ⟨ad667, A667_0, c667_0, e667, hx667_0, hl667_0, hi667_0⟩ := at_L7 (Kd.S_reads' HO_3.out).2.2 (ji20) p667 q667
             cases e667
             obtain ⟨ce667, hce667, hMe667, hcc667⟩ := Kd.S_get HO_3.out [] (ji20) p667 (by first | exact q667 | exact od_ | (have e_ := (Kd.S_reads' HO_3.out).1; omega))
             obtain ⟨ve667_0, rfl, ge667_0⟩ := hMe667
             have hv667_0 := hcc667 0 _ rfl
             rw [Nat.add_zero, show ((Kd.slice 66 k66)).sz = 1 from rfl, Nat.mul_one] at hv667_0
             replace hv667_0 := Option.some.inj (hv667_0.symm.trans hx667_0)
             rw [hv667_0] at ge667_0
             have HL667_0 := am_ (show Kd.R k66 66 _ _ _ _ (rd_L7 x3_1 (ji20)) from ge667_0)
             clear hv667_0 ge667_0
             have HX667_0 := am_ hx667_0
             clear hcc667 hce667
             have HR667_0 := am_ hi667_0
             have HC667_0 := am_ hl667_0
             clear hi667_0 hl667_0
             replace p667 := eq_true p667
             replace q667 := eq_true q667
             obtain ⟨go34, co34, eo34, gb34, gl34, cl34, HG34⟩ := Kd.S_form HO_3.out (by have h_ : ((ji20) : Int) < ((x3_1.length : Int) : Int) := od_; have h2_ : 0 ≤ ((ji20) : Int) := (od_); omega)
             (first | cases eo34 | (injection eo34 with ea_ en_ ec_; (first | subst ea_ | (injection ea_ with ea_; subst ea_)); subst ec_; clear en_))
             have GB34 := am_ gb34
             have GG34 := am_ HG34
             clear gb34 gl34 HG34
             (first | simp only [add_plain] at hx667_0 | skip)
             obtain ⟨oki34, ce34, hcl34, hM34, hcc34, _, _, hH34⟩ := Kd.S_elem HO_3.out [] ((ji20) : Int) (od_) (by have h_ : ((ji20) : Int) < ((x3_1.length : Int) : Int) := od_; first | exact h_ | (have e_ := (Kd.S_reads' HO_3.out).1; omega) | simpa using h_)
             obtain ⟨ve34_0, rfl, ge34_0⟩ := hM34
             have hv34 := hcc34 0 _ rfl
             have hX34 := HX667_0.out
             (try simp only [add_plain] at hX34)
             (try simp only [Nat.add_zero] at hv34)
             (try rw [show ((Kd.slice 66 k66)).sz = 1 from rfl, Nat.mul_one] at hv34)
             replace hv34 := Option.some.inj (hv34.symm.trans hX34)
             subst hv34
             clear hX34 hcc34 hcl34
             have UU34 := am_ (show Kd.R k66 66 _ w.heap.size oki34 (.slice A667_0 (rd_L7 x3_1 (ji20)).length c667_0) (rd_L7 x3_1 (ji20)) from ge34_0)
             have HH34 := am_ hH34
             have HN34 := am_ (Kd.S_reads' HO_3.out).1
             clear hH34 ge34_0
             refine start_ (n := 11) (S := fun w' => w'.cell? ⟨gb666, 0, none⟩ = some (.int .i64 t662) ∧ w'.cell? ⟨gb666, 1, none⟩ = some (.int .i64 t663) ∧ w'.cell? ⟨gb666, 2, none⟩ = some (.int .u8 t664) ∧ w'.cell? ⟨go34, ((ji20)).toNat, none⟩ = some (.slice A667_0 (rd_L7 x3_1 (ji20)).length c667_0)) (ds := [10]) (bs_ 11 0) (by kernel_rfl) rfl rfl ⟨(blk_cell BK666.out 0).trans rfl, (blk_cell BK666.out 1).trans rfl, (blk_cell BK666.out 2).trans rfl, hx667_0⟩ (fun hHeld => ?_); refine with_tabW script_reader_strikes.tab11 script_reader_strikes.bits11 (fun HT_ HW_ => ?_)
             generalize w32.drew = w33 at HO_3 BK666 HI0 HK HB GG34 HH34 HL667_0 HR667_0 HX667_0 UU34 hx667_0 hHeld ⊢
             refine pB_ HT_ 0 39 (bs_ 11 1) ?_
             refine pB_ HT_ 1 40 (bs_ 11 3) ?_
             refine pB_ HT_ 2 41 (bs_ 11 7) ?_
             refine pB_ HT_ 3 42 (bs_ 11 15) ?_
             refine pB_ HT_ 4 43 (bs_ 11 31) ?_
             refine tB_ HT_ HW_ hHeld 5 44 (bs_ 11 63) ?_
             refine tB_ HT_ HW_ hHeld 6 45 (bs_ 11 127) ?_
             refine oB_ HT_ 7 46 (bs_ 11 255) (fun K hK => ?_)
             refine vA_ ?_
             refine hK.out _ _ ⟨(blk_cell (d3_ BK666.out _) 0).trans rfl, (blk_cell (d3_ BK666.out _) 1).trans rfl, (blk_cell (d3_ BK666.out _) 2).trans rfl, (World.cell?_alloc_lt _ _ _ (World.block_lt_of_cell? _ _ (hHeld.2.2.2))).trans (hHeld.2.2.2)⟩ (fun hHeld => ?_)
             clear hK K
             refine nA_ ?_
             refine oB_ HT_ 8 47 (bs_ 11 511) (fun K hK => ?_)
             refine Kd.R_append_step k66 w.heap.size (by rfl) (.tmp 44) (.tmp 46) 64 66 (.agg #[(.int .i64 0), (.int .i64 0), (.int .u8 0)]) 24 rfl Tryz.underlying64 info66 rfl (by decide) (by omega) (.slice A667_0 (rd_L7 x3_1 (ji20)).length c667_0) (rd_L7 x3_1 (ji20)) (⟨t662, t663, t664⟩ : S66) [.int .i64 t662, .int .i64 t663, .int .u8 t664] (fun k_ => oki34 k_ ∨ ((fun k_ => k_ ≠ gb666)) k_ ∧ w33.heap.size ≤ k_) (fun _ => False) rfl rfl ?aP (fun _ hk => hk.elim) ?aF ?aO (Below.refl _ _) ?aS ?aL ?_
             (case aP => exact k66_mkM _ _ _ (⟨t662, t663, t664⟩ : S66))
             (case aF => exact (fun k_ hk => .inr ⟨Kd.freshB (g := gb666) (o := .cells #[.int .i64 t662, .int .i64 t663, .int .u8 t664] 66 (0, 0)) (cd_ BK666) k_ hk, hk⟩))
             (case aO => exact (by (with_reducible repeat (first | apply r1_ | apply r2_ | apply r3_)); exact Kd.R_mono UU34.out (fun _ hk => .inl hk)))
             (case aS => exact (keep_size (w := w) (g := g) (row := none) (by repeat (first | (with_reducible first | exact HK.out | apply KeepBut.set_ | apply keep_drewN | apply keep_drew | apply keep_alloc | refine keep_far ?_ GW666.out _) | exact HK.out))))
             (case aL => have := LMc23.out; omega)
             intro v669 w35 ho hb hg hat
             (first | have HS3_ := cell_grown hg (hHeld.2.2.2) (by first | (rw [add_block]; exact (fun e_ => ((HL667_0.out.1 _ e_.symm).2) rfl)) | (show some (Addr.add _ _).block ≠ _; rw [add_block]; exact (fun e_ => ((HL667_0.out.1 _ e_.symm).2) rfl)) | exact (fun e_ => ((HL667_0.out.1 _ e_.symm).2) rfl)) | have HS3_ := cell_grown hg (cell_unalloc (hHeld.2.2.2) (by first | (rw [add_block]; exact Kd.S_lt HO_3.out _ rfl) | (show (Addr.add _ _).block < _; rw [add_block]; exact Kd.S_lt HO_3.out _ rfl) | exact Kd.S_lt HO_3.out _ rfl)) (by first | (rw [add_block]; exact (fun e_ => ((HL667_0.out.1 _ e_.symm).2) rfl)) | (show some (Addr.add _ _).block ≠ _; rw [add_block]; exact (fun e_ => ((HL667_0.out.1 _ e_.symm).2) rfl)) | exact (fun e_ => ((HL667_0.out.1 _ e_.symm).2) rfl)))
             rw [← Ny668.out] at ho
             replace BK666 := am_ (blk_grown (g := gb666) (o := .cells #[.int .i64 t662, .int .i64 t663, .int .u8 t664] 66 (0, 0)) (cd_ BK666) hg (Kd.R_away HL667_0.out (fun _ hk => hk.1)))
             replace HB := am_ (below_weaken (by repeat (first | (with_reducible first | exact HB.out | apply b1_ | apply b2_ | apply b3_ | refine b4_ ?_ (IsS134.ge HI0.out) | refine b4_ ?_ GE666.out) | exact HB.out)) HL.out hb)
             replace HI0 := am_ (IsS134.grown (by repeat (first | (with_reducible first | exact HI0.out | apply IsS134.alloc | apply IsS134.drewN | apply IsS134.drew | apply IsS134.set_0 | apply IsS134.set_1 | apply IsS134.far (hne := NB0_666.out)) | exact HI0.out)) hg (IsS134.own_ne HI0.out HL667_0.out (by decide)))
             replace HK := am_ (KeepBut.trans (by repeat (first | (with_reducible first | exact HK.out | apply KeepBut.set_ | apply keep_drewN | apply keep_drew | apply keep_alloc | refine keep_far ?_ GW666.out _) | exact HK.out)) (KeepBut.of_grown hg g) (Kd.R_base2 HL667_0.out))
             replace HH34 := am_ (Kd.H_grown (Kd.H_widen (by repeat (first | exact HH34.out | refine Kd.H_alloc ?_ _ | refine Kd.H_drewN ?_ _ | refine Kd.H_drew ?_))) hg (fun k_ e_ => .inl (UU34.out.1 k_ e_)))
             have HO670 := am_ (ho)
             clear HO_3 UU34 HL667_0
             clear ho hb hg hat
             have p24 : 0 ≤ ((ji20) : Int) := od_
             have q24 : ((ji20) : Int) < ((x3_1.length : Int) : Int) := od_
             replace p24 := eq_true p24
             replace q24 := eq_true q24
             obtain ⟨Ao38, co38, eo38⟩ := Kd.R_slice HO670.out
             (first | subst eo38 | (injection eo38 with f1_ f2_ f3_; have f4_ := f1_.symm; have f5_ := f3_.symm; clear f1_ f2_ f3_; subst f4_; subst f5_))
             obtain ⟨_, _, hraw36, _, _, hcc36, _⟩ := Kd.H_raw HH34.out (od_) (by have h_ : ((ji20) : Int) < ((x3_1.length : Int) : Int) := od_; first | exact h_ | (have e_ := (HN34.out); omega) | simpa using h_)
             obtain ⟨_, hfr36⟩ := Kd.H_at HH34.out (od_) (by have h_ : ((ji20) : Int) < ((x3_1.length : Int) : Int) := od_; first | exact h_ | (have e_ := (HN34.out); omega) | simpa using h_)
             have hx36_0 := hcc36 0 _ rfl
             have hf36_0 := hfr36 0
             (try simp only [Nat.add_zero] at hx36_0 hf36_0)
             (try rw [show ((Kd.slice 66 k66)).sz = 1 from rfl, Nat.mul_one] at hx36_0)
             (try rw [show ((Kd.slice 66 k66)).sz = 1 from rfl, Nat.mul_one] at hf36_0)
             have HP36 := Kd.S_seg0 HH34.out (od_) (by have h_ : ((ji20) : Int) < ((x3_1.length : Int) : Int) := od_; first | exact h_ | (have e_ := (HN34.out); omega) | simpa using h_) (seg := [.slice Ao38 y668.length co38]) (j := 0) (show 1 ≤ 1 from by decide) (x' := y668) (Kd.M_row HO670.out) (fun _ hk => hk)
             (try simp only [show ((Kd.slice 66 k66)).sz = 1 from rfl, Nat.mul_one, Nat.add_zero] at HP36)
             clear hcc36 hfr36
             have HN0_go34 := am_ (show g ≠ go34 from by have h_ := IsS134.own_ne HI0.out hraw36 (by decide); intro e_; exact h_ (by rw [e_]; rfl))
             have HNB666_go34 := am_ (show gb666 ≠ go34 from by have h_ := Kd.R_ne hraw36 BK666.out (by decide); intro e_; exact h_ (by rw [e_]; rfl))
             have HS36 := HP36.1
             rw [← Ny671.out] at HS36
             have HQ36 := am_ HS36
             obtain ⟨_, hgg36⟩ := Kd.R_typed hraw36 go34 rfl
             have GG36_ := am_ hgg36
             clear HP36 HS36 hgg36
             refine hK.out _ _ ⟨(blk_cell BK666.out 0).trans rfl, (blk_cell BK666.out 1).trans rfl, (blk_cell BK666.out 2).trans rfl, HS3_⟩ (fun hHeld => ?_)
             clear hK K
             refine nA_ ?_
             refine pB_ HT_ 9 48 (bs_ 11 1023) ?_
             refine last_ (i := 10) (N := none) (bs_ 11 2047) rfl rfl (one_of HT_.out (by kernel_rfl)) (by decide) (fun K hK => ?_)
             refine skip_ (w1 := ?_) (by rfl) rfl ?_ ?_
             rotate_left
             · go_simp
               rfl
             refine hK.out _ _ ?_
             clear hK K
             refine done_ (done_of HT_.out (by kernel_rfl)) ?_
             try go_wp2
             go_roundg k1
             case measure => have := HK1.out; omega
             case rel => exact ⟨(y671), (t657), (t658), H', ⟨by have := HK1.out; omega⟩, ⟨by (with_reducible repeat (first | apply Kd.S_alloc | apply Kd.S_drewN | apply Kd.S_drew)); exact Kd.S_mono HQ36.out (fun _ hk => trivial)⟩, ⟨by repeat (first | (with_reducible first | exact HI0.out | apply IsS134.alloc | apply IsS134.drewN | apply IsS134.drew | apply IsS134.set_0 | apply IsS134.set_1 | apply IsS134.far (hne := HN0_go34.out) | apply IsS134.far (hne := NB0_666.out)) | exact HI0.out)⟩, ⟨by repeat (first | (with_reducible first | exact HK.out | apply KeepBut.set_ | apply keep_drewN | apply keep_drew | apply keep_alloc | refine keep_far ?_ GB34.out _ | refine keep_far ?_ GW666.out _) | exact HK.out)⟩, ⟨by repeat (first | (with_reducible first | exact HB.out | apply b1_ | apply b2_ | apply b3_ | refine b4_ ?_ (Nat.le_trans HL.out GB34.out) | refine b4_ ?_ (IsS134.ge HI0.out) | refine b4_ ?_ GE666.out) | exact HB.out)⟩⟩
           rw [if_neg c23] at H
           exact absurd H (by simp)
         rw [if_neg c22] at H
         exact absurd H (by simp)
       rw [if_neg c21] at H
       exact absurd H (by simp)
     replace c10 := Bool.eq_false_iff.mpr c10
     subst c10
     have H1 : (some (([] : List (List (S66))), t657, true)) = some (r1, r2, r3) := by rw [if_neg (show ¬ (false = true) by decide)] at H; exact H
     clear H
     have H := H1
     clear H1
     simp only [Option.some.injEq, Prod.mk.injEq] at H
     obtain ⟨rfl, rfl, rfl⟩ := H
     obtain ⟨ASz39_0, cSz39_0, HGz39, hgz39, HSz39_0⟩ := HI0.out
     have hcz39_0 := cellS134_0 HGz39
     have hcz39_1 := cellS134_1 HGz39
     have hfz39_0 := blk_frozen HGz39 0
     have hfz39_1 := blk_frozen HGz39 1
     clear HGz39 hgz39
     try go_wp2_with (first | ((with_reducible refine gate_callee (f := 109) rfl ?_); refine goesL_ (some 15) rfl rfl Tryz.func109 (by kernel_rfl) rfl #[.pointer (some ⟨g, 0, none⟩)] rfl ha_ ?_; (with_reducible refine (script_reader_next.calls g x1000_1 x1001_1 t656 t657 t658 w0 _ ?side1 ?side2 A3.out).mono ?_); (case side1 => exact ci_ HI0); (case side2 => exact ce_ HB HI0); rintro e w40 ⟨rfl, hi, hb, hk⟩; refine ⟨_, rfl, ?_⟩; replace HO_3 := am_ (Kd.S_mono (Kd.S_keep (IsS134.apartS (show IsS134 w0 _ g x1000_1 x1001_1 from ci_ HI0) (cs_ HO_3) (by decide)) hk (fun _ h => h.2)) (fun _ h => h.1)); replace HK := am_ (KeepBut.trans (ck_ HK) hk (.inl rfl)); replace HB := am_ (hb); replace HI0 := am_ (hi); (try clear hb); (try clear hk); (try clear hi)) | ((with_reducible refine gate_callee (f := 124) rfl ?_); refine goesL_ (some 23) rfl rfl Tryz.func124 (by kernel_rfl) rfl #[.string t656] rfl ha_ ?_; (with_reducible refine (script_fate.calls t656 t662 t663 t664 _ _ ?side1 A9.out).mono ?_); (case side1 => exact sc.Env.below HE.out (ce_ HB HI0)); rintro e w41 ⟨rfl, hb⟩; refine ⟨_, rfl, ?_⟩; replace HO_3 := am_ (Kd.S_below (cs_ HO_3) hb); replace HK := am_ (KeepBut.trans (ck_ HK) (KeepBut.of_below hb g none) (.inl rfl)); replace HB := am_ (below_step (ce_ HB HI0) hb); replace HI0 := am_ (IsS134.below (ci_ HI0) hb); (try clear hb); (try clear hk); (try clear hi)) | ((with_reducible refine gate_dst (N := 5) rfl ?_); (try (refine gate_guard (by rfl) ?_; dsimp only)); refine box_event ?hg (N := 5) ?hd (cs := #[.int .i64 0, .int .i64 0, .int .u8 0]) (t := 66) ?hr ?_; (case hd => rfl); (case hg => rfl); (case hr => first | (go_simp; done) | (go_simp; rfl)); intro gb666 hg w42 hbox hb; replace HO_3 := am_ (Kd.S_below (Kd.S_elderB (cs_ HO_3) gb666 (Nat.le_of_eq hg.symm)) hb); replace HB := am_ (below_step (ce_ HB HI0) hb); have BK666 := am_ (hbox); have GW666 := am_ ((by rw [hg]; exact (keep_size (w := w) (g := g) (row := none) (ck_ HK)) : w.heap.size ≤ gb666)); have GE666 := am_ ((Nat.le_trans HW0.out (by rw [hg]; exact (keep_size (w := w) (g := g) (row := none) (ck_ HK)) : w.heap.size ≤ gb666) : w0.heap.size ≤ gb666)); replace HK := am_ (KeepBut.trans (ck_ HK) (KeepBut.of_below hb g none) (.inl rfl)); have NB0_666 := am_ ((by rw [hg]; exact Nat.ne_of_lt (IsS134.lt (show IsS134 w0 _ g t657 t658 from ci_ HI0)) : g ≠ gb666)); have NB666_0 := am_ ((by rw [hg]; exact Nat.ne_of_gt (IsS134.lt (show IsS134 w0 _ g t657 t658 from ci_ HI0)) : gb666 ≠ g)); replace HI0 := am_ (IsS134.below (ci_ HI0) hb); clear hb hbox hg; have hnb43 := NB666_0.out; have hnc43 := NB0_666.out; have hcz44_0 : w42.cell? ⟨gb666, 0, none⟩ = some (.int .i64 0) := (blk_cell BK666.out 0).trans rfl; have hcz44_1 : w42.cell? ⟨gb666, 1, none⟩ = some (.int .i64 0) := (blk_cell BK666.out 1).trans rfl; have hcz44_2 : w42.cell? ⟨gb666, 2, none⟩ = some (.int .u8 0) := (blk_cell BK666.out 2).trans rfl; have hfz44_0 := blk_frozen BK666.out 0; have hfz44_1 := blk_frozen BK666.out 1; have hfz44_2 := blk_frozen BK666.out 2; obtain ⟨ASz45_0, cSz45_0, HGz45, hgz45, HSz45_0⟩ := HI0.out; have hcz45_0 := cellS134_0 HGz45; have hcz45_1 := cellS134_1 HGz45; have hfz45_0 := blk_frozen HGz45 0; have hfz45_1 := blk_frozen HGz45 1; clear HGz45 hgz45))
     go_ret
     exact ⟨_, re_, by first | exact Kd.S_nil _ _ _ _ _ | exact Kd.N_nil _ _ _ _ _ | exact Kd.V_nil _ _ _ _ _ | exact Kd.Q_nil _ _ _ _ _ | exact Kd.R_nil _ _ _ _ _, by repeat (first | (with_reducible first | exact HI0.out | apply IsS134.alloc | apply IsS134.drewN | apply IsS134.drew | apply IsS134.set_0 | apply IsS134.set_1 | apply IsS134.far (hne := NB0_666.out)) | exact HI0.out), by repeat (first | (with_reducible first | exact HB.out | apply b1_ | apply b2_ | apply b3_ | refine b4_ ?_ (IsS134.ge HI0.out) | refine b4_ ?_ GE666.out) | exact HB.out), by repeat (first | (with_reducible first | exact HK.out | apply KeepBut.set_ | apply keep_drewN | apply keep_drew | apply keep_alloc | refine keep_far ?_ GW666.out _) | exact HK.out)⟩
   rw [if_neg c2] at H
   have c2b0 : decide (0 < (x1000_1.length : Int)) = false := decide_eq_false c2
   have c2b1 : decide (0 < x1000_1.length) = false := decide_eq_false (by omega)
   clear c2
   simp only [Option.some.injEq, Prod.mk.injEq] at H
   obtain ⟨rfl, rfl, rfl⟩ := H
   obtain ⟨ASz46_0, cSz46_0, HGz46, hgz46, HSz46_0⟩ := HI0.out
   have hcz46_0 := cellS134_0 HGz46
   have hcz46_1 := cellS134_1 HGz46
   have hfz46_0 := blk_frozen HGz46 0
   have hfz46_1 := blk_frozen HGz46 1
   clear HGz46 hgz46
   go_wp2
   go_ret
   exact ⟨_, re_, by (with_reducible repeat (first | apply Kd.S_alloc | apply Kd.S_drewN | apply Kd.S_drew)); exact HO_3.out, ci_ HI0, ce_ HB HI0, ck_ HK⟩
def script_reader_number.f (s0_0 : List ByteArray) (s0_1 : Bool) : Option (Int × List ByteArray × Bool) := (script_reader_next.f s0_0 s0_1).bind fun bt672 => ((script_whole.f bt672.1).bind fun bt675 => (if bt675.2 = true then (some (bt675.1, bt672.2.1, bt672.2.2)) else (some (bt675.1, bt672.2.1, true))))
theorem script_reader_number.calls (g : Nat) (s0_0 : List ByteArray) (s0_1 : Bool) (r1 : Int) (r2 : List ByteArray) (r3 : Bool) (w0 w : World) (hI : IsS134 w0 w g s0_0 s0_1) (hB : Below w0.heap.size w0 w) (hE : sc.Env w0) (h : script_reader_number.f s0_0 s0_1 = some (r1, r2, r3)) :
 Calls Tryz.prog 88 #[.pointer (some ⟨g, 0, none⟩)] w fun e w' => e = .returned (.int .i64 r1) ∧ IsS134 w0 w' g r2 r3 ∧ Below w0.heap.size w0 w' ∧ KeepBut w w' g none := by
 have HE := am_ hE
 clear hE
 have HI0 := am_ hI
 have HK := am_ (KeepBut.refl w g none)
 have HL := am_ hB.size
 clear hI
 have HW0 := am_ hB.size
 have HB := am_ hB
 clear hB
 have H : ((script_reader_next.f s0_0 s0_1).bind fun bt672 => ((script_whole.f bt672.1).bind fun bt675 => (if bt675.2 = true then (some (bt675.1, bt672.2.1, bt672.2.2)) else (some (bt675.1, bt672.2.1, true))))) = some (r1, r2, r3) := h
 clear h
 replace H := Option.bind_eq_some_iff.mp H
 obtain ⟨⟨t672, t673, t674⟩, A20, H⟩ := H
 replace H : ((script_whole.f t672).bind fun bt675 => (if bt675.2 = true then (some (bt675.1, t673, t674)) else (some (bt675.1, t673, true)))) = some (r1, r2, r3) := H
 have A2 := am_ A20
 clear A20
 replace H := Option.bind_eq_some_iff.mp H
 obtain ⟨⟨t675, t676⟩, A30, H⟩ := H
 replace H : (if t676 = true then (some (t675, t673, t674)) else (some (t675, t673, true))) = some (r1, r2, r3) := H
 have A3 := am_ A30
 clear A30
 by_cases c4 : t676 = true
 subst c4
 have H1 : (some (t675, t673, t674)) = some (r1, r2, r3) := by rw [if_pos rfl] at H; exact H
 clear H
 have H := H1
 clear H1
 simp only [Option.some.injEq, Prod.mk.injEq] at H
 obtain ⟨rfl, rfl, rfl⟩ := H
 go_enter Tryz.func88, Tryz.ntmps88
 try go_wp2_with (first | ((with_reducible refine gate_callee (f := 109) rfl ?_); refine goesL_ (some 7) rfl rfl Tryz.func109 (by kernel_rfl) rfl #[.pointer (some ⟨g, 0, none⟩)] rfl ha_ ?_; (with_reducible refine (script_reader_next.calls g s0_0 s0_1 t672 t673 t674 w0 _ ?side1 ?side2 A2.out).mono ?_); (case side1 => exact ci_ HI0); (case side2 => exact ce_ HB HI0); rintro e w5 ⟨rfl, hi, hb, hk⟩; refine ⟨_, rfl, ?_⟩; replace HK := am_ (KeepBut.trans (ck_ HK) hk (.inl rfl)); replace HB := am_ (hb); replace HI0 := am_ (hi); (try clear hb); (try clear hk); (try clear hi)) | ((with_reducible refine gate_callee (f := 111) rfl ?_); refine goesL_ (some 8) rfl rfl Tryz.func111 (by kernel_rfl) rfl #[.string t672] rfl ha_ ?_; (with_reducible refine (script_whole.calls t672 t675 true _ ?side1 A3.out).mono ?_); (case side1 => exact sc.Env.below HE.out (ce_ HB HI0)); rintro e w6 ⟨rfl, hb⟩; refine ⟨_, rfl, ?_⟩; replace HK := am_ (KeepBut.trans (ck_ HK) (KeepBut.of_below hb g none) (.inl rfl)); replace HB := am_ (below_step (ce_ HB HI0) hb); replace HI0 := am_ (IsS134.below (ci_ HI0) hb); (try clear hb); (try clear hk); (try clear hi)))
 rotate_left
 replace c4 := Bool.eq_false_iff.mpr c4
 subst c4
 have H1 : (some (t675, t673, true)) = some (r1, r2, r3) := by rw [if_neg (show ¬ (false = true) by decide)] at H; exact H
 clear H
 have H := H1
 clear H1
 simp only [Option.some.injEq, Prod.mk.injEq] at H
 obtain ⟨rfl, rfl, rfl⟩ := H
 go_enter Tryz.func88, Tryz.ntmps88
 try go_wp2_with (first | ((with_reducible refine gate_callee (f := 109) rfl ?_); refine goesL_ (some 7) rfl rfl Tryz.func109 (by kernel_rfl) rfl #[.pointer (some ⟨g, 0, none⟩)] rfl ha_ ?_; (with_reducible refine (script_reader_next.calls g s0_0 s0_1 t672 t673 t674 w0 _ ?side1 ?side2 A2.out).mono ?_); (case side1 => exact ci_ HI0); (case side2 => exact ce_ HB HI0); rintro e w7 ⟨rfl, hi, hb, hk⟩; refine ⟨_, rfl, ?_⟩; replace HK := am_ (KeepBut.trans (ck_ HK) hk (.inl rfl)); replace HB := am_ (hb); replace HI0 := am_ (hi); (try clear hb); (try clear hk); (try clear hi)) | ((with_reducible refine gate_callee (f := 111) rfl ?_); refine goesL_ (some 8) rfl rfl Tryz.func111 (by kernel_rfl) rfl #[.string t672] rfl ha_ ?_; (with_reducible refine (script_whole.calls t672 t675 false _ ?side1 A3.out).mono ?_); (case side1 => exact sc.Env.below HE.out (ce_ HB HI0)); rintro e w8 ⟨rfl, hb⟩; refine ⟨_, rfl, ?_⟩; replace HK := am_ (KeepBut.trans (ck_ HK) (KeepBut.of_below hb g none) (.inl rfl)); replace HB := am_ (below_step (ce_ HB HI0) hb); replace HI0 := am_ (IsS134.below (ci_ HI0) hb); (try clear hb); (try clear hk); (try clear hi); obtain ⟨ASz9_0, cSz9_0, HGz9, hgz9, HSz9_0⟩ := HI0.out; have hcz9_0 := cellS134_0 HGz9; have hcz9_1 := cellS134_1 HGz9; have hfz9_0 := blk_frozen HGz9 0; have hfz9_1 := blk_frozen HGz9 1; clear HGz9 hgz9))
 rotate_left
 all_goals
  go_ret
  exact ⟨re_, ci_ HI0, ce_ HB HI0, ck_ HK⟩
def script_reader_quoted.f (k : Nat) (s0_0 : List ByteArray) (s0_1 : Bool) : Option (ByteArray × List ByteArray × Bool) := (script_reader_next.f s0_0 s0_1).bind fun bt677 => ((script_unquote.f k bt677.1).bind fun bt680 => (if bt680.2 = true then (some (bt680.1, bt677.2.1, bt677.2.2)) else (some (bt680.1, bt677.2.1, true))))
theorem script_reader_quoted.calls (k : Nat) (g : Nat) (s0_0 : List ByteArray) (s0_1 : Bool) (r1 : ByteArray) (r2 : List ByteArray) (r3 : Bool) (w0 w : World) (hI : IsS134 w0 w g s0_0 s0_1) (hB : Below w0.heap.size w0 w) (hE : sc.Env w0) (h : script_reader_quoted.f k s0_0 s0_1 = some (r1, r2, r3)) :
 Calls Tryz.prog 94 #[.pointer (some ⟨g, 0, none⟩)] w fun e w' => e = .returned (.string r1) ∧ IsS134 w0 w' g r2 r3 ∧ Below w0.heap.size w0 w' ∧ KeepBut w w' g none := by
 have HE := am_ hE
 clear hE
 have HI0 := am_ hI
 have HK := am_ (KeepBut.refl w g none)
 have HL := am_ hB.size
 clear hI
 have HW0 := am_ hB.size
 have HB := am_ hB
 clear hB
 have H : ((script_reader_next.f s0_0 s0_1).bind fun bt677 => ((script_unquote.f k bt677.1).bind fun bt680 => (if bt680.2 = true then (some (bt680.1, bt677.2.1, bt677.2.2)) else (some (bt680.1, bt677.2.1, true))))) = some (r1, r2, r3) := h
 clear h
 replace H := Option.bind_eq_some_iff.mp H
 obtain ⟨⟨t677, t678, t679⟩, A20, H⟩ := H
 replace H : ((script_unquote.f k t677).bind fun bt680 => (if bt680.2 = true then (some (bt680.1, t678, t679)) else (some (bt680.1, t678, true)))) = some (r1, r2, r3) := H
 have A2 := am_ A20
 clear A20
 replace H := Option.bind_eq_some_iff.mp H
 obtain ⟨⟨t680, t681⟩, A30, H⟩ := H
 replace H : (if t681 = true then (some (t680, t678, t679)) else (some (t680, t678, true))) = some (r1, r2, r3) := H
 have A3 := am_ A30
 clear A30
 by_cases c4 : t681 = true
 subst c4
 have H1 : (some (t680, t678, t679)) = some (r1, r2, r3) := by rw [if_pos rfl] at H; exact H
 clear H
 have H := H1
 clear H1
 simp only [Option.some.injEq, Prod.mk.injEq] at H
 obtain ⟨rfl, rfl, rfl⟩ := H
 go_enter Tryz.func94, Tryz.ntmps94
 try go_wp2_with (first | ((with_reducible refine gate_callee (f := 109) rfl ?_); refine goesL_ (some 7) rfl rfl Tryz.func109 (by kernel_rfl) rfl #[.pointer (some ⟨g, 0, none⟩)] rfl ha_ ?_; (with_reducible refine (script_reader_next.calls g s0_0 s0_1 t677 t678 t679 w0 _ ?side1 ?side2 A2.out).mono ?_); (case side1 => exact ci_ HI0); (case side2 => exact ce_ HB HI0); rintro e w5 ⟨rfl, hi, hb, hk⟩; refine ⟨_, rfl, ?_⟩; replace HK := am_ (KeepBut.trans (ck_ HK) hk (.inl rfl)); replace HB := am_ (hb); replace HI0 := am_ (hi); (try clear hb); (try clear hk); (try clear hi)) | ((with_reducible refine gate_callee (f := 115) rfl ?_); refine goesL_ (some 8) rfl rfl Tryz.func115 (by kernel_rfl) rfl #[.string t677] rfl ha_ ?_; (with_reducible refine (script_unquote.calls k t677 t680 true _ ?side1 A3.out).mono ?_); (case side1 => exact sc.Env.below HE.out (ce_ HB HI0)); rintro e w6 ⟨rfl, hb⟩; refine ⟨_, rfl, ?_⟩; replace HK := am_ (KeepBut.trans (ck_ HK) (KeepBut.of_below hb g none) (.inl rfl)); replace HB := am_ (below_step (ce_ HB HI0) hb); replace HI0 := am_ (IsS134.below (ci_ HI0) hb); (try clear hb); (try clear hk); (try clear hi)))
 rotate_left
 replace c4 := Bool.eq_false_iff.mpr c4
 subst c4
 have H1 : (some (t680, t678, true)) = some (r1, r2, r3) := by rw [if_neg (show ¬ (false = true) by decide)] at H; exact H
 clear H
 have H := H1
 clear H1
 simp only [Option.some.injEq, Prod.mk.injEq] at H
 obtain ⟨rfl, rfl, rfl⟩ := H
 go_enter Tryz.func94, Tryz.ntmps94
 try go_wp2_with (first | ((with_reducible refine gate_callee (f := 109) rfl ?_); refine goesL_ (some 7) rfl rfl Tryz.func109 (by kernel_rfl) rfl #[.pointer (some ⟨g, 0, none⟩)] rfl ha_ ?_; (with_reducible refine (script_reader_next.calls g s0_0 s0_1 t677 t678 t679 w0 _ ?side1 ?side2 A2.out).mono ?_); (case side1 => exact ci_ HI0); (case side2 => exact ce_ HB HI0); rintro e w7 ⟨rfl, hi, hb, hk⟩; refine ⟨_, rfl, ?_⟩; replace HK := am_ (KeepBut.trans (ck_ HK) hk (.inl rfl)); replace HB := am_ (hb); replace HI0 := am_ (hi); (try clear hb); (try clear hk); (try clear hi)) | ((with_reducible refine gate_callee (f := 115) rfl ?_); refine goesL_ (some 8) rfl rfl Tryz.func115 (by kernel_rfl) rfl #[.string t677] rfl ha_ ?_; (with_reducible refine (script_unquote.calls k t677 t680 false _ ?side1 A3.out).mono ?_); (case side1 => exact sc.Env.below HE.out (ce_ HB HI0)); rintro e w8 ⟨rfl, hb⟩; refine ⟨_, rfl, ?_⟩; replace HK := am_ (KeepBut.trans (ck_ HK) (KeepBut.of_below hb g none) (.inl rfl)); replace HB := am_ (below_step (ce_ HB HI0) hb); replace HI0 := am_ (IsS134.below (ci_ HI0) hb); (try clear hb); (try clear hk); (try clear hi); obtain ⟨ASz9_0, cSz9_0, HGz9, hgz9, HSz9_0⟩ := HI0.out; have hcz9_0 := cellS134_0 HGz9; have hcz9_1 := cellS134_1 HGz9; have hfz9_0 := blk_frozen HGz9 0; have hfz9_1 := blk_frozen HGz9 1; clear HGz9 hgz9))
 rotate_left
 all_goals
  go_ret
  exact ⟨re_, ci_ HI0, ce_ HB HI0, ck_ HK⟩
end Go.Proofs.YtndbbgihpoiojaaGreatDoor.Q
namespace Go.Proofs.YtndbbgihpoiojaaGreatDoor.Q
open Go.RowKit Go.Proofs.YtndbbgihpoiojaaGreatDoorW.PrintWords Go.Proofs.YtndbbgihpoiojaaGreatDoorW.PrintLast
def splitOn (c : UInt8) : List UInt8 → List (List UInt8)
 | [] => [[]]
 | b :: l => if b = c then [] :: splitOn c l else match splitOn c l with
  | [] => [[b]]
  | x :: r => (b :: x) :: r
theorem splitOn_ne (c : UInt8) (l : List UInt8) : splitOn c l ≠ [] := by
 induction l with
 | nil => simp [splitOn]
 | cons b l ih =>
  unfold splitOn
  split
  · simp
  split <;> simp
theorem splitOn_size (c : UInt8) (l : List UInt8) : ∀ x ∈ splitOn c l, x.length ≤ l.length := by
 induction l with
 | nil => intro x hx; simp [splitOn] at hx; simp [hx]
 | cons b l ih =>
  intro x hx
  unfold splitOn at hx
  split at hx
  · rcases List.mem_cons.1 hx with rfl | hx
    · simp
    have := ih x hx; simp; omega
  split at hx
  · rename_i e
    exact absurd e (splitOn_ne c l)
  rename_i y r e
  rcases List.mem_cons.1 hx with rfl | hx
  · have := ih y (by rw [e]; exact List.mem_cons_self ..); simp; omega
  have := ih x (by rw [e]; exact List.mem_cons_of_mem _ hx); simp; omega
theorem splitK_on (c : UInt8) (l : List UInt8) : Lib.splitK [c] 0 (Lib.count l [c]) l = splitOn c l := by
 induction l with
 | nil =>
  rw [Lib.count_miss (by simp [Lib.index])]
  rfl
 | cons b l ih =>
  by_cases h : b = c
  · subst h
    have hix : Lib.index (b :: l) [b] = ((0 : Nat) : Int) := by rw [Lib.index]; simp [List.isPrefixOf]
    rw [Lib.count_cons_eq, Nat.add_comm, Lib.splitK, hix]
    simp only [splitOn, if_true]
    rw [← ih]
    simp
  have hp : ([c] : List UInt8).isPrefixOf (b :: l) = false := by simp [List.isPrefixOf, Ne.symm h]
  have hix : Lib.index (b :: l) [c] = if Lib.index l [c] == -1 then -1 else Lib.index l [c] + 1 := by rw [Lib.index, hp]; simp
  rw [Lib.count_cons_ne b c l h]
  simp only [splitOn, if_neg h]
  by_cases hm : Lib.index l [c] = -1
  · rw [Lib.count_miss hm] at ih ⊢
    rw [← ih]
    rfl
  have hge := Lib.index_ge l [c]
  obtain ⟨j, hj⟩ : ∃ j : Nat, Lib.index l [c] = j := ⟨(Lib.index l [c]).toNat, by omega⟩
  have hix' : Lib.index (b :: l) [c] = ((j + 1 : Nat) : Int) := by rw [hix, if_neg (fun e => hm (beq_iff_eq.1 e)), hj]; omega
  rw [Lib.count_hit (by simp) hj] at ih ⊢
  rw [← ih, Nat.add_comm, Lib.splitK, Lib.splitK, hix', hj]
  have e1 : ((((j + 1 : Nat) : Int)) == -1) = false := by simp; omega
  have e2 : ((((j : Nat) : Int)) == -1) = false := by simp
  rw [e1, e2]
  simp
theorem split_data (s : ByteArray) (c : UInt8) : (splitB s ⟨#[c]⟩).map (·.data.toList) = splitOn c s.data.toList := by
 unfold splitB
 rw [Lib.splitB_data]
 exact splitK_on c s.data.toList
theorem split_f (s : ByteArray) (c : UInt8) (hs : s.size ≤ 65536) : strings_Split.f s ⟨#[c]⟩ = some (splitB s ⟨#[c]⟩) := by
 unfold strings_Split.f
 have h0 : 1 ≤ (⟨#[c]⟩ : ByteArray).size := by simp [ByteArray.size]
 have h1 : (splitB s ⟨#[c]⟩).length = Lib.countB s ⟨#[c]⟩ + 1 := Lib.splitB_all ⟨#[c]⟩ h0 0 _ s rfl
 have h2 := Lib.countB_le ⟨#[c]⟩ h0 s.size s (Nat.le_refl _)
 rw [if_pos ⟨⟨by omega, h0⟩, h1, by omega⟩]
def numL (l : List UInt8) : Option Int := sc.numOf ⟨l.toArray⟩
theorem numL_data (s : ByteArray) : numL s.data.toList = sc.numOf s := by unfold numL; rw [ba_eta]
theorem num_range {s : ByteArray} {n : Int} (h : sc.numOf s = some n) : parseV s = n := by
 unfold sc.numOf at h
 unfold parseV
 split at h
 · rename_i v hv
   rw [hv]
   split at h
   · exact Option.some.inj h
   cases h
 cases h
theorem whole_f {s : ByteArray} (h : s.size ≤ 65536) : script_whole.f s = some (parseV s, (sc.numOf s).isSome) := by
 unfold script_whole.f
 rw [if_pos h]
def fateOf (l : List UInt8) : Option S66 := match splitOn 44 l with
 | [a, b, c] => match numL a, numL b, numL c with
  | some x, some y, some z => if 0 ≤ z ∧ z ≤ 255 then some ⟨x, y, z⟩ else none
  | _, _, _ => none
 | _ => none
theorem fate_spec (s : ByteArray) (hs : s.size ≤ 65536) : ∃ r1 r2 r3, script_fate.f s = some (r1, r2, r3, (fateOf s.data.toList).isSome) ∧ ∀ f, fateOf s.data.toList = some f → (⟨r1, r2, r3⟩ : S66) = f := by
 unfold script_fate.f
 rw [show (⟨#[44]⟩ : ByteArray) = ⟨#[(44 : UInt8)]⟩ from rfl, split_f s 44 hs]
 simp only [Option.bind_some]
 have hd := split_data s 44
 generalize splitB s ⟨#[44]⟩ = p at hd
 have hsz : ∀ x ∈ p, x.size ≤ 65536 := by
  intro x hx
  have := splitOn_size 44 s.data.toList x.data.toList (by rw [← hd]; exact List.mem_map_of_mem hx)
  rw [data_length, data_length] at this
  omega
 unfold fateOf
 rw [← hd]
 rcases p with _ | ⟨a, _ | ⟨b, _ | ⟨c, _ | ⟨d, p⟩⟩⟩⟩
 · exact ⟨0, 0, 0, by simp, fun f hf => by simp at hf⟩
 · exact ⟨0, 0, 0, by simp, fun f hf => by simp at hf⟩
 · exact ⟨0, 0, 0, by simp, fun f hf => by simp at hf⟩
 · have ha := hsz a (by simp)
   have hb := hsz b (by simp)
   have hc := hsz c (by simp)
   simp only [List.map_cons, List.map_nil, List.length_cons, List.length_nil, numL_data]
   rw [if_pos (by decide), if_pos (by decide), show rdOf ByteArray.empty [a, b, c] 0 = a from rfl, whole_f ha]
   simp only [Option.bind_some]
   rw [if_pos (by decide), show rdOf ByteArray.empty [a, b, c] 1 = b from rfl, whole_f hb]
   simp only [Option.bind_some]
   rw [if_pos (by decide), show rdOf ByteArray.empty [a, b, c] 2 = c from rfl, whole_f hc]
   simp only [Option.bind_some]
   cases h1 : sc.numOf a with
   | none => exact ⟨parseV a, parseV b, parseV c % 256, by simp, fun f hf => by simp at hf⟩
   | some x =>
    cases h2 : sc.numOf b with
    | none => exact ⟨parseV a, parseV b, parseV c % 256, by simp, fun f hf => by simp at hf⟩
    | some y =>
     cases h3 : sc.numOf c with
     | none => exact ⟨parseV a, parseV b, parseV c % 256, by simp, fun f hf => by simp at hf⟩
     | some z =>
      have e1 := num_range h1
      have e2 := num_range h2
      have e3 := num_range h3
      subst e1 e2 e3
      simp only [Option.isSome_some, if_true]
      by_cases h0 : 0 ≤ parseV c
      · rw [if_pos (by omega)]
        by_cases h5 : parseV c ≤ 255
        · refine ⟨_, _, _, by rw [if_pos ⟨h0, h5⟩]; simp [h5]; exact ⟨rfl, rfl, rfl⟩, fun f hf => ?_⟩
          rw [if_pos ⟨h0, h5⟩] at hf
          rw [← Option.some.inj hf]
          congr 1
          omega
        refine ⟨_, _, _, by rw [if_neg (fun h => h5 h.2)]; simp [h5]; exact ⟨rfl, rfl, rfl⟩, fun f hf => ?_⟩
        rw [if_neg (fun h => h5 h.2)] at hf
        cases hf
      rw [if_neg (by omega), if_neg (fun h => h0 h.1)]
      exact ⟨_, _, _, rfl, fun f hf => by cases hf⟩
 refine ⟨0, 0, 0, ?_, fun f hf => by simp at hf⟩
 simp only [List.length_cons, List.map_cons]
 rw [if_neg (by omega)]
 rfl
def strikesGo : List (List S66) → List ByteArray → Option (List (List S66))
 | acc, [] => some acc
 | acc, w :: l => if w.data.toList = [47] then strikesGo (acc ++ [[]]) l else match fateOf w.data.toList with
  | none => none
  | some f => if acc = [] then none else strikesGo (acc.set (acc.length - 1) (acc.getD (acc.length - 1) [] ++ [f])) l
def strikesOf (l : List ByteArray) : Option (List (List S66)) := strikesGo [] l
theorem strikes_l0 (l : List ByteArray) : ∀ (acc : List (List S66)) (bad : Bool) (k : Nat), (∀ x ∈ l, x.size ≤ 65536) → acc.length + l.length ≤ 1000000 → (∀ x ∈ acc, x.length + l.length ≤ 1000000) → l.length < k →
 ∃ st rest, script_reader_strikes.l0 k acc l bad = some (st, rest, bad || (strikesGo acc l).isNone) ∧ ∀ s, strikesGo acc l = some s → st = s ∧ rest = [] := by
 induction l with
 | nil =>
  intro acc bad k hs h1 h2 hk
  obtain ⟨k, rfl⟩ : ∃ m, k = m + 1 := ⟨k - 1, by omega⟩
  simp only [script_reader_strikes.l0]
  rw [if_neg (by simp)]
  exact ⟨acc, [], by simp [strikesGo], fun s hs => by simp [strikesGo] at hs; exact ⟨hs, rfl⟩⟩
 | cons w l ih =>
  intro acc bad k hs h1 h2 hk
  simp only [List.length_cons] at h1 h2 hk
  obtain ⟨k, rfl⟩ : ∃ m, k = m + 1 := ⟨k - 1, by omega⟩
  simp only [script_reader_strikes.l0, script_reader_next.f]
  rw [if_pos (by simp)]
  simp only [Option.bind_some, toList_data]
  have hw := hs w (List.mem_cons_self ..)
  have hl : ∀ x ∈ l, x.size ≤ 65536 := fun x hx => hs x (List.mem_cons_of_mem _ hx)
  by_cases e : w.data.toList = [47]
  · rw [if_pos e, if_pos (by omega)]
    have hg : strikesGo acc (w :: l) = strikesGo (acc ++ [[]]) l := by
     rw [strikesGo, if_pos e]
    rw [hg]
    exact ih (acc ++ [[]]) bad k hl (by simp; omega) (by
     intro x hx
     rcases List.mem_append.1 hx with hx | hx
     · have := h2 x hx; omega
     simp at hx; subst hx; simp; omega) (by omega)
  rw [if_neg e]
  obtain ⟨r1, r2, r3, hf, hfs⟩ := fate_spec w hw
  rw [hf]
  simp only [Option.bind_some]
  cases hfo : fateOf w.data.toList with
  | none =>
   have hg : strikesGo acc (w :: l) = none := by
    rw [strikesGo, if_neg e, hfo]
   rw [hg]
   refine ⟨[], l, ?_, fun s hs => by cases hs⟩
   simp
  | some f =>
   have e2 := hfs f hfo
   simp only [Option.isSome_some, if_true]
   by_cases ha : acc = []
   · have hg : strikesGo acc (w :: l) = none := by
       rw [strikesGo, if_neg e, hfo]
       simp [ha]
     rw [hg, if_pos (by simp [ha])]
     exact ⟨[], l, by simp, fun s hs => by cases hs⟩
   have hlen : 0 < acc.length := List.length_pos_iff.2 ha
   have hg : strikesGo acc (w :: l) = strikesGo (acc.set (acc.length - 1) (acc.getD (acc.length - 1) [] ++ [f])) l := by
    rw [strikesGo, if_neg e, hfo]
    simp [ha]
   have e3 : wrap64 ((acc.length : Int) - 1) = ((acc.length - 1 : Nat) : Int) := by rw [w64 (by omega) (by omega)]; omega
   have e4 : rd_L7 acc ((acc.length - 1 : Nat) : Int) = acc.getD (acc.length - 1) [] := by
    unfold rd_L7
    simp
   have h5 : (acc.getD (acc.length - 1) []).length + (l.length + 1) ≤ 1000000 := by
    apply h2
    rw [List.getD_eq_getElem?_getD, List.getElem?_eq_getElem (by omega)]
    exact List.getElem_mem _
   rw [if_neg (by omega), e3, if_pos (by omega), if_pos (by omega), e4, if_pos (by omega), e2, hg, Int.toNat_natCast]
   refine ih _ bad k hl (by rw [List.length_set]; omega) (fun x hx => ?_) (by omega)
   rcases List.mem_or_eq_of_mem_set hx with hx | hx
   · have := h2 x hx; omega
   subst hx; rw [List.length_append]; simp at h5 ⊢; omega
theorem IsS134.fail {w0 W : World} {g : Nat} {f0 : List ByteArray} {f1 : Bool} (h : IsS134 w0 W g f0 f1) : IsS134 w0 (W.setCell ⟨g, 1, none⟩ (.bool true)) g f0 true := by
 obtain ⟨A0, c0, hb, hg, hr0⟩ := h
 exact ⟨A0, c0, by simpa using blk_set hb 1 (.bool true), hg, hr0⟩
theorem IsS134.bad {w0 W : World} {g : Nat} {f0 : List ByteArray} {f1 : Bool} (h : IsS134 w0 W g f0 f1) : W.cell? ⟨g, 1, none⟩ = some (.bool f1) ∧ W.frozen? ⟨g, 1, none⟩ = false := by
 obtain ⟨A0, c0, hb, hg, hr0⟩ := h
 exact ⟨(blk_cell hb 1).trans rfl, blk_frozen hb 1⟩
theorem label_calls (g : Nat) (s0 : List ByteArray) (s1 : Bool) (w0 w : World) (hI : IsS134 w0 w g s0 s1) (hB : Below w0.heap.size w0 w) (hE : sc.Env w0) (hs : ∀ x ∈ s0, x.size ≤ 65536) :
 Calls Tryz.prog 86 #[.pointer (some ⟨g, 0, none⟩)] w fun e w' => ∃ n : Int, e = .returned (.int .u64 n) ∧ (0 ≤ n ∧ n ≤ 18446744073709551615) ∧ (∀ m, sc.labelOf (s0.headD ⟨#[]⟩) = some m → n = m) ∧
  IsS134 w0 w' g s0.tail (s1 || s0.isEmpty || !(sc.labelOf (s0.headD ⟨#[]⟩)).isSome) ∧ Below w0.heap.size w0 w' ∧ KeepBut w w' g none := by
 obtain ⟨x, b, hf, hx, hxs⟩ : ∃ x b, script_reader_next.f s0 s1 = some (x, s0.tail, b) ∧ x = s0.headD ⟨#[]⟩ ∧ b = (s1 || s0.isEmpty) := by
  cases s0 with
  | nil => exact ⟨_, _, rfl, rfl, by simp⟩
  | cons y l => exact ⟨_, _, rfl, rfl, by simp⟩
 rw [← hx, ← hxs]
 have hsz : x.size ≤ 65536 := by
  cases s0 with
  | nil => rw [hx]; decide
  | cons y l => rw [hx]; exact hs y (List.mem_cons_self ..)
 generalize hst : s0.tail = st at *
 have HN := am_ (script_reader_next.calls g s0 s1 x st b w0 w hI hB hf)
 have HE := am_ hE
 have HB := am_ hB
 have HG := am_ hI.ge
 have HK0 := am_ (KeepBut.refl w g none)
 clear hI hE hf hx hxs hst hs hB
 go_enter Tryz.func86, Tryz.ntmps86
 go_wp2_with fail
 refine HN.out.mono ?_
 rintro e w1 ⟨rfl, hI1, hB1, hk1⟩
 have HE1 := am_ (HE.out.below hB1)
 have HW := am_ (sc.parseUint_c x hsz w1 HE1.out)
 have HI1 := am_ hI1
 have HB1 := am_ hB1
 have HK1 := am_ hk1
 clear hI1 hk1 hB1 HN
 go_wp2_with fail
 refine HW.out.mono ?_
 rintro e w2 ⟨n, ev, rfl, hn, hcase, hb2⟩
 have HE2 := am_ (HE1.out.below hb2)
 have HI2 := am_ (HI1.out.below hb2)
 have HB2 := am_ (below_step HB1.out hb2)
 have HK2 := am_ (KeepBut.trans HK1.out (KeepBut.of_below hb2 g none) (.inl rfl))
 clear hb2 HW
 have HNN := am_ hn
 rcases hcase with ⟨hp, rfl⟩ | ⟨hp, ty, pv, rfl⟩
 · have HF := am_ (fun (W : World) (hW : sc.Env W) => sc.formatUint_c n (by omega) W hW)
   have HP := am_ hp
   clear hp hn
   have e1 : (sc.labelOf x) = if Lib.decDigits n = x.data.toList then some n else none := by
    unfold sc.labelOf
    rw [HP.out]
   have EL := am_ e1
   clear e1
   by_cases hd : Lib.decDigits n = x.data.toList
   · have hb : (Lib.decDigits n == x.toList) = true := by rw [sc.bytes_list, hd]; simp
     have HD := am_ hd
     clear hd
     go_wp2_with (go_at_call 27; refine (HF.out _ (by first | exact HE2.out | exact HE2.out.drew)).mono ?_; rintro e w3 ⟨rfl, hb3⟩)
     go_ret
     have e2 := EL.out
     rw [if_pos HD.out] at e2
     refine ⟨n, rfl, by have := HNN.out; omega, fun m hm => by rw [e2] at hm; rw [Option.some.inj hm], by rw [e2]; simpa using HI2.out.below hb3, below_step HB2.out hb3, KeepBut.trans HK2.out (KeepBut.of_below hb3 g none) (.inl rfl)⟩
   have hb : (Lib.decDigits n == x.toList) = false := by rw [sc.bytes_list]; simpa using hd
   have HD := am_ hd
   clear hd
   go_wp2_with (go_at_call 27; refine (HF.out _ (by first | exact HE2.out | exact HE2.out.drew)).mono ?_; rintro e w3 ⟨rfl, hb3⟩; have HI3 := am_ (HI2.out.below hb3); have h1 := HI3.out.bad.1; have f1 := HI3.out.bad.2)
   go_ret
   have e2 := EL.out
   rw [if_neg HD.out] at e2
   exact ⟨n, rfl, by have := HNN.out; omega, fun m hm => by rw [e2] at hm; simp at hm, by rw [e2]; simpa using HI3.out.fail, b4_ (below_step HB2.out hb3) HG.out, (KeepBut.trans HK2.out (KeepBut.of_below hb3 g none) (.inl rfl)).set_ 1 _⟩
 have e1 : sc.labelOf x = none := by
  unfold sc.labelOf
  split
  · rename_i v hv; exact absurd hv (hp v)
  rfl
 have EL := am_ e1
 clear e1 hp hn
 have h1 := HI2.out.bad.1
 have f1 := HI2.out.bad.2
 go_wp2_with fail
 go_ret
 exact ⟨n, rfl, by have := HNN.out; omega, fun m hm => by rw [EL.out] at hm; simp at hm, by rw [EL.out]; simpa using HI2.out.fail, b4_ HB2.out HG.out, HK2.out.set_ 1 _⟩
def hd0 (l : List ByteArray) : ByteArray := l.headD ⟨#[]⟩
theorem next_f (s0 : List ByteArray) (s1 : Bool) : script_reader_next.f s0 s1 = some (hd0 s0, s0.tail, s1 || s0.isEmpty) := by
 cases s0 with
 | nil => simp [script_reader_next.f, hd0]
 | cons x l => simp [script_reader_next.f, hd0]
theorem hd0_size {s0 : List ByteArray} (hs : ∀ x ∈ s0, x.size ≤ 65536) : (hd0 s0).size ≤ 65536 := by
 cases s0 with
 | nil => decide
 | cons x l => exact hs x (List.mem_cons_self ..)
theorem parseV_range (s : ByteArray) : sc.InInt (parseV s) := by
 unfold parseV
 split
 · rename_i v hv
   have hb := Lib.parseIntB_bounds hv
   exact ⟨by have := hb.1; simp at this; omega, by have := hb.2; simp at this; omega⟩
 · show sc.InInt (Lib.intSat 64 s.data.toList)
   unfold Lib.intSat
   split <;> exact ⟨by decide, by decide⟩
 exact (show sc.InInt 0 from ⟨by decide, by decide⟩)
theorem number_calls (g : Nat) (s0 : List ByteArray) (s1 : Bool) (w0 w : World) (hI : IsS134 w0 w g s0 s1) (hB : Below w0.heap.size w0 w) (hE : sc.Env w0) (hs : ∀ x ∈ s0, x.size ≤ 65536) :
 Calls Tryz.prog 88 #[.pointer (some ⟨g, 0, none⟩)] w fun e w' => ∃ n : Int, e = .returned (.int .i64 n) ∧ sc.InInt n ∧ (∀ m, sc.numOf (hd0 s0) = some m → n = m) ∧
  IsS134 w0 w' g s0.tail (s1 || s0.isEmpty || !(sc.numOf (hd0 s0)).isSome) ∧ Below w0.heap.size w0 w' ∧ KeepBut w w' g none := by
 have h : script_reader_number.f s0 s1 = some (parseV (hd0 s0), s0.tail, s1 || s0.isEmpty || !(sc.numOf (hd0 s0)).isSome) := by
  unfold script_reader_number.f
  rw [next_f]
  simp only [Option.bind_some]
  rw [whole_f (hd0_size hs)]
  simp only [Option.bind_some]
  cases sc.numOf (hd0 s0) <;> simp
 refine (script_reader_number.calls g s0 s1 _ _ _ w0 w hI hB hE h).mono ?_
 rintro e w' ⟨rfl, h1, h2, h3⟩
 exact ⟨_, rfl, parseV_range _, fun m hm => num_range hm, h1, h2, h3⟩
theorem quoted_calls (g : Nat) (s0 : List ByteArray) (s1 : Bool) (w0 w : World) (hI : IsS134 w0 w g s0 s1) (hB : Below w0.heap.size w0 w) (hE : sc.Env w0) (hs : ∀ x ∈ s0, x.size ≤ 65536) :
 Calls Tryz.prog 94 #[.pointer (some ⟨g, 0, none⟩)] w fun e w' => ∃ t : ByteArray, e = .returned (.string t) ∧ (∀ u, sc.unquoteL (hd0 s0).data.toList = some u → t = ⟨u.toArray⟩) ∧ t.size ≤ 65536 ∧
  IsS134 w0 w' g s0.tail (s1 || s0.isEmpty || !(sc.unquoteL (hd0 s0).data.toList).isSome) ∧ Below w0.heap.size w0 w' ∧ KeepBut w w' g none := by
 obtain ⟨k, t, hu, ht, hsz⟩ := unquote_spec (hd0 s0) (hd0_size hs)
 have h : script_reader_quoted.f k s0 s1 = some (t, s0.tail, s1 || s0.isEmpty || !(sc.unquoteL (hd0 s0).data.toList).isSome) := by
  unfold script_reader_quoted.f
  rw [next_f]
  simp only [Option.bind_some]
  rw [hu]
  simp only [Option.bind_some]
  cases sc.unquoteL (hd0 s0).data.toList <;> simp
 refine (script_reader_quoted.calls k g s0 s1 _ _ _ w0 w hI hB hE h).mono ?_
 rintro e w' ⟨rfl, h1, h2, h3⟩
 exact ⟨t, rfl, ht, Nat.le_trans hsz (hd0_size hs), h1, h2, h3⟩
theorem strikes_calls (g : Nat) (s0 : List ByteArray) (s1 : Bool) (w0 w : World) (hI : IsS134 w0 w g s0 s1) (hB : Below w0.heap.size w0 w) (hE : sc.Env w0) (hs : ∀ x ∈ s0, x.size ≤ 65536) (hl : s0.length ≤ 1000000) :
 Calls Tryz.prog 113 #[.pointer (some ⟨g, 0, none⟩)] w fun e w' => ∃ (v : Value) (st : List (List S66)) (rest : List ByteArray), e = .returned v ∧ Kd.S (Kd.slice 66 k66) 64 w' w.heap.size (fun _ => True) v st ∧ (∀ s, strikesOf s0 = some s → st = s) ∧
  IsS134 w0 w' g rest (s1 || (strikesOf s0).isNone) ∧ Below w0.heap.size w0 w' ∧ KeepBut w w' g none := by
 obtain ⟨st, rest, h, hst⟩ := strikes_l0 s0 [] s1 (s0.length + 1) hs (by simpa using hl) (by simp) (by omega)
 refine (script_reader_strikes.calls (s0.length + 1) g s0 s1 st rest _ w0 w hI hB hE h).mono ?_
 rintro e w' ⟨v, rfl, hS, h1, h2, h3⟩
 exact ⟨v, st, rest, rfl, hS, fun s hs => (hst s hs).1, h1, h2, h3⟩
end Go.Proofs.YtndbbgihpoiojaaGreatDoor.Q
namespace Go.Proofs.YtndbbgihpoiojaaGreatDoor.Q
open Go.RowKit Go.Proofs.YtndbbgihpoiojaaGreatDoorW.PrintWords Go.Proofs.YtndbbgihpoiojaaGreatDoorW.PrintLast
section
variable {α : Type} {d : Kd α} {e t g base : Nat} {w w1 : World} {v u : Value} {xs : List α}
abbrev TT_ : Nat → Prop := fun _ => True
theorem R_keepT {cells : Array Value} (h : d.R e w base TT_ v xs) (hb : w.heap[g]? = some (.cells cells t (0, 0))) (ht : ∀ q, q ∈ e :: d.E → q ≠ t) (hk : KeepBut w w1 g none) : d.R e w1 base TT_ v xs :=
 Kd.R_mono (Kd.R_keep (Kd.R_types h hb ht) hk (fun _ h => h.2)) (fun _ _ => trivial)
theorem R_grownT (h : d.R e w base TT_ v xs) (ho : ∀ k, u.ownBlock = some k → ∃ cells, w.heap[k]? = some (.cells cells t (0, 0))) (ht : ∀ q, q ∈ e :: d.E → q ≠ t) (hg : w.grownBy w1 u.ownBlock) : d.R e w1 base TT_ v xs := by
 cases hu : u.ownBlock with
 | none => rw [hu] at hg; exact Kd.R_grown h hg (fun _ _ => by simp)
 | some k =>
  obtain ⟨cells, hc⟩ := ho k hu
  rw [hu] at hg
  exact Kd.R_mono (Kd.R_grown (Kd.R_types h hc ht) hg (fun _ hk e => hk.2 (Option.some.inj e))) (fun _ _ => trivial)
theorem R_typ {ok : Nat → Prop} (h : d.R e w base ok v xs) : ∀ k, v.ownBlock = some k → ∃ cells, w.heap[k]? = some (.cells cells e (0, 0)) := fun k hk => by
 obtain ⟨inner, ho⟩ := Kd.R_own h
 exact own_typed ho k hk
end
theorem blk_lt' {w : World} {k : Nat} {o : Obj} (h : w.heap[k]? = some o) : k < w.heap.size := (Array.getElem?_eq_some_iff.1 h).1
def khdr : Kd (Option Addr × Nat × Nat) := Kd.scalar (fun h => Value.slice h.1 h.2.1 h.2.2) (fun _ => rfl)
abbrev O52 : Type := S52 × (Option Addr × Nat)
def k52o : Kd O52 := Kd.iso (Kd.pair (Kd.int .i64) (Kd.pair (Kd.int .i64) (Kd.pair (Kd.int .i64) (Kd.pair (Kd.int .i64) (Kd.pair (Kd.int .i64) (Kd.pair (Kd.int .i64) (Kd.pair Kd.string (Kd.pair Kd.string (Kd.pair khdr (Kd.pair (Kd.int .i64) (Kd.pair (Kd.int .i64) (Kd.slice 64 (Kd.slice 66 k66))))))))))))) (fun p : O52 => (p.1.f0, p.1.f1, p.1.f2.f0, p.1.f2.f1.f0, p.1.f2.f1.f1, p.1.f2.f2, p.1.f2.f3, p.1.f2.f4, (p.2.1, p.1.f2.f5.length, p.2.2), p.1.f2.f6, p.1.f3, p.1.f4))
theorem k52o_mkM (w : World) (base : Nat) (ok : Nat → Prop) (p : O52) {v11 : Value} (g11 : (Kd.slice 66 k66).R 64 w base ok v11 p.1.f4) : k52o.M w base ok p [.int .i64 p.1.f0, .int .i64 p.1.f1, .int .i64 p.1.f2.f0, .int .i64 p.1.f2.f1.f0, .int .i64 p.1.f2.f1.f1, .int .i64 p.1.f2.f2, .string p.1.f2.f3, .string p.1.f2.f4, .slice p.2.1 p.1.f2.f5.length p.2.2, .int .i64 p.1.f2.f6, .int .i64 p.1.f3, v11] := ⟨[.int .i64 p.1.f0], [.int .i64 p.1.f1, .int .i64 p.1.f2.f0, .int .i64 p.1.f2.f1.f0, .int .i64 p.1.f2.f1.f1, .int .i64 p.1.f2.f2, .string p.1.f2.f3, .string p.1.f2.f4, .slice p.2.1 p.1.f2.f5.length p.2.2, .int .i64 p.1.f2.f6, .int .i64 p.1.f3, v11], rfl, rfl, ⟨[.int .i64 p.1.f1], [.int .i64 p.1.f2.f0, .int .i64 p.1.f2.f1.f0, .int .i64 p.1.f2.f1.f1, .int .i64 p.1.f2.f2, .string p.1.f2.f3, .string p.1.f2.f4, .slice p.2.1 p.1.f2.f5.length p.2.2, .int .i64 p.1.f2.f6, .int .i64 p.1.f3, v11], rfl, rfl, ⟨[.int .i64 p.1.f2.f0], [.int .i64 p.1.f2.f1.f0, .int .i64 p.1.f2.f1.f1, .int .i64 p.1.f2.f2, .string p.1.f2.f3, .string p.1.f2.f4, .slice p.2.1 p.1.f2.f5.length p.2.2, .int .i64 p.1.f2.f6, .int .i64 p.1.f3, v11], rfl, rfl, ⟨[.int .i64 p.1.f2.f1.f0], [.int .i64 p.1.f2.f1.f1, .int .i64 p.1.f2.f2, .string p.1.f2.f3, .string p.1.f2.f4, .slice p.2.1 p.1.f2.f5.length p.2.2, .int .i64 p.1.f2.f6, .int .i64 p.1.f3, v11], rfl, rfl, ⟨[.int .i64 p.1.f2.f1.f1], [.int .i64 p.1.f2.f2, .string p.1.f2.f3, .string p.1.f2.f4, .slice p.2.1 p.1.f2.f5.length p.2.2, .int .i64 p.1.f2.f6, .int .i64 p.1.f3, v11], rfl, rfl, ⟨[.int .i64 p.1.f2.f2], [.string p.1.f2.f3, .string p.1.f2.f4, .slice p.2.1 p.1.f2.f5.length p.2.2, .int .i64 p.1.f2.f6, .int .i64 p.1.f3, v11], rfl, rfl, ⟨[.string p.1.f2.f3], [.string p.1.f2.f4, .slice p.2.1 p.1.f2.f5.length p.2.2, .int .i64 p.1.f2.f6, .int .i64 p.1.f3, v11], rfl, rfl, ⟨[.string p.1.f2.f4], [.slice p.2.1 p.1.f2.f5.length p.2.2, .int .i64 p.1.f2.f6, .int .i64 p.1.f3, v11], rfl, rfl, ⟨[.slice p.2.1 p.1.f2.f5.length p.2.2], [.int .i64 p.1.f2.f6, .int .i64 p.1.f3, v11], rfl, rfl, ⟨[.int .i64 p.1.f2.f6], [.int .i64 p.1.f3, v11], rfl, rfl, ⟨[.int .i64 p.1.f3], [v11], rfl, rfl, ⟨v11, rfl, g11⟩⟩⟩⟩⟩⟩⟩⟩⟩⟩⟩⟩
theorem k52o_open {w : World} {p : O52} {cs : List Value} (h : k52o.K w p cs) : ∃ A11 c11, cs = [.int .i64 p.1.f0, .int .i64 p.1.f1, .int .i64 p.1.f2.f0, .int .i64 p.1.f2.f1.f0, .int .i64 p.1.f2.f1.f1, .int .i64 p.1.f2.f2, .string p.1.f2.f3, .string p.1.f2.f4, .slice p.2.1 p.1.f2.f5.length p.2.2, .int .i64 p.1.f2.f6, .int .i64 p.1.f3, .slice A11 p.1.f4.length c11] ∧ p.1.f4.length ≤ c11 ∧ (Kd.slice 66 k66).C w A11 p.1.f4.length p.1.f4 := by
 obtain ⟨_, _, rfl, rfl, ⟨_, _, rfl, rfl, ⟨_, _, rfl, rfl, ⟨_, _, rfl, rfl, ⟨_, _, rfl, rfl, ⟨_, _, rfl, rfl, ⟨_, _, rfl, rfl, ⟨_, _, rfl, rfl, ⟨_, _, rfl, rfl, ⟨_, _, rfl, rfl, ⟨_, _, rfl, rfl, ⟨A11, c11, rfl, l11, g11⟩⟩⟩⟩⟩⟩⟩⟩⟩⟩⟩⟩ := h
 exact ⟨A11, c11, rfl, l11, g11⟩
def VR (w : World) (base : Nat) (p : O52) : Prop := p.1.f2.f5.length ≤ p.2.2 ∧ Kd.F (Kd.int .u8) w (fun k => base ≤ k ∧ ∃ cells fz, w.heap[k]? = some (.cells cells 5 fz)) p.2.1 p.1.f2.f5.length p.1.f2.f5
section
variable {w w1 : World} {base g t : Nat} {p : O52} {v u : Value} {o3 : List O52} {l3 : List S52}
theorem VR.move (h : VR w base p) (hm : ∀ (k : Nat) (cells : Array Value) (fz : Nat × Nat), w.heap[k]? = some (Obj.cells cells 5 fz) → w1.heap[k]? = w.heap[k]?) : VR w1 base p := by
 refine ⟨h.1, Kd.F_mono (Kd.F_step h.2 (fun k hk _ => ?_)) (fun k hk => ?_)⟩
 · obtain ⟨_, cells, fz, hc⟩ := hk
   exact hm k cells fz hc
 obtain ⟨hb, cells, fz, hc⟩ := hk
 exact ⟨hb, cells, fz, (hm k cells fz hc).trans hc⟩
theorem VR.below (h : VR w base p) (hb : Below w.heap.size w w1) : VR w1 base p := h.move (fun k _ _ hc => hb.block k (blk_lt' hc))
theorem VR.nil (w : World) (base : Nat) (x : S52) (hx : x.f2.f5 = []) : VR w base (x, (none, 0)) := by
 refine ⟨by rw [hx]; exact Nat.le_refl _, ?_⟩
 show Kd.F (Kd.int .u8) w _ none x.f2.f5.length x.f2.f5
 rw [hx]
 exact Kd.F_nil _ _ _
theorem VR_grown {u : Value} {t : Nat} (h : VR w base p) (ho : ∀ k, u.ownBlock = some k → ∃ cells, w.heap[k]? = some (.cells cells t (0, 0))) (h5 : t ≠ 5) (hg : w.grownBy w1 u.ownBlock) : VR w1 base p :=
 h.move (fun k cs fz hc => hg.block k (blk_lt' hc) (fun e => by
  obtain ⟨cells, hb⟩ := ho k e.symm
  rw [hb] at hc
  injection hc with hc
  injection hc with _ hc
  exact h5 hc))
structure EvO (w : World) (base : Nat) (v : Value) (o3 : List O52) (l3 : List S52) : Prop where
 r : Kd.R k52o 52 w base TT_ v o3
 m : o3.map Prod.fst = l3
 b : ∀ p ∈ o3, VR w base p
def EvR (w : World) (base : Nat) (v : Value) (l3 : List S52) : Prop := ∃ o3, EvO w base v o3 l3
theorem EvO.below (h : EvO w base v o3 l3) (hb : Below w.heap.size w w1) : EvO w1 base v o3 l3 := ⟨Kd.R_below h.r hb, h.m, fun p hp => (h.b p hp).below hb⟩
theorem EvO.drew (h : EvO w base v o3 l3) : EvO w.drew base v o3 l3 := h.below (b3_ (Below.refl _ _))
theorem k52o_E {q : Nat} (hq : q ∈ 52 :: k52o.E) : q = 52 ∨ q = 64 ∨ q = 66 := by
 simpa [k52o, khdr, k66, Kd.iso, Kd.pair, Kd.slice, Kd.string, Kd.int, Kd.scalar] using hq
theorem EvO.keep {cells : Array Value} (h : EvO w base v o3 l3) (hb : w.heap[g]? = some (.cells cells t (0, 0))) (h5 : t ≠ 5) (h52 : t ≠ 52) (h64 : t ≠ 64) (h66 : t ≠ 66) (hk : KeepBut w w1 g none) : EvO w1 base v o3 l3 := by
 refine ⟨R_keepT h.r hb (fun q hq e => by have := k52o_E hq; omega) hk, h.m, fun p hp => (h.b p hp).move (fun k cs fz hc => hk.2 k (blk_lt' hc) ?_ (by simp))⟩
 intro e
 subst e
 rw [hb] at hc
 injection hc with hc
 injection hc with _ hc
 exact h5 hc
theorem EvO.grown (h : EvO w base v o3 l3) (ho : ∀ k, u.ownBlock = some k → ∃ cells, w.heap[k]? = some (.cells cells t (0, 0))) (h5 : t ≠ 5) (h52 : t ≠ 52) (h64 : t ≠ 64) (h66 : t ≠ 66) (hg : w.grownBy w1 u.ownBlock) : EvO w1 base v o3 l3 := by
 refine ⟨R_grownT h.r ho (fun q hq e => by have := k52o_E hq; omega) hg, h.m, fun p hp => VR_grown (h.b p hp) ho h5 hg⟩
theorem EvO.snoc {u : Value} (h : EvO w base v o3 l3) (hg : w.grownBy w1 v.ownBlock) (hr : Kd.R k52o 52 w1 base TT_ u (o3 ++ [p])) (hp : VR w base p) : EvR w1 base u (l3 ++ [p.1]) :=
 ⟨_, hr, by rw [List.map_append, h.m]; rfl, fun q hq => by
  rcases List.mem_append.1 hq with hq | hq
  · exact VR_grown (h.b q hq) (R_typ h.r) (by decide) hg
  rw [List.mem_singleton.1 hq]
  exact VR_grown hp (R_typ h.r) (by decide) hg⟩
theorem EvR.below (h : EvR w base v l3) (hb : Below w.heap.size w w1) : EvR w1 base v l3 := h.elim fun o3 h => ⟨o3, h.below hb⟩
theorem EvR.typ (h : EvR w base v l3) : ∀ k, v.ownBlock = some k → ∃ cells, w.heap[k]? = some (.cells cells 52 (0, 0)) := by
 obtain ⟨o3, h⟩ := h
 exact R_typ h.r
theorem EvR.keep {cells : Array Value} (h : EvR w base v l3) (hb : w.heap[g]? = some (.cells cells t (0, 0))) (h5 : t ≠ 5) (h52 : t ≠ 52) (h64 : t ≠ 64) (h66 : t ≠ 66) (hk : KeepBut w w1 g none) : EvR w1 base v l3 := h.elim fun o3 h => ⟨o3, h.keep hb h5 h52 h64 h66 hk⟩
theorem EvR.grown (h : EvR w base v l3) (ho : ∀ k, u.ownBlock = some k → ∃ cells, w.heap[k]? = some (.cells cells t (0, 0))) (h5 : t ≠ 5) (h52 : t ≠ 52) (h64 : t ≠ 64) (h66 : t ≠ 66) (hg : w.grownBy w1 u.ownBlock) : EvR w1 base v l3 := h.elim fun o3 h => ⟨o3, h.grown ho h5 h52 h64 h66 hg⟩
end
structure Rows5 (w : World) (base : Nat) (vl v0 v1 v2 v3 : Value) (lines : List ByteArray) (l0 : List Int) (l1 : List S70) (l2 : List Int) (l3 : List S52) : Prop where
 l : Kd.R Kd.string 9 w base TT_ vl lines
 r0 : Kd.R (Kd.int .u64) 68 w base TT_ v0 l0
 r1 : Kd.R k70 70 w base TT_ v1 l1
 r2 : Kd.R (Kd.int .i64) 3 w base TT_ v2 l2
 r3 : EvR w base v3 l3
section
variable {w w1 : World} {base : Nat} {vl v0 v1 v2 v3 : Value} {lines : List ByteArray} {l0 : List Int} {l1 : List S70} {l2 : List Int} {l3 : List S52}
theorem Rows5.below (h : Rows5 w base vl v0 v1 v2 v3 lines l0 l1 l2 l3) (hb : Below w.heap.size w w1) : Rows5 w1 base vl v0 v1 v2 v3 lines l0 l1 l2 l3 :=
 ⟨Kd.R_below h.l hb, Kd.R_below h.r0 hb, Kd.R_below h.r1 hb, Kd.R_below h.r2 hb, h.r3.below hb⟩
theorem Rows5.drew (h : Rows5 w base vl v0 v1 v2 v3 lines l0 l1 l2 l3) : Rows5 w.drew base vl v0 v1 v2 v3 lines l0 l1 l2 l3 := h.below (b3_ (Below.refl _ _))
def Other (t : Nat) : Prop := t ≠ 9 ∧ t ≠ 68 ∧ t ≠ 70 ∧ t ≠ 3 ∧ t ≠ 52 ∧ t ≠ 5 ∧ t ≠ 64 ∧ t ≠ 66
theorem Rows5.keep {g t : Nat} {cells : Array Value} (h : Rows5 w base vl v0 v1 v2 v3 lines l0 l1 l2 l3) (hb : w.heap[g]? = some (.cells cells t (0, 0))) (ht : Other t) (hk : KeepBut w w1 g none) : Rows5 w1 base vl v0 v1 v2 v3 lines l0 l1 l2 l3 := by
 obtain ⟨h1, h2, h3, h4, h5, h6, h7, h8⟩ := ht
 refine ⟨R_keepT h.l hb ?_ hk, R_keepT h.r0 hb ?_ hk, R_keepT h.r1 hb ?_ hk, R_keepT h.r2 hb ?_ hk, h.r3.keep hb h6 h5 h7 h8 hk⟩
 · intro q hq e; subst e; simp [Kd.string, Kd.scalar] at hq; omega
 · intro q hq e; subst e; simp [Kd.int, Kd.scalar] at hq; omega
 · intro q hq e; subst e; simp [k70, Kd.iso, Kd.pair, Kd.int, Kd.scalar] at hq; omega
 intro q hq e; subst e; simp [Kd.int, Kd.scalar] at hq; omega
theorem keep_setC (w : World) (g j : Nat) (u : Value) : KeepBut w (w.setCell ⟨g, j, none⟩ u) g none := (KeepBut.refl w g none).set_ j u
theorem Rows5.set {g t : Nat} {cells : Array Value} (h : Rows5 w base vl v0 v1 v2 v3 lines l0 l1 l2 l3) (hb : w.heap[g]? = some (.cells cells t (0, 0))) (ht : Other t) (j : Nat) (u : Value) : Rows5 (w.setCell ⟨g, j, none⟩ u) base vl v0 v1 v2 v3 lines l0 l1 l2 l3 :=
 h.keep hb ht (keep_setC w g j u)
theorem Rows5.put0 {v : Value} {n : List Int} (h : Rows5 w base vl v0 v1 v2 v3 lines l0 l1 l2 l3) (hn : Kd.R (Kd.int .u64) 68 w1 base TT_ v n) (hg : w.grownBy w1 v0.ownBlock) : Rows5 w1 base vl v v1 v2 v3 lines n l1 l2 l3 :=
 ⟨R_grownT h.l (R_typ h.r0) (by decide) hg, hn, R_grownT h.r1 (R_typ h.r0) (by decide) hg, R_grownT h.r2 (R_typ h.r0) (by decide) hg, h.r3.grown (R_typ h.r0) (by decide) (by decide) (by decide) (by decide) hg⟩
theorem Rows5.put1 {v : Value} {n : List S70} (h : Rows5 w base vl v0 v1 v2 v3 lines l0 l1 l2 l3) (hn : Kd.R k70 70 w1 base TT_ v n) (hg : w.grownBy w1 v1.ownBlock) : Rows5 w1 base vl v0 v v2 v3 lines l0 n l2 l3 :=
 ⟨R_grownT h.l (R_typ h.r1) (by decide) hg, R_grownT h.r0 (R_typ h.r1) (by decide) hg, hn, R_grownT h.r2 (R_typ h.r1) (by decide) hg, h.r3.grown (R_typ h.r1) (by decide) (by decide) (by decide) (by decide) hg⟩
theorem Rows5.put2 {v : Value} {n : List Int} (h : Rows5 w base vl v0 v1 v2 v3 lines l0 l1 l2 l3) (hn : Kd.R (Kd.int .i64) 3 w1 base TT_ v n) (hg : w.grownBy w1 v2.ownBlock) : Rows5 w1 base vl v0 v1 v v3 lines l0 l1 n l3 :=
 ⟨R_grownT h.l (R_typ h.r2) (by decide) hg, R_grownT h.r0 (R_typ h.r2) (by decide) hg, R_grownT h.r1 (R_typ h.r2) (by decide) hg, hn, h.r3.grown (R_typ h.r2) (by decide) (by decide) (by decide) (by decide) hg⟩
theorem Rows5.put3 {v : Value} {n : List S52} (h : Rows5 w base vl v0 v1 v2 v3 lines l0 l1 l2 l3) (hn : EvR w1 base v n) (hg : w.grownBy w1 v3.ownBlock) : Rows5 w1 base vl v0 v1 v2 v lines l0 l1 l2 n :=
 ⟨R_grownT h.l h.r3.typ (by decide) hg, R_grownT h.r0 h.r3.typ (by decide) hg, R_grownT h.r1 h.r3.typ (by decide) hg, R_grownT h.r2 h.r3.typ (by decide) hg, hn⟩
end
abbrev Stt : Type := List Int × List S70 × List Int × List S52
def LineOut (W w' : World) (rb sb : Nat) (vl : Value) (lines : List ByteArray) (o : Option Stt) : Prop :=
 ∃ (bad : Bool) (v0 v1 v2 v3 : Value) (s : Stt), w'.cell? ⟨rb, 1, none⟩ = some (.bool bad) ∧ bad = o.isNone ∧ w'.heap[sb]? = some (.cells #[v0, v1, v2, v3] 89 (0, 0)) ∧
  Rows5 w' W.heap.size vl v0 v1 v2 v3 lines s.1 s.2.1 s.2.2.1 s.2.2.2 ∧ (∀ s', o = some s' → s = s') ∧ Below W.heap.size W w'
end Go.Proofs.YtndbbgihpoiojaaGreatDoor.Q
namespace Go.Proofs.YtndbbgihpoiojaaGreatDoor.Q
open Go.RowKit Go.Proofs.YtndbbgihpoiojaaGreatDoorW.PrintWords Go.Proofs.YtndbbgihpoiojaaGreatDoorW.PrintLast
structure Ctx (W w0 w : World) (cb rb sb : Nat) (ws : List ByteArray) (bad : Bool) (vl v0 v1 v2 v3 : Value) (lines : List ByteArray) (l0 : List Int) (l1 : List S70) (l2 : List Int) (l3 : List S52) : Prop where
 rd : IsS134 w0 w rb ws bad
 b0 : Below w0.heap.size w0 w
 env : sc.Env w0
 cbk : w.heap[cb]? = some (.cells #[.pointer (some ⟨sb, 0, none⟩)] 87 (0, 0))
 sbk : w.heap[sb]? = some (.cells #[v0, v1, v2, v3] 89 (0, 0))
 rows : Rows5 w W.heap.size vl v0 v1 v2 v3 lines l0 l1 l2 l3
 bW : Below W.heap.size W w
 gr : W.heap.size ≤ rb
 gs : W.heap.size ≤ sb
section
variable {W w0 w w1 : World} {cb rb sb : Nat} {ws ws1 : List ByteArray} {bad bad1 : Bool} {vl v0 v1 v2 v3 : Value} {lines : List ByteArray} {l0 : List Int} {l1 : List S70} {l2 : List Int} {l3 : List S52}
theorem Ctx.rbk (h : Ctx W w0 w cb rb sb ws bad vl v0 v1 v2 v3 lines l0 l1 l2 l3) : ∃ A c, w.heap[rb]? = some (.cells #[.slice A ws.length c, .bool bad] 134 (0, 0)) := by
 obtain ⟨A, c, hb, _⟩ := h.rd
 exact ⟨A, c, hb⟩
theorem Ctx.ne_cr (h : Ctx W w0 w cb rb sb ws bad vl v0 v1 v2 v3 lines l0 l1 l2 l3) : cb ≠ rb := by
 obtain ⟨A, c, hb⟩ := h.rbk
 exact blk_ne h.cbk hb (by decide)
theorem Ctx.ne_sr (h : Ctx W w0 w cb rb sb ws bad vl v0 v1 v2 v3 lines l0 l1 l2 l3) : sb ≠ rb := by
 obtain ⟨A, c, hb⟩ := h.rbk
 exact blk_ne h.sbk hb (by decide)
theorem Ctx.step (h : Ctx W w0 w cb rb sb ws bad vl v0 v1 v2 v3 lines l0 l1 l2 l3) (hI : IsS134 w0 w1 rb ws1 bad1) (hB : Below w0.heap.size w0 w1) (hk : KeepBut w w1 rb none) : Ctx W w0 w1 cb rb sb ws1 bad1 vl v0 v1 v2 v3 lines l0 l1 l2 l3 := by
 obtain ⟨A, c, hb⟩ := h.rbk
 refine ⟨hI, hB, h.env, (hk.2 cb (blk_lt h.cbk) h.ne_cr (by simp)).trans h.cbk, (hk.2 sb (blk_lt h.sbk) h.ne_sr (by simp)).trans h.sbk, h.rows.keep hb (by unfold Other; decide) hk, ?_, h.gr, h.gs⟩
 have hlt : ∀ i, i < W.heap.size → i < w.heap.size := fun i hi => Nat.lt_of_lt_of_le hi h.bW.size
 exact ⟨hB.os.trans (h.b0.os.symm.trans h.bW.os), hB.tape.trans (h.b0.tape.symm.trans h.bW.tape), hB.output.trans (h.b0.output.symm.trans h.bW.output), Nat.le_trans h.bW.size hk.1, fun i hi => (hk.2 i (hlt i hi) (by have := h.gr; omega) (by simp)).trans (h.bW.block i hi)⟩
theorem Ctx.below (h : Ctx W w0 w cb rb sb ws bad vl v0 v1 v2 v3 lines l0 l1 l2 l3) (hb : Below w.heap.size w w1) : Ctx W w0 w1 cb rb sb ws bad vl v0 v1 v2 v3 lines l0 l1 l2 l3 :=
 h.step (h.rd.below hb) (below_step h.b0 hb) (KeepBut.of_below hb rb none)
theorem Ctx.drew (h : Ctx W w0 w cb rb sb ws bad vl v0 v1 v2 v3 lines l0 l1 l2 l3) : Ctx W w0 w.drew cb rb sb ws bad vl v0 v1 v2 v3 lines l0 l1 l2 l3 := h.below (b3_ (Below.refl _ _))
theorem grown_bad {g : Nat} {A : Option Addr} {n c t : Nat} {u : Value} (hb : w.heap[g]? = some (.cells #[.slice A n c, .bool bad] 134 (0, 0))) (ho : ∀ k, u.ownBlock = some k → ∃ cells, w.heap[k]? = some (.cells cells t (0, 0))) (ht : t ≠ 134) (hg : w.grownBy w1 u.ownBlock) : w1.heap[g]? = some (.cells #[.slice A n c, .bool bad] 134 (0, 0)) :=
 blk_grown hb hg (by
  intro e
  obtain ⟨cells, hc⟩ := ho g e.symm
  exact blk_ne hc hb ht rfl)
theorem grown_blk {g t0 t : Nat} {cs : Array Value} {u : Value} (hb : w.heap[g]? = some (.cells cs t0 (0, 0))) (ho : ∀ k, u.ownBlock = some k → ∃ cells, w.heap[k]? = some (.cells cells t (0, 0))) (ht : t ≠ t0) (hg : w.grownBy w1 u.ownBlock) : w1.heap[g]? = some (.cells cs t0 (0, 0)) :=
 blk_grown hb hg (by
  intro e
  obtain ⟨cells, hc⟩ := ho g e.symm
  exact blk_ne hc hb ht rfl)
theorem Ctx.out0 {v : Value} {n : List Int} {o : Option Stt} (h : Ctx W w0 w cb rb sb ws bad vl v0 v1 v2 v3 lines l0 l1 l2 l3) (hn : Kd.R (Kd.int .u64) 68 w1 W.heap.size TT_ v n) (hg : w.grownBy w1 v0.ownBlock) (hb : Below W.heap.size W w1)
 (hbad : bad = o.isNone) (ho : ∀ s', o = some s' → (n, l1, l2, l3) = s') : LineOut W (w1.setCell ⟨sb, 0, none⟩ v) rb sb vl lines o := by
 obtain ⟨A, c, hr⟩ := h.rbk
 have hr1 := grown_bad hr (R_typ h.rows.r0) (by decide) hg
 have hs1 := grown_blk h.sbk (R_typ h.rows.r0) (by decide) hg
 refine ⟨bad, v, v1, v2, v3, (n, l1, l2, l3), (blk_cell (blk_far hr1 (p := ⟨sb, 0, none⟩) (Ne.symm h.ne_sr) v) 1).trans rfl, hbad, by simpa using blk_set hs1 0 v, (h.rows.put0 hn hg).set hs1 (by unfold Other; decide) 0 v, ho, (hb.setCell (p := ⟨sb, _, none⟩) h.gs _)⟩
theorem Ctx.out1 {v : Value} {n : List S70} {o : Option Stt} (h : Ctx W w0 w cb rb sb ws bad vl v0 v1 v2 v3 lines l0 l1 l2 l3) (hn : Kd.R k70 70 w1 W.heap.size TT_ v n) (hg : w.grownBy w1 v1.ownBlock) (hb : Below W.heap.size W w1)
 (hbad : bad = o.isNone) (ho : ∀ s', o = some s' → (l0, n, l2, l3) = s') : LineOut W (w1.setCell ⟨sb, 1, none⟩ v) rb sb vl lines o := by
 obtain ⟨A, c, hr⟩ := h.rbk
 have hr1 := grown_bad hr (R_typ h.rows.r1) (by decide) hg
 have hs1 := grown_blk h.sbk (R_typ h.rows.r1) (by decide) hg
 refine ⟨bad, v0, v, v2, v3, (l0, n, l2, l3), (blk_cell (blk_far hr1 (p := ⟨sb, 1, none⟩) (Ne.symm h.ne_sr) v) 1).trans rfl, hbad, by simpa using blk_set hs1 1 v, (h.rows.put1 hn hg).set hs1 (by unfold Other; decide) 1 v, ho, (hb.setCell (p := ⟨sb, _, none⟩) h.gs _)⟩
theorem Ctx.out2 {v : Value} {n : List Int} {o : Option Stt} (h : Ctx W w0 w cb rb sb ws bad vl v0 v1 v2 v3 lines l0 l1 l2 l3) (hn : Kd.R (Kd.int .i64) 3 w1 W.heap.size TT_ v n) (hg : w.grownBy w1 v2.ownBlock) (hb : Below W.heap.size W w1)
 (hbad : bad = o.isNone) (ho : ∀ s', o = some s' → (l0, l1, n, l3) = s') : LineOut W (w1.setCell ⟨sb, 2, none⟩ v) rb sb vl lines o := by
 obtain ⟨A, c, hr⟩ := h.rbk
 have hr1 := grown_bad hr (R_typ h.rows.r2) (by decide) hg
 have hs1 := grown_blk h.sbk (R_typ h.rows.r2) (by decide) hg
 refine ⟨bad, v0, v1, v, v3, (l0, l1, n, l3), (blk_cell (blk_far hr1 (p := ⟨sb, 2, none⟩) (Ne.symm h.ne_sr) v) 1).trans rfl, hbad, by simpa using blk_set hs1 2 v, (h.rows.put2 hn hg).set hs1 (by unfold Other; decide) 2 v, ho, (hb.setCell (p := ⟨sb, _, none⟩) h.gs _)⟩
theorem Ctx.out3 {v : Value} {n : List S52} {o : Option Stt} (h : Ctx W w0 w cb rb sb ws bad vl v0 v1 v2 v3 lines l0 l1 l2 l3) (hn : EvR w1 W.heap.size v n) (hg : w.grownBy w1 v3.ownBlock) (hb : Below W.heap.size W w1)
 (hbad : bad = o.isNone) (ho : ∀ s', o = some s' → (l0, l1, l2, n) = s') : LineOut W (w1.setCell ⟨sb, 3, none⟩ v) rb sb vl lines o := by
 obtain ⟨A, c, hr⟩ := h.rbk
 have hr1 := grown_bad hr h.rows.r3.typ (by decide) hg
 have hs1 := grown_blk h.sbk h.rows.r3.typ (by decide) hg
 refine ⟨bad, v0, v1, v2, v, (l0, l1, l2, n), (blk_cell (blk_far hr1 (p := ⟨sb, 3, none⟩) (Ne.symm h.ne_sr) v) 1).trans rfl, hbad, by simpa using blk_set hs1 3 v, (h.rows.put3 hn hg).set hs1 (by unfold Other; decide) 3 v, ho, (hb.setCell (p := ⟨sb, _, none⟩) h.gs _)⟩
end
end Go.Proofs.YtndbbgihpoiojaaGreatDoor.Q
namespace Go.Proofs.YtndbbgihpoiojaaGreatDoor.Q
open Go.RowKit Go.Proofs.YtndbbgihpoiojaaGreatDoorW.PrintWords Go.Proofs.YtndbbgihpoiojaaGreatDoorW.PrintLast
def accOf (a b c d f : ByteArray) : Option S70 := match sc.numOf a, sc.numOf b, sc.numOf c, sc.numOf d, sc.numOf f with
 | some x0, some x1, some x2, some x3, some x4 => some ⟨x0, x1, x2, x3, x4⟩
 | _, _, _, _, _ => none
theorem bad1 {α β : Type} (x : ByteArray) (o : Option α) (f : α → β) : (false || [x].isEmpty || !o.isSome) = (o.map f).isNone := by cases o <;> rfl
theorem forms1_calls (W w0 w : World) (cb rb sb : Nat) (vl v0 v1 v2 v3 : Value) (lines : List ByteArray) (l0 : List Int) (l1 : List S70) (l2 : List Int) (l3 : List S52) (x : ByteArray) (h : Ctx W w0 w cb rb sb [x] false vl v0 v1 v2 v3 lines l0 l1 l2 l3) (hs : x.size ≤ 65536) (hl : l0.length ≤ 100000) :
 Calls Tryz.prog 85 #[.pointer (some ⟨rb, 0, none⟩), .pointer (some ⟨cb, 0, none⟩)] w fun e w' => e = .returned (.tuple #[]) ∧ LineOut W w' rb sb vl lines ((sc.labelOf x).map fun (n : Nat) => (l0 ++ [(n : Int)], l1, l2, l3)) := by
 have HX := am_ h
 have HS := am_ (show ∀ y ∈ [x], y.size ≤ 65536 from fun y hy => by rw [List.mem_singleton.1 hy]; exact hs)
 have HL := am_ hl
 clear h hs hl
 go_enter Tryz.func85, Tryz.ntmps85
 go_wp2
 refine start_ (n := 14) (S := fun w' => w'.cell? ⟨cb, 0, none⟩ = some (.pointer (some ⟨sb, 0, none⟩)) ∧ w'.cell? ⟨sb, 0, none⟩ = some v0) (ds := [13]) (bs_ 14 0) (by kernel_rfl) rfl rfl ⟨(blk_cell HX.out.cbk 0).trans rfl, (blk_cell HX.out.sbk 0).trans rfl⟩ (fun hHeld => ?_)
 replace HX := am_ HX.out.drew; generalize w.drew = w1 at HX hHeld ⊢
 refine pA_ 6 9 (bs_ 14 64) ?_
 refine tA_ hHeld 0 3 (bs_ 14 65) ?_
 refine tA_ hHeld 1 4 (bs_ 14 67) ?_
 refine pA_ 2 5 (bs_ 14 71) ?_
 refine pA_ 3 6 (bs_ 14 79) ?_
 refine pA_ 4 7 (bs_ 14 95) ?_
 refine tA_ hHeld 5 8 (bs_ 14 127) ?_
 refine oA_ 7 10 (bs_ 14 255) (fun K hK => ?_)
 refine gA_ Tryz.func86 #[.pointer (some ⟨rb, 0, none⟩)] ?_
 refine (label_calls rb [x] false w0 _ HX.out.rd HX.out.b0 HX.out.env HS.out).mono ?_
 rintro e w2 ⟨n, rfl, hn, hm, hI2, hB2, hk2⟩
 refine ⟨_, rfl, ?_⟩
 have HX2 := am_ (HX.out.step hI2 hB2 hk2)
 have HM := am_ hm
 clear hI2 hB2 hk2 hm
 refine hK.out _ _ ⟨(blk_cell HX2.out.cbk 0).trans rfl, (blk_cell HX2.out.sbk 0).trans rfl⟩ (fun hHeld => ?_)
 clear hK K
 refine nA_ ?_
 refine oA_ 8 11 (bs_ 14 511) (fun K hK => ?_)
 refine vA_ ?_
 refine hK.out _ _ ⟨wld.cellA ((blk_cell HX2.out.cbk 0).trans rfl) _, wld.cellA ((blk_cell HX2.out.sbk 0).trans rfl) _⟩ (fun hHeld => ?_)
 clear hK K
 refine nA_ ?_
 refine oA_ 9 12 (bs_ 14 1023) (fun K hK => ?_)
 refine Kd.R_append_step (Kd.int .u64) (w0 := W) W.heap.size (by rfl) (.tmp 8) (.tmp 11) 22 68 (.int .u64 0) 8 rfl Tryz.underlying22 info68 rfl (by decide) (by omega) v0 l0 n [.int .u64 n] (fun _ => True) (fun _ => False) rfl rfl ?aP (fun _ hk => hk.elim) ?aF ?aO ?aB ?aS ?aL ?_
 (case aP => exact rfl)
 (case aF => exact (fun _ _ => trivial))
 (case aO => exact Kd.R_mono HX2.out.rows.r0 (fun k_ hk => trivial))
 (case aB => exact HX2.out.bW)
 (case aS => exact HX2.out.bW.size)
 (case aL => have := HL.out; omega)
 intro v9 w3 ho hb hg hat
 obtain ⟨A9, c9, rfl⟩ := Kd.R_slice ho
 have hfz := blk_frozen (grown_blk HX2.out.sbk (R_typ HX2.out.rows.r0) (by decide) hg) 0
 refine hK.out _ _ ⟨(blk_cell (grown_blk HX2.out.cbk (R_typ HX2.out.rows.r0) (by decide) hg) 0).trans rfl, (blk_cell (grown_blk HX2.out.sbk (R_typ HX2.out.rows.r0) (by decide) hg) 0).trans rfl⟩ (fun hHeld => ?_)
 clear hK K
 refine nA_ ?_
 refine pA_ 10 13 (bs_ 14 2047) ?_
 refine pA_ 11 14 (bs_ 14 4095) ?_
 refine pA_ 12 15 (bs_ 14 8191) ?_
 refine last_ (i := 13) (N := none) (bs_ 14 16383) rfl rfl (by kernel_rfl) (by decide) (fun K hK => ?_)
 refine skip_ (w1 := ?_) (by rfl) rfl ?_ ?_
 rotate_left
 · go_simp
   rfl
 refine hK.out _ _ ?_
 clear hK K
 refine done_ (by kernel_rfl) ?_
 go_end0
 refine ⟨rfl, ?_⟩
 have e := HX2.out.out0 (o := (sc.labelOf x).map fun (n : Nat) => (l0 ++ [(n : Int)], l1, l2, l3)) ho hg hb (bad1 x (sc.labelOf x) _) (fun s hs => by
  have hm := HM.out
  cases hx : sc.labelOf x with
  | none => rw [hx] at hs; cases hs
  | some m =>
   rw [hx] at hs
   rw [hm m (by simpa using hx)]
   exact Option.some.inj hs)
 simpa only [List.length_append, List.length_cons, List.length_nil, Nat.zero_add] using e
theorem forms3_calls (W w0 w : World) (cb rb sb : Nat) (vl v0 v1 v2 v3 : Value) (lines : List ByteArray) (l0 : List Int) (l1 : List S70) (l2 : List Int) (l3 : List S52) (x : ByteArray) (h : Ctx W w0 w cb rb sb [x] false vl v0 v1 v2 v3 lines l0 l1 l2 l3) (hs : x.size ≤ 65536) (hl : l2.length ≤ 100000) :
 Calls Tryz.prog 89 #[.pointer (some ⟨rb, 0, none⟩), .pointer (some ⟨cb, 0, none⟩)] w fun e w' => e = .returned (.tuple #[]) ∧ LineOut W w' rb sb vl lines ((sc.numOf x).map fun n => (l0, l1, l2 ++ [n], l3)) := by
 have HX := am_ h
 have HS := am_ (show ∀ y ∈ [x], y.size ≤ 65536 from fun y hy => by rw [List.mem_singleton.1 hy]; exact hs)
 have HL := am_ hl
 clear h hs hl
 go_enter Tryz.func89, Tryz.ntmps89
 go_wp2
 refine start_ (n := 14) (S := fun w' => w'.cell? ⟨cb, 0, none⟩ = some (.pointer (some ⟨sb, 0, none⟩)) ∧ w'.cell? ⟨sb, 2, none⟩ = some v2) (ds := [13]) (bs_ 14 0) (by kernel_rfl) rfl rfl ⟨(blk_cell HX.out.cbk 0).trans rfl, (blk_cell HX.out.sbk 2).trans rfl⟩ (fun hHeld => ?_)
 replace HX := am_ HX.out.drew; generalize w.drew = w1 at HX hHeld ⊢
 refine pA_ 6 9 (bs_ 14 64) ?_
 refine tA_ hHeld 0 3 (bs_ 14 65) ?_
 refine tA_ hHeld 1 4 (bs_ 14 67) ?_
 refine pA_ 2 5 (bs_ 14 71) ?_
 refine pA_ 3 6 (bs_ 14 79) ?_
 refine pA_ 4 7 (bs_ 14 95) ?_
 refine tA_ hHeld 5 8 (bs_ 14 127) ?_
 refine oA_ 7 10 (bs_ 14 255) (fun K hK => ?_)
 refine gA_ Tryz.func88 #[.pointer (some ⟨rb, 0, none⟩)] ?_
 refine (number_calls rb [x] false w0 _ HX.out.rd HX.out.b0 HX.out.env HS.out).mono ?_
 rintro e w2 ⟨n, rfl, hn, hm, hI2, hB2, hk2⟩
 refine ⟨_, rfl, ?_⟩
 have HX2 := am_ (HX.out.step hI2 hB2 hk2)
 have HM := am_ hm
 clear hI2 hB2 hk2 hm
 refine hK.out _ _ ⟨(blk_cell HX2.out.cbk 0).trans rfl, (blk_cell HX2.out.sbk 2).trans rfl⟩ (fun hHeld => ?_)
 clear hK K
 refine nA_ ?_
 refine oA_ 8 11 (bs_ 14 511) (fun K hK => ?_)
 refine vA_ ?_
 refine hK.out _ _ ⟨wld.cellA ((blk_cell HX2.out.cbk 0).trans rfl) _, wld.cellA ((blk_cell HX2.out.sbk 2).trans rfl) _⟩ (fun hHeld => ?_)
 clear hK K
 refine nA_ ?_
 refine oA_ 9 12 (bs_ 14 1023) (fun K hK => ?_)
 refine Kd.R_append_step (Kd.int .i64) (w0 := W) W.heap.size (by rfl) (.tmp 8) (.tmp 11) 24 3 (.int .i64 0) 8 rfl Tryz.underlying24 info3 rfl (by decide) (by omega) v2 l2 n [.int .i64 n] (fun _ => True) (fun _ => False) rfl rfl ?aP (fun _ hk => hk.elim) ?aF ?aO ?aB ?aS ?aL ?_
 (case aP => exact rfl)
 (case aF => exact (fun _ _ => trivial))
 (case aO => exact Kd.R_mono HX2.out.rows.r2 (fun k_ hk => trivial))
 (case aB => exact HX2.out.bW)
 (case aS => exact HX2.out.bW.size)
 (case aL => have := HL.out; omega)
 intro v9 w3 ho hb hg hat
 obtain ⟨A9, c9, rfl⟩ := Kd.R_slice ho
 have hfz := blk_frozen (grown_blk HX2.out.sbk (R_typ HX2.out.rows.r2) (by decide) hg) 2
 refine hK.out _ _ ⟨(blk_cell (grown_blk HX2.out.cbk (R_typ HX2.out.rows.r2) (by decide) hg) 0).trans rfl, (blk_cell (grown_blk HX2.out.sbk (R_typ HX2.out.rows.r2) (by decide) hg) 2).trans rfl⟩ (fun hHeld => ?_)
 clear hK K
 refine nA_ ?_
 refine pA_ 10 13 (bs_ 14 2047) ?_
 refine pA_ 11 14 (bs_ 14 4095) ?_
 refine pA_ 12 15 (bs_ 14 8191) ?_
 refine last_ (i := 13) (N := none) (bs_ 14 16383) rfl rfl (by kernel_rfl) (by decide) (fun K hK => ?_)
 refine skip_ (w1 := ?_) (by rfl) rfl ?_ ?_
 rotate_left
 · go_simp
   rfl
 refine hK.out _ _ ?_
 clear hK K
 refine done_ (by kernel_rfl) ?_
 go_end0
 refine ⟨rfl, ?_⟩
 have e := HX2.out.out2 (o := (sc.numOf x).map fun n => (l0, l1, l2 ++ [n], l3)) ho hg hb (bad1 x (sc.numOf x) _) (fun s hs => by
  have hm := HM.out
  cases hx : sc.numOf x with
  | none => rw [hx] at hs; cases hs
  | some m =>
   rw [hx] at hs
   rw [hm m (by simpa [hd0] using hx)]
   exact Option.some.inj hs)
 simpa only [List.length_append, List.length_cons, List.length_nil, Nat.zero_add] using e
theorem forms2_calls (W w0 w : World) (cb rb sb : Nat) (vl v0 v1 v2 v3 : Value) (lines : List ByteArray) (l0 : List Int) (l1 : List S70) (l2 : List Int) (l3 : List S52) (a b c d f : ByteArray) (h : Ctx W w0 w cb rb sb [a, b, c, d, f] false vl v0 v1 v2 v3 lines l0 l1 l2 l3) (hs : ∀ y ∈ [a, b, c, d, f], y.size ≤ 65536) (hl : l1.length ≤ 100000) :
 Calls Tryz.prog 87 #[.pointer (some ⟨rb, 0, none⟩), .pointer (some ⟨cb, 0, none⟩)] w fun e w' => e = .returned (.tuple #[]) ∧ LineOut W w' rb sb vl lines (accOf a b c d f |>.map fun x => (l0, l1 ++ [x], l2, l3)) := by
 have HX0 := am_ h
 have HS := am_ hs
 have HL := am_ hl
 clear h hs hl
 go_enter Tryz.func87, Tryz.ntmps87
 go_wp2_with fail
 refine (number_calls rb [a, b, c, d, f] _ w0 _ HX0.out.rd HX0.out.b0 HX0.out.env (by have := HS.out; simp at this ⊢; omega)).mono ?_
 rintro e w1 ⟨n1, rfl, hn1, hm1, hI, hB, hk⟩
 have HX1 := am_ (HX0.out.step hI hB hk)
 have HM1 := am_ hm1
 clear hI hB hk hm1
 go_wp2_with fail
 refine (number_calls rb [b, c, d, f] _ w0 _ HX1.out.rd HX1.out.b0 HX1.out.env (by have := HS.out; simp at this ⊢; omega)).mono ?_
 rintro e w2 ⟨n2, rfl, hn2, hm2, hI, hB, hk⟩
 have HX2 := am_ (HX1.out.step hI hB hk)
 have HM2 := am_ hm2
 clear hI hB hk hm2
 go_wp2_with fail
 refine (number_calls rb [c, d, f] _ w0 _ HX2.out.rd HX2.out.b0 HX2.out.env (by have := HS.out; simp at this ⊢; omega)).mono ?_
 rintro e w3 ⟨n3, rfl, hn3, hm3, hI, hB, hk⟩
 have HX3 := am_ (HX2.out.step hI hB hk)
 have HM3 := am_ hm3
 clear hI hB hk hm3
 go_wp2_with fail
 refine (number_calls rb [d, f] _ w0 _ HX3.out.rd HX3.out.b0 HX3.out.env (by have := HS.out; simp at this ⊢; omega)).mono ?_
 rintro e w4 ⟨n4, rfl, hn4, hm4, hI, hB, hk⟩
 have HX4 := am_ (HX3.out.step hI hB hk)
 have HM4 := am_ hm4
 clear hI hB hk hm4
 go_wp2_with fail
 refine (number_calls rb [f] _ w0 _ HX4.out.rd HX4.out.b0 HX4.out.env (by have := HS.out; simp at this ⊢; omega)).mono ?_
 rintro e w5 ⟨n5, rfl, hn5, hm5, hI, hB, hk⟩
 have HX5 := am_ (HX4.out.step hI hB hk)
 have HM5 := am_ hm5
 clear hI hB hk hm5
 go_wp2_with fail
 have HX := am_ (HX5.out.below (b1_ (Below.refl _ _) (.cells #[.int .i64 n1, .int .i64 n2, .int .i64 n3, .int .i64 n4, .int .i64 n5] 70)))
 have HG := am_ (wld.alloc_same w5 (.cells #[.int .i64 n1, .int .i64 n2, .int .i64 n3, .int .i64 n4, .int .i64 n5] 70))
 have HNE := am_ (show some w5.heap.size ≠ v1.ownBlock from fun e => by
  obtain ⟨cells, hc⟩ := R_typ HX5.out.rows.r1 _ e.symm
  exact Nat.lt_irrefl _ (blk_lt hc))
 refine start_ (n := 13) (S := fun w' => w'.cell? ⟨cb, 0, none⟩ = some (.pointer (some ⟨sb, 0, none⟩)) ∧ w'.cell? ⟨sb, 1, none⟩ = some v1 ∧ w'.cell? ⟨w5.heap.size, 0, none⟩ = some (.int .i64 n1) ∧ w'.cell? ⟨w5.heap.size, 1, none⟩ = some (.int .i64 n2) ∧ w'.cell? ⟨w5.heap.size, 2, none⟩ = some (.int .i64 n3) ∧ w'.cell? ⟨w5.heap.size, 3, none⟩ = some (.int .i64 n4) ∧ w'.cell? ⟨w5.heap.size, 4, none⟩ = some (.int .i64 n5)) (ds := [12]) (bs_ 13 0) (by kernel_rfl) rfl rfl ⟨(blk_cell HX.out.cbk 0).trans rfl, (blk_cell HX.out.sbk 1).trans rfl, c5_ HG.out⟩ (fun hHeld => ?_)
 replace HX := am_ HX.out.drew; replace HG := am_ (d2_ HG.out); generalize (w5.alloc (.cells #[.int .i64 n1, .int .i64 n2, .int .i64 n3, .int .i64 n4, .int .i64 n5] 70)).drew = w6 at HX HG hHeld ⊢
 refine tA_ hHeld 0 15 (bs_ 13 1) ?_
 refine tA_ hHeld 1 16 (bs_ 13 3) ?_
 refine pA_ 2 17 (bs_ 13 7) ?_
 refine pA_ 3 18 (bs_ 13 15) ?_
 refine pA_ 4 19 (bs_ 13 31) ?_
 refine tA_ hHeld 5 20 (bs_ 13 63) ?_
 refine tA_ hHeld 6 21 (bs_ 13 127) ?_
 refine oA_ 7 22 (bs_ 13 255) (fun K hK => ?_)
 refine vA_ ?_
 refine hK.out _ _ ⟨wld.cellA ((blk_cell HX.out.cbk 0).trans rfl) _, wld.cellA ((blk_cell HX.out.sbk 1).trans rfl) _, c5a_ HG.out⟩ (fun hHeld => ?_)
 clear hK K
 refine nA_ ?_
 refine oA_ 8 23 (bs_ 13 511) (fun K hK => ?_)
 refine Kd.R_append_step k70 (w0 := W) W.heap.size (by rfl) (.tmp 20) (.tmp 22) 23 70 (.agg #[(.int .i64 0), (.int .i64 0), (.int .i64 0), (.int .i64 0), (.int .i64 0)]) 40 rfl Tryz.underlying23 info70 rfl (by decide) (by omega) v1 l1 (⟨n1, n2, n3, n4, n5⟩ : S70) [.int .i64 n1, .int .i64 n2, .int .i64 n3, .int .i64 n4, .int .i64 n5] (fun _ => True) (fun _ => False) rfl rfl ?aP (fun _ hk => hk.elim) ?aF ?aO ?aB ?aS ?aL ?_
 (case aP => exact k70_mkM _ _ _ (⟨n1, n2, n3, n4, n5⟩ : S70))
 (case aF => exact (fun _ _ => trivial))
 (case aO => exact Kd.R_mono HX.out.rows.r1 (fun k_ hk => trivial))
 (case aB => exact HX.out.bW)
 (case aS => exact HX.out.bW.size)
 (case aL => have := HL.out; omega)
 intro v9 w3 ho hb hg hat
 obtain ⟨A9, c9, rfl⟩ := Kd.R_slice ho
 have hfz := blk_frozen (grown_blk HX.out.sbk (R_typ HX.out.rows.r1) (by decide) hg) 1
 refine hK.out _ _ ⟨(blk_cell (grown_blk HX.out.cbk (R_typ HX.out.rows.r1) (by decide) hg) 0).trans rfl, (blk_cell (grown_blk HX.out.sbk (R_typ HX.out.rows.r1) (by decide) hg) 1).trans rfl, c5_ (blk_grown HG.out hg HNE.out)⟩ (fun hHeld => ?_)
 clear hK K
 refine nA_ ?_
 refine pA_ 9 24 (bs_ 13 1023) ?_
 refine pA_ 10 25 (bs_ 13 2047) ?_
 refine pA_ 11 26 (bs_ 13 4095) ?_
 refine last_ (i := 12) (N := none) (bs_ 13 8191) rfl rfl (by kernel_rfl) (by decide) (fun K hK => ?_)
 refine skip_ (w1 := ?_) (by rfl) rfl ?_ ?_
 rotate_left
 · go_simp
   rfl
 refine hK.out _ _ ?_
 clear hK K
 refine done_ (by kernel_rfl) ?_
 go_end0
 refine ⟨rfl, ?_⟩
 have m1 : ∀ m, sc.numOf a = some m → n1 = m := HM1.out
 have m2 : ∀ m, sc.numOf b = some m → n2 = m := HM2.out
 have m3 : ∀ m, sc.numOf c = some m → n3 = m := HM3.out
 have m4 : ∀ m, sc.numOf d = some m → n4 = m := HM4.out
 have m5 : ∀ m, sc.numOf f = some m → n5 = m := HM5.out
 have e := HX.out.out1 (o := (accOf a b c d f).map fun x => (l0, l1 ++ [x], l2, l3)) ho hg hb (by
  show (false || false || !(sc.numOf a).isSome || false || !(sc.numOf b).isSome || false || !(sc.numOf c).isSome || false || !(sc.numOf d).isSome || false || !(sc.numOf f).isSome) = _
  unfold accOf
  cases sc.numOf a <;> cases sc.numOf b <;> cases sc.numOf c <;> cases sc.numOf d <;> cases sc.numOf f <;> rfl) (fun s hs => by
  unfold accOf at hs
  rcases h1 : sc.numOf a with _ | x1
  · rw [h1] at hs; cases hs
  rcases h2 : sc.numOf b with _ | x2
  · rw [h1, h2] at hs; cases hs
  rcases h3 : sc.numOf c with _ | x3
  · rw [h1, h2, h3] at hs; cases hs
  rcases h4 : sc.numOf d with _ | x4
  · rw [h1, h2, h3, h4] at hs; cases hs
  rcases h5 : sc.numOf f with _ | x5
  · rw [h1, h2, h3, h4, h5] at hs; cases hs
  rw [h1, h2, h3, h4, h5] at hs
  rw [m1 x1 h1, m2 x2 h2, m3 x3 h3, m4 x4 h4, m5 x5 h5]
  exact Option.some.inj hs)
 simpa only [List.length_append, List.length_cons, List.length_nil, Nat.zero_add] using e
end Go.Proofs.YtndbbgihpoiojaaGreatDoor.Q
