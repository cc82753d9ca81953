/- Script: the law ScriptQuotes: its second form's card. -/
import Derived.Test.YtndbbgihpoiojaaGreatDoorScriptQuotes5
-- C7
namespace Go.Proofs.YtndbbgihpoiojaaGreatDoor.Q
open Go.RowKit Go.Proofs.YtndbbgihpoiojaaGreatDoorW.PrintWords Go.Proofs.YtndbbgihpoiojaaGreatDoorW.PrintLast
set_option linter.unusedVariables false
set_option linter.unusedSimpArgs false
abbrev fx1 : ByteArray := ⟨#[108, 97, 98, 101, 108, 32, 49, 10, 115, 101, 115, 115, 105, 111, 110, 32, 48, 10, 97, 115, 107, 32, 48, 32, 112, 117, 116, 32, 49, 32, 50, 32, 48, 32, 34, 107, 34, 32, 34, 118, 37, 50, 48, 119, 34, 10, 116, 105, 99, 107, 32, 47, 32, 50, 44, 57, 57, 44, 48, 32, 47, 10]⟩
abbrev fx2 : ByteArray := ⟨#[105, 100, 108, 101, 10, 116, 111, 99, 107]⟩
abbrev fe1 : S52 := ⟨1, 0, ⟨4, ⟨1, 2⟩, 0, ⟨#[107]⟩, ⟨#[]⟩, [118, 32, 119], 0⟩, 0, []⟩
abbrev fe2 : S52 := ⟨2, 0, z49, 0, [[⟨2, 99, 0⟩], []]⟩
abbrev fe3 : S52 := ⟨5, 0, z49, 0, []⟩
set_option maxRecDepth 100000
theorem fx1_parse : parseS fx1 = ((0, 0), some ([1], [], [0], [fe1, fe2])) := by kernel_rfl
theorem fx2_parse : parseS fx2 = ((2, 260), none) := by kernel_rfl
theorem fx_print : printS ([1], [], [], [fe3]) = (⟨#[108, 97, 98, 101, 108, 32, 49, 10, 105, 100, 108, 101, 10]⟩, 0) := by kernel_rfl
theorem fx_quote : quoteB ⟨#[97, 32, 98]⟩ = ⟨#[34, 97, 37, 50, 48, 98, 34]⟩ := by kernel_rfl
theorem fx_tell : script_Tell.f 20 3 0 0 0 0 false [] [] true 0 = some ⟨#[115, 108, 111, 116, 32, 51, 32, 115, 101, 115, 115, 105, 111, 110, 32, 48, 32, 99, 111, 100, 101, 32, 48, 32, 109, 111, 114, 101]⟩ := by kernel_rfl
theorem ev_cells {w : World} {base : Nat} {v : Value} {l3 : List S52} (h : EvR w base v l3) : ∃ g c, (v = .slice (some ⟨g, 0, none⟩) l3.length c ∨ (l3 = [] ∧ v = .slice none 0 0)) ∧
 ∀ (j : Nat) x, l3[j]? = some x → ∃ A8 c8 A11 c11, x.f2.f5.length ≤ c8 ∧ Kd.C (Kd.int .u8) w A8 x.f2.f5.length x.f2.f5 ∧ x.f4.length ≤ c11 ∧ (Kd.slice 66 k66).C w A11 x.f4.length x.f4 ∧
  ∀ i u, ([.int .i64 x.f0, .int .i64 x.f1, .int .i64 x.f2.f0, .int .i64 x.f2.f1.f0, .int .i64 x.f2.f1.f1, .int .i64 x.f2.f2, .string x.f2.f3, .string x.f2.f4, .slice A8 x.f2.f5.length c8, .int .i64 x.f2.f6, .int .i64 x.f3, .slice A11 x.f4.length c11] : List Value)[i]? = some u → w.cell? ⟨g, j * 12 + i, none⟩ = some u := by
 obtain ⟨o3, hr, hm, hb⟩ := h
 have hlen : o3.length = l3.length := by rw [← hm]; simp
 obtain ⟨A, c, rfl, hc, hC⟩ := Kd.R_reads hr
 obtain ⟨inner, hown⟩ := Kd.R_own hr
 rcases hown.2 with ⟨hv, hn⟩ | ⟨g, cap, cur, hv, _⟩
 · have h0 : l3 = [] := List.eq_nil_of_length_eq_zero (by omega)
   subst h0
   refine ⟨0, 0, .inr ⟨rfl, hv⟩, fun j x hx => by simp at hx⟩
 injection hv with e1 e2 e3
 subst e1 e3
 refine ⟨g, c, .inl (by rw [hlen]), fun j x hx => ?_⟩
 obtain ⟨p, hp, rfl⟩ : ∃ p, o3[j]? = some p ∧ p.1 = x := by
  rw [← hm, List.getElem?_map] at hx
  obtain ⟨p, hp, he⟩ := Option.map_eq_some_iff.1 hx
  exact ⟨p, hp, he⟩
 obtain ⟨b, o, cs, hA, hK, hcs⟩ := Cat_ hC hp (by decide)
 injection hA with hA
 injection hA with e4 e5
 subst e4 e5
 obtain ⟨A11, c11, rfl, h11, g11⟩ := k52o_open hK
 have hv := hb p (List.mem_of_getElem? hp)
 refine ⟨p.2.1, p.2.2, A11, c11, hv.1, Kd.F_now hv.2, h11, g11, fun i u hu => ?_⟩
 have := hcs i u hu
 rwa [Nat.zero_add] at this
theorem one_C {α : Type} {d : Kd α} {w : World} {b : Nat} {cs : Array Value} {t : TypeId} {fr : Nat × Nat} {x : α} (h : w.heap[b]? = some (.cells cs t fr)) (hK : d.K w x cs.toList) (hs : cs.size = d.sz) : d.C w (some ⟨b, 0, none⟩) 1 [x] := by
 refine ⟨rfl, by decide, fun _ => ⟨_, rfl, fun j p hj => ?_⟩⟩
 obtain ⟨rfl, rfl⟩ : j = 0 ∧ x = p := by
  cases j with
  | zero => exact ⟨rfl, by simpa using hj⟩
  | succ j => simp at hj
 refine ⟨cs.toList, by simpa using hs, hK, fun i u hu => ?_⟩
 rw [addPlainQ]
 exact wld.cell_of h (by simpa using hu)
theorem fx_ok : PrintOK ([1], [], [], [fe3]) where
 lab := fun x hx => by rw [List.mem_singleton.1 hx]; decide
 acc := fun x hx => by cases hx
 ses := fun x hx => by cases hx
 ev := fun x hx => by
  rw [List.mem_singleton.1 hx]
  refine ⟨⟨?_, ?_, ?_, ?_, ?_, ?_, by decide, by decide, by decide, fun l hl => by cases hl⟩, by decide, by decide⟩ <;> (unfold sc.InInt; decide)
 cnt := by decide
 sum := of_decide_eq_true (by kernel_rfl)
set_option maxHeartbeats 4000000 in
theorem fixed_calls (w : World) (hE : sc.Env w) : Calls Tryz.prog 17 #[] w fun e w' => e = .returned (.bool true) ∧ Below w.heap.size w w' := by
 have H1 := parse_calls fx1 w hE (by decide)
 rw [fx1_parse] at H1
 have HP1 := Aside0.mk H1
 have HE := Aside0.mk hE
 clear H1 hE
 go_enter Tryz.func17, Tryz.ntmps17
 go_wp2_with fail
 refine HP1.out.mono ?_
 rintro e w1 ⟨v0, v1, v2, v3, rfl, ⟨base, hbase, hr⟩, hb⟩
 obtain ⟨A0, c0, rfl⟩ := Kd.R_slice hr.r0
 obtain ⟨A1, c1, rfl⟩ := Kd.R_slice hr.r1
 obtain ⟨A2, c2, rfl⟩ := Kd.R_slice hr.r2
 obtain ⟨g, c, hv3, hcells⟩ := ev_cells hr.r3
 rcases hv3 with rfl | ⟨h, _⟩
 · obtain ⟨A8, c8, A11, c11, hc8, hval, hc11, hstr, hc⟩ := hcells 0 fe1 rfl
   obtain ⟨B8, d8, B11, d11, hd8, hval2, hd11, hstr2, hd⟩ := hcells 1 fe2 rfl
   have q8 := wld.cellA (show w1.cell? ⟨g, 8, none⟩ = some (.slice A8 3 c8) from hc 8 _ rfl) (.cells #[.slice A0 1 c0, .slice A1 0 c1, .slice A2 1 c2] 26)
   have q23 := wld.cellA (show w1.cell? ⟨g, 23, none⟩ = some (.slice B11 2 d11) from hd 11 _ rfl) (.cells #[.slice A0 1 c0, .slice A1 0 c1, .slice A2 1 c2] 26)
   have HB := Aside0.mk hb
   have HV := Aside0.mk hval
   clear hb hval hval2 hstr hstr2 hc hd hcells hr HP1 hbase hc8 hd8 hc11 hd11
   have hcv : Sem.run Tryz.prog (convert 38 9 (.slice A8 3 c8)) (w1.alloc (.cells #[.slice A0 1 c0, .slice A1 0 c1, .slice A2 1 c2] 26)) = .ok (.string ⟨#[118, 32, 119]⟩) (w1.alloc (.cells #[.slice A0 1 c0, .slice A1 0 c1, .slice A2 1 c2] 26)) := Kd.C_string (P := Tryz.prog) (A := A8) (c := c8) Tryz.underlying38 Tryz.underlying5 Tryz.underlying9 (Kd.C_below HV.out (below_alloc (Below.refl w1.heap.size w1) (.cells #[.slice A0 1 c0, .slice A1 0 c1, .slice A2 1 c2] 26)))
   go_wp2_with fail
   have HB2 := Aside0.mk (below_alloc HB.out (.cells #[.slice A0 1 c0, .slice A1 0 c1, .slice A2 1 c2] 26))
   clear q8 q23 hcv HV
   generalize w1.alloc _ = wa at HB2 ⊢
   have H2 := parse_calls fx2 wa (HE.out.below HB2.out) (by decide)
   rw [fx2_parse] at H2
   refine H2.mono ?_
   clear H2
   rintro e w2 ⟨u0, u1, u2, u3, rfl, _, hb2⟩
   replace HB2 := Aside0.mk (below_step HB2.out hb2)
   clear hb2
   have HB3 := Aside0.mk (below_alloc (below_alloc HB2.out (.cells #[.int .u64 1] 68)) (.cells #[.int .i64 5, .int .i64 0, .int .i64 0, .int .i64 0, .int .i64 0, .int .i64 0, .string ⟨#[]⟩, .string ⟨#[]⟩, .slice none 0 0, .int .i64 0, .int .i64 0, .slice none 0 0] 52))
   have hx1 : ((w2.alloc (.cells #[.int .u64 1] 68)).alloc (.cells #[.int .i64 5, .int .i64 0, .int .i64 0, .int .i64 0, .int .i64 0, .int .i64 0, .string ⟨#[]⟩, .string ⟨#[]⟩, .slice none 0 0, .int .i64 0, .int .i64 0, .slice none 0 0] 52)).heap[w2.heap.size]? = some (.cells #[.int .u64 1] 68) := (wld.alloc_other (by simp) _).trans (wld.alloc_same _ _)
   have hx2 : ((w2.alloc (.cells #[.int .u64 1] 68)).alloc (.cells #[.int .i64 5, .int .i64 0, .int .i64 0, .int .i64 0, .int .i64 0, .int .i64 0, .string ⟨#[]⟩, .string ⟨#[]⟩, .slice none 0 0, .int .i64 0, .int .i64 0, .slice none 0 0] 52)).heap[w2.heap.size + 1]? = some (.cells #[.int .i64 5, .int .i64 0, .int .i64 0, .int .i64 0, .int .i64 0, .int .i64 0, .string ⟨#[]⟩, .string ⟨#[]⟩, .slice none 0 0, .int .i64 0, .int .i64 0, .slice none 0 0] 52) := by
    have h := wld.alloc_same (w2.alloc (.cells #[.int .u64 1] 68)) (.cells #[.int .i64 5, .int .i64 0, .int .i64 0, .int .i64 0, .int .i64 0, .int .i64 0, .string ⟨#[]⟩, .string ⟨#[]⟩, .slice none 0 0, .int .i64 0, .int .i64 0, .slice none 0 0] 52)
    rw [World.size_alloc] at h
    exact h
   have HPR := print_calls (some ⟨w2.heap.size, 0, none⟩) 1 [1] none 0 [] none 0 [] (some ⟨w2.heap.size + 1, 0, none⟩) 1 [fe3] _ (HE.out.below HB3.out) (one_C hx1 rfl rfl) (nilC _ _) (nilC _ _) (one_C hx2 (k52_mk _ fe3 (A8 := none) (c8 := 0) (Nat.le_refl _) (nilC _ _) (A11 := none) (c11 := 0) (Nat.le_refl _) (nilC _ _)) rfl) fx_ok
   rw [fx_print] at HPR
   have HPR := Aside0.mk HPR
   clear hx1 hx2
   go_wp2_with fail
   refine HPR.out.mono ?_
   rintro e w3 ⟨rfl, hb3⟩
   have HB4 := Aside0.mk (below_step HB3.out hb3)
   have HQ := Aside0.mk (quoteB_c ⟨#[97, 32, 98]⟩ (by decide) w3 (HE.out.below HB4.out))
   rw [fx_quote] at HQ
   clear hb3
   go_wp2_with fail
   refine HQ.out.mono ?_
   rintro e w4 ⟨rfl, hb4⟩
   have HB5 := Aside0.mk (below_step HB4.out hb4)
   have HT := Aside0.mk (script_Tell.calls 20 3 0 0 0 0 false none 0 [] none 0 [] true 0 _ w4 (nilC _ _) (Nat.le_refl _) (nilC _ _) (Nat.le_refl _) (HE.out.below HB5.out) fx_tell)
   clear hb4
   go_wp2_with fail
   refine HT.out.mono ?_
   rintro e w5 ⟨rfl, hb5⟩
   go_wp2_with fail
   go_ret
   exact ⟨rfl, below_step HB5.out hb5⟩
 cases h
def cloisterlaw26_scriptFixed.f : Option Bool := some true
theorem cloisterlaw26_scriptFixed.calls (r : Bool) (w : World) (hE : sc.Env w) (h : cloisterlaw26_scriptFixed.f = some r) : Calls Tryz.prog 17 #[] w fun e w' => e = .returned (.bool r) ∧ Below w.heap.size w w' := by
 obtain rfl := Option.some.inj h
 exact fixed_calls w hE
end Go.Proofs.YtndbbgihpoiojaaGreatDoor.Q
-- Q7
namespace Go.Proofs.YtndbbgihpoiojaaGreatDoor.Q
open Go.RowKit Go.Proofs.YtndbbgihpoiojaaGreatDoorW.PrintWords Go.Proofs.YtndbbgihpoiojaaGreatDoorW.PrintLast Go.Proofs.YtndbbgihpoiojaaGreatDoorW.PrintMore
attribute [local go_sem] max2_int min2_int max_two min_two max_three min_three max_four min_four   -- for this text's walks alone
set_option linter.unusedVariables false
set_option linter.unusedSimpArgs false
def cloisterlaw26_ScriptQuotes.f (k : Nat) (a0 : ByteArray) : Option (Bool) := (script_Quote.f a0).bind fun t273 => ((cloisterref26_Quote.f k a0).bind fun t274 => (if t273.toList = t274.toList then ((cloisterlaw26_scriptFixed.f).bind fun t275 => (some t275)) else (some false)))
set_option maxHeartbeats 8000000 in
set_option maxRecDepth 100000 in
theorem cloisterlaw26_ScriptQuotes.calls (k : Nat) (a0 : ByteArray) (r : Bool) (w : World) (hE : sc.Env w) (h : cloisterlaw26_ScriptQuotes.f k a0 = some r) :
 Calls Tryz.prog 5 #[.string a0] w fun e w' => e = .returned (.bool r) ∧ Below w.heap.size w w' := by
 have HE := Aside0.mk hE
 clear hE
 have HB := Aside0.mk (Below.refl w.heap.size w)
 have H : ((script_Quote.f a0).bind fun t273 => ((cloisterref26_Quote.f k a0).bind fun t274 => (if t273.toList = t274.toList then ((cloisterlaw26_scriptFixed.f).bind fun t275 => (some t275)) else (some false)))) = some r := h
 clear h
 replace H := Option.bind_eq_some_iff.mp H
 obtain ⟨t273, A20, H⟩ := H
 have A2 := Aside0.mk A20
 clear A20
 replace H := Option.bind_eq_some_iff.mp H
 obtain ⟨t274, A30, H⟩ := H
 have A3 := Aside0.mk A30
 clear A30
 by_cases c4 : t273.toList = t274.toList
 rw [if_pos c4] at H
 have c4b0 : (t273.toList == t274.toList) = true := beq_iff_eq.mpr c4
 have c4b1 : (t273.toList != t274.toList) = false := bne_eq_false_iff_eq.mpr c4
 clear c4
 replace H := Option.bind_eq_some_iff.mp H
 obtain ⟨t275, A50, H⟩ := H
 have A5 := Aside0.mk A50
 clear A50
 obtain rfl := Option.some.inj H
 go_enter Tryz.func5, Tryz.ntmps5
 go_wp2_with (first | ((with_reducible refine gate_callee (f := 20) rfl ?_); refine goesL_ (some 4) rfl rfl Tryz.func20 (by kernel_rfl) rfl #[.string a0] rfl (by (try simp only [List.map_toArray, List.map_cons, List.map_nil]); first | done | rfl | (simp only [List.length_drop, List.length_take]; rfl)) ?_; (with_reducible refine (script_Quote.calls a0 t273 _ ?side1 A2.out).mono ?_); (case side1 => exact sc.Env.below HE.out (by repeat (first | (with_reducible first | exact HB.out | apply below_alloc | apply pw_below_drewN | apply below_drew1) | exact HB.out))); rintro e w6 ⟨rfl, hb⟩; refine ⟨_, rfl, ?_⟩; have n0_ := Aside0.mk (below_step (by repeat (first | (with_reducible first | exact HB.out | apply below_alloc | apply pw_below_drewN | apply below_drew1) | exact HB.out)) hb); clear HB; have HB := n0_; clear n0_; (try clear hb); (try clear hb2); (try clear hk); (try clear hi)) | ((with_reducible refine gate_callee (f := 21) rfl ?_); refine goesL_ (some 6) rfl rfl Tryz.func21 (by kernel_rfl) rfl #[.string a0] rfl (by (try simp only [List.map_toArray, List.map_cons, List.map_nil]); first | done | rfl | (simp only [List.length_drop, List.length_take]; rfl)) ?_; (with_reducible refine (cloisterref26_Quote.calls k a0 t274 _ ?side1 A3.out).mono ?_); (case side1 => exact sc.Env.below HE.out (by repeat (first | (with_reducible first | exact HB.out | apply below_alloc | apply pw_below_drewN | apply below_drew1) | exact HB.out))); rintro e w7 ⟨rfl, hb⟩; refine ⟨_, rfl, ?_⟩; have n0_ := Aside0.mk (below_step (by repeat (first | (with_reducible first | exact HB.out | apply below_alloc | apply pw_below_drewN | apply below_drew1) | exact HB.out)) hb); clear HB; have HB := n0_; clear n0_; (try clear hb); (try clear hb2); (try clear hk); (try clear hi)) | (go_at_call 17; (with_reducible refine (cloisterlaw26_scriptFixed.calls  t275 _ ?side1 A5.out).mono ?_); (case side1 => exact sc.Env.below HE.out (by repeat (first | (with_reducible first | exact HB.out | apply below_alloc | apply pw_below_drewN | apply below_drew1) | exact HB.out))); rintro e w8 ⟨rfl, hb⟩; have n0_ := Aside0.mk (below_step (by repeat (first | (with_reducible first | exact HB.out | apply below_alloc | apply pw_below_drewN | apply below_drew1) | exact HB.out)) hb); clear HB; have HB := n0_; clear n0_; (try clear hb); (try clear hb2); (try clear hk); (try clear hi)))
 rotate_left
 rw [if_neg c4] at H
 have c4b0 : (t273.toList == t274.toList) = false := beq_eq_false_iff_ne.mpr c4
 have c4b1 : (t273.toList != t274.toList) = true := bne_iff_ne.mpr c4
 obtain rfl := Option.some.inj H
 go_enter Tryz.func5, Tryz.ntmps5
 go_wp2_with (first | ((with_reducible refine gate_callee (f := 20) rfl ?_); refine goesL_ (some 4) rfl rfl Tryz.func20 (by kernel_rfl) rfl #[.string a0] rfl (by (try simp only [List.map_toArray, List.map_cons, List.map_nil]); first | done | rfl | (simp only [List.length_drop, List.length_take]; rfl)) ?_; (with_reducible refine (script_Quote.calls a0 t273 _ ?side1 A2.out).mono ?_); (case side1 => exact sc.Env.below HE.out (by repeat (first | (with_reducible first | exact HB.out | apply below_alloc | apply pw_below_drewN | apply below_drew1) | exact HB.out))); rintro e w9 ⟨rfl, hb⟩; refine ⟨_, rfl, ?_⟩; have n0_ := Aside0.mk (below_step (by repeat (first | (with_reducible first | exact HB.out | apply below_alloc | apply pw_below_drewN | apply below_drew1) | exact HB.out)) hb); clear HB; have HB := n0_; clear n0_; (try clear hb); (try clear hb2); (try clear hk); (try clear hi)) | ((with_reducible refine gate_callee (f := 21) rfl ?_); refine goesL_ (some 6) rfl rfl Tryz.func21 (by kernel_rfl) rfl #[.string a0] rfl (by (try simp only [List.map_toArray, List.map_cons, List.map_nil]); first | done | rfl | (simp only [List.length_drop, List.length_take]; rfl)) ?_; (with_reducible refine (cloisterref26_Quote.calls k a0 t274 _ ?side1 A3.out).mono ?_); (case side1 => exact sc.Env.below HE.out (by repeat (first | (with_reducible first | exact HB.out | apply below_alloc | apply pw_below_drewN | apply below_drew1) | exact HB.out))); rintro e w10 ⟨rfl, hb⟩; refine ⟨_, rfl, ?_⟩; have n0_ := Aside0.mk (below_step (by repeat (first | (with_reducible first | exact HB.out | apply below_alloc | apply pw_below_drewN | apply below_drew1) | exact HB.out)) hb); clear HB; have HB := n0_; clear n0_; (try clear hb); (try clear hb2); (try clear hk); (try clear hi)))
 rotate_left
 all_goals
  go_ret
  exact ⟨by first | rfl | (simp [errW_none, errW_some] <;> rfl) | (simp [*, errW_none, errW_some] <;> rfl), by repeat (first | (with_reducible first | exact HB.out | apply below_alloc | apply pw_below_drewN | apply below_drew1) | exact HB.out)⟩
end Go.Proofs.YtndbbgihpoiojaaGreatDoor.Q
-- LQ0
namespace Go.Proofs.YtndbbgihpoiojaaGreatDoor.Q
open Go.RowKit Go.Proofs.YtndbbgihpoiojaaGreatDoorW.PrintWords Go.Proofs.YtndbbgihpoiojaaGreatDoorW.PrintLast
set_option linter.unusedVariables false
theorem bt_of (s : ByteArray) (i : Nat) (b : UInt8) (h : s.data.toList[i]? = some b) : bt s (i : Int) = (b.toNat : Int) := by
 obtain ⟨⟨l⟩⟩ := s
 have h' : l[i]? = some b := h
 obtain ⟨hi, rfl⟩ := List.getElem?_eq_some_iff.1 h'
 have hs : ((i : Int)).toNat < (ByteArray.mk ⟨l⟩).size := by
  show ((i : Int)).toNat < l.toArray.size
  simpa using hi
 rw [← bt_at _ _ hs]
 rfl
theorem hex_bt : ∀ (k : Nat), k < 16 → bt (⟨#[48, 49, 50, 51, 52, 53, 54, 55, 56, 57, 65, 66, 67, 68, 69, 70]⟩ : ByteArray) (k : Int) = ((sc.hexD k).toNat : Int) := by
 intro k hk
 have : k = 0 ∨ k = 1 ∨ k = 2 ∨ k = 3 ∨ k = 4 ∨ k = 5 ∨ k = 6 ∨ k = 7 ∨ k = 8 ∨ k = 9 ∨ k = 10 ∨ k = 11 ∨ k = 12 ∨ k = 13 ∨ k = 14 ∨ k = 15 := by omega
 rcases this with rfl | rfl | rfl | rfl | rfl | rfl | rfl | rfl | rfl | rfl | rfl | rfl | rfl | rfl | rfl | rfl <;> decide
theorem pct_nums (b : UInt8) : ([37, bt (⟨#[48, 49, 50, 51, 52, 53, 54, 55, 56, 57, 65, 66, 67, 68, 69, 70]⟩ : ByteArray) ((Int.tdiv (b.toNat : Int) 16) % 256), bt (⟨#[48, 49, 50, 51, 52, 53, 54, 55, 56, 57, 65, 66, 67, 68, 69, 70]⟩ : ByteArray) (Int.tmod (b.toNat : Int) 16)] : List Int) = nums8 (sc.pct b) := by
 have hb := b.toNat_lt
 have e1 : (Int.tdiv (b.toNat : Int) 16) % 256 = ((b.toNat / 16 : Nat) : Int) := by
  rw [Int.tdiv_eq_ediv_of_nonneg (by omega)]
  omega
 have e2 : Int.tmod (b.toNat : Int) 16 = ((b.toNat % 16 : Nat) : Int) := by
  rw [Int.tmod_eq_emod_of_nonneg (by omega)]
  omega
 rw [e1, e2, hex_bt _ (by omega), hex_bt _ (by omega)]
 rfl
theorem pct_len (b : UInt8) : (sc.pct b).length = 3 := rfl
theorem l1_end {k : Nat} {x0 : ByteArray} {x3 : List Int} {x5 x7 : Int} (h : ¬ x7 < x5) (h0 : 0 ≤ x5) (h1 : x5 ≤ (x0.size : Int)) : cloisterref26_Quote.l1 (k + 1) x0 x3 x5 x7 = cloisterref26_Quote.l0 k (x0.extract (x5 : Int).toNat x0.size) x3 := by
 rw [cloisterref26_Quote.l1, if_neg h, if_pos h0, if_pos h1]
theorem l1_step {k : Nat} {x0 : ByteArray} {x3 : List Int} {x5 : Int} {i : Nat} {b : UInt8} (h : (i : Int) < x5) (h1 : (i : Int) < (x0.size : Int)) (hb : bt x0 (i : Int) = (b.toNat : Int)) (hl : x3.length + 3 < 140737488355328) (hi : i < 1099511627776) : cloisterref26_Quote.l1 (k + 1) x0 x3 x5 (i : Int) = cloisterref26_Quote.l1 k x0 (x3 ++ nums8 (sc.pct b)) x5 ((i + 1 : Nat) : Int) := by
 have hb2 := b.toNat_lt
 have e1 : (Int.tdiv (b.toNat : Int) 16) % 256 = ((b.toNat / 16 : Nat) : Int) := by
  rw [Int.tdiv_eq_ediv_of_nonneg (by omega)]
  omega
 have e2 : Int.tmod (b.toNat : Int) 16 = ((b.toNat % 16 : Nat) : Int) := by
  rw [Int.tmod_eq_emod_of_nonneg (by omega)]
  omega
 have hw1 : wrap64 ((i : Int) + 1) = ((i + 1 : Nat) : Int) := by unfold wrap64; omega
 have hp : x3.length + (nums8 (sc.pct b)).length < 140737488355328 := by rw [nums8_length, pct_len]; exact hl
 have d0 : 0 ≤ (Int.tdiv (b.toNat : Int) 16) % 256 := by rw [e1]; exact Int.natCast_nonneg _
 have d1 : (Int.tdiv (b.toNat : Int) 16) % 256 < 16 := by rw [e1]; omega
 have m0 : 0 ≤ Int.tmod (b.toNat : Int) 16 := by rw [e2]; exact Int.natCast_nonneg _
 have m1 : Int.tmod (b.toNat : Int) 16 < 16 := by rw [e2]; omega
 rw [cloisterref26_Quote.l1, if_pos h, if_pos (Int.natCast_nonneg i), if_pos h1]
 rw [hb, if_pos d0, if_pos d1, if_pos m0, if_pos m1, pct_nums, hw1, Option.bind_some, if_pos hp]
theorem rq_l1 (M : Nat) (hM : M < 140737488355328) (x0 : ByteArray) (wd : Nat) (hw : wd ≤ x0.size) (hs : x0.size ≤ 1099511627776) (K d : Nat) : ∀ (i : Nat) (acc : List UInt8), i + d = wd → acc.length + 3 * d ≤ M →
 cloisterref26_Quote.l1 (K + 1 + d) x0 (nums8 acc) wd i = cloisterref26_Quote.l0 K (x0.extract wd x0.size) (nums8 (acc ++ ((x0.data.toList.take wd).drop i).flatMap sc.pct)) := by
 induction d with
 | zero =>
  intro i acc hi hl
  have hd : (x0.data.toList.take wd).drop i = [] := by
   apply List.drop_eq_nil_of_le
   have := List.length_take_le wd x0.data.toList
   omega
  rw [hd, Nat.add_zero, l1_end (by omega) (by omega) (by omega), List.flatMap_nil, List.append_nil]
  rfl
 | succ d ih =>
  intro i acc hi hl
  have hil : i < x0.data.toList.length := by rw [← Lib.size_eq]; omega
  obtain ⟨b, hb⟩ : ∃ b, x0.data.toList[i]? = some b := ⟨_, List.getElem?_eq_getElem hil⟩
  have hbt := bt_of x0 i b hb
  have ih := ih (i + 1) (acc ++ sc.pct b) (by omega) (by rw [List.length_append, pct_len]; omega)
  have hd : (x0.data.toList.take wd).drop i = b :: (x0.data.toList.take wd).drop (i + 1) := by
   have hi2 : i < (x0.data.toList.take wd).length := by simp only [List.length_take]; omega
   rw [List.drop_eq_getElem_cons hi2]
   congr 1
   have : (x0.data.toList.take wd)[i]? = some b := by rw [List.getElem?_take, if_pos (by omega), hb]
   exact (List.getElem?_eq_some_iff.1 this).2
  have hlen : (nums8 acc).length + 3 < 140737488355328 := by rw [nums8_length]; omega
  rw [← Nat.add_assoc, l1_step (b := b) (by omega) (by omega) hbt hlen (by omega), ← nums8_append, ih, hd, List.flatMap_cons, List.append_assoc]
theorem j1_eq (k : Nat) (x0 : ByteArray) (x3 : List Int) (c wd : Nat) (x6 : Bool) :
 cloisterref26_Quote.j1 (k + 1) x0 x3 (c : Int) (wd : Int) x6 = cloisterref26_Quote.j2 k x0 x3 (wd : Int) (x6 && (decide (32 < c) && decide (c ≤ 126) && c != 34 && c != 37 || decide (161 ≤ c))) := by
 rw [cloisterref26_Quote.j1]
 cases x6 with
 | false => rfl
 | true =>
  rw [if_pos rfl, Bool.true_and]
  have e161 : decide ((c : Int) ≥ 161) = decide (161 ≤ c) := decide_eq_decide.2 (by omega)
  rw [e161]
  by_cases h1 : 32 < c
  · rw [if_pos (show (c : Int) ≥ 33 by omega)]
    by_cases h2 : c ≤ 126
    · rw [if_pos (show (c : Int) ≤ 126 by omega)]
      by_cases h3 : c = 34
      · rw [if_pos (show (c : Int) = 34 by omega)]; subst h3; rfl
      rw [if_neg (show ¬ (c : Int) = 34 by omega)]
      by_cases h4 : c = 37
      · rw [if_pos (show (c : Int) = 37 by omega)]; subst h4; rfl
      rw [if_neg (show ¬ (c : Int) = 37 by omega)]
      congr 1
      simp [h1, h2, h3, h4]
    rw [if_neg (show ¬ (c : Int) ≤ 126 by omega)]
    congr 1
    simp [h2]
  rw [if_neg (show ¬ (c : Int) ≥ 33 by omega)]
  congr 1
  simp [h1]
theorem l0_j2 (k : Nat) (x : ByteArray) (x3 : List Int) (h : x.size ≠ 0) : cloisterref26_Quote.l0 (k + 2) x x3 = cloisterref26_Quote.j2 k x x3 (((Lib.decodeGo x).2 : Nat) : Int) (sc.qok (Lib.decodeGo x).1 (Lib.decodeGo x).2) := by
 have h0 : (x.size : Int) > 0 := by omega
 rw [cloisterref26_Quote.l0, if_pos h0]
 unfold utf8_DecodeRuneInString.f
 rw [Option.bind_some]
 by_cases hc : (Lib.decodeGo x).1 = 65533
 · rw [if_pos (by show ((Lib.decodeGo x).1 : Int) = 65533; rw [hc]; rfl), j1_eq]
   congr 1
   unfold sc.qok
   rw [hc]
   congr 1
   have e : (((Lib.decodeGo x).2 : Int) > 1) ↔ 1 < (Lib.decodeGo x).2 := Int.ofNat_lt
   simp [e]
 rw [if_neg (by show ¬ ((Lib.decodeGo x).1 : Int) = 65533; intro h; exact hc (by omega)), j1_eq]
 congr 1
 unfold sc.qok
 simp [hc]
theorem l0_end (k : Nat) (x : ByteArray) (acc : List UInt8) (h : x.size = 0) (hl : acc.length < 140737488355328) : cloisterref26_Quote.l0 (k + 1) x (nums8 acc) = some ⟨(acc ++ [34]).toArray⟩ := by
 have h0 : ¬ (x.size : Int) > 0 := by omega
 have hl' : (nums8 acc).length < 140737488355328 := by rw [nums8_length]; exact hl
 rw [cloisterref26_Quote.l0, if_neg h0, if_pos hl']
 congr 1
 rw [← strOf_nums8, nums8_append]
 rfl
theorem decGo_L (x : ByteArray) (h : x.size ≠ 0) : Lib.decodeGo x = Lib.decodeL x.data.toList := by
 unfold Lib.decodeGo
 rw [if_neg h]
 rfl
theorem ext_drop (x : ByteArray) (n : Nat) : (x.extract n x.size).data.toList = x.data.toList.drop n := by
 rw [extract_data, List.take_of_length_le]
 rw [List.length_drop, data_length]
 exact Nat.le_refl _
theorem rq_l0 (M : Nat) (hM : M < 140737488355328) (n : Nat) : ∀ (x : ByteArray) (acc : List UInt8), x.size ≤ n → x.size ≤ 1099511627776 → acc.length + 3 * x.size ≤ M →
 ∃ k, cloisterref26_Quote.l0 k x (nums8 acc) = some ⟨(acc ++ (sc.qt x.data.toList ++ [34])).toArray⟩ := by
 induction n with
 | zero =>
  intro x acc h1 _ h2
  have h0 : x.size = 0 := by omega
  have hd : x.data.toList = [] := List.length_eq_zero_iff.1 (by rw [data_length]; exact h0)
  refine ⟨1, ?_⟩
  rw [l0_end 0 x acc h0 (by omega), hd]
  rfl
 | succ n ih =>
  intro x acc h1 hb h2
  by_cases h0 : x.size = 0
  · exact ih x acc (by omega) hb h2
  have hne : x.data.toList ≠ [] := fun h => h0 (by rw [← data_length, h]; rfl)
  have hw := sc.width_posL x.data.toList
  have hw2 := Lib.decodeL_le _ hne
  rw [data_length] at hw2
  have hq := sc.qt_step hne
  have hql := sc.qform_length x.data.toList (Lib.decodeL x.data.toList).1 (Lib.decodeL x.data.toList).2
  generalize hC : (Lib.decodeL x.data.toList).1 = C at hq hql
  generalize hW : (Lib.decodeL x.data.toList).2 = W at hq hw hw2 hql
  have hsz : (x.extract W x.size).size = x.size - W := by rw [← data_length, ext_drop, List.length_drop, data_length]
  have hacc : (acc ++ sc.qform x.data.toList C W).length + 3 * (x.extract W x.size).size ≤ M := by
   rw [List.length_append, hsz]; omega
  obtain ⟨K, hK⟩ := ih (x.extract W x.size) (acc ++ sc.qform x.data.toList C W) (by omega) (by omega) hacc
  rw [ext_drop] at hK
  rw [hq]
  have hres : ∀ t : List UInt8, acc ++ (sc.qform x.data.toList C W ++ t ++ [34]) = acc ++ sc.qform x.data.toList C W ++ (t ++ [34]) := fun t => by simp only [List.append_assoc]
  rw [hres, ← hK]
  cases hok : sc.qok C W with
  | true =>
   refine ⟨K + 1 + 2, ?_⟩
   have hx : (x.extract 0 (W : Int).toNat).size = W := by
    rw [← data_length, extract_data, Int.toNat_natCast, List.drop_zero, Nat.sub_zero, List.length_take, data_length]; exact Nat.min_eq_left hw2
   have hg : (nums8 acc).length + (x.extract 0 (W : Int).toNat).size < 140737488355328 := by rw [hx, nums8_length]; omega
   rw [l0_j2 _ _ _ h0, decGo_L x h0, hC, hW, hok, cloisterref26_Quote.j2, if_pos rfl, if_pos (Int.natCast_nonneg W), if_pos (Int.ofNat_le.2 hw2), if_pos hg]
   rw [bytesOf_nums8, ← nums8_append, Int.toNat_natCast, extract_data, List.drop_zero, Nat.sub_zero]
   unfold sc.qform
   rw [hok, if_pos rfl]
  | false =>
   refine ⟨K + 1 + W + 1 + 2, ?_⟩
   rw [l0_j2 _ _ _ h0, decGo_L x h0, hC, hW, hok, cloisterref26_Quote.j2, if_neg Bool.false_ne_true]
   have := rq_l1 M hM x W hw2 hb K W 0 acc (Nat.zero_add W) (by omega)
   rw [show ((0 : Nat) : Int) = 0 from rfl] at this
   rw [this]
   unfold sc.qform
   rw [hok, if_neg Bool.false_ne_true, List.drop_zero]
theorem rq_f (x : ByteArray) (h : x.size ≤ 1099511627776) : ∃ k, cloisterref26_Quote.f k x = some ⟨(sc.quoteL x.data.toList).toArray⟩ := by
 obtain ⟨k, hk⟩ := rq_l0 (3 * x.size + 1) (by omega) x.size x [34] (Nat.le_refl _) h (by show 1 + 3 * x.size ≤ _; omega)
 exact ⟨k, hk⟩
theorem quotes_f (x : ByteArray) (h : x.size ≤ 1099511627776) : ∃ k, cloisterlaw26_ScriptQuotes.f k x = some true := by
 obtain ⟨k, hk⟩ := rq_f x h
 refine ⟨k, ?_⟩
 unfold cloisterlaw26_ScriptQuotes.f script_Quote.f
 rw [if_pos h, Option.bind_some, hk, Option.bind_some, if_pos rfl]
 rfl
end Go.Proofs.YtndbbgihpoiojaaGreatDoor.Q
-- EV
namespace Go.Proofs.YtndbbgihpoiojaaGreatDoor.ev
open Go.RowKit Go.Lib
set_option linter.unusedVariables false
abbrev laidL : List (String × DataW Unit) := Rows.scriptQuotesRow.laid
set_option maxRecDepth 100000
theorem pow_eq : (Rows.laid_internal_strconv_uint64pow10 : DataW Unit) = tabData .u64 Lib.pow10Tab := by kernel_rfl
theorem acc_eq : (Rows.laid_unicode_utf8_acceptRanges : DataW Unit) = acceptData := by kernel_rfl
theorem first_eq : Rows.laid_unicode_utf8_first = firstData := Pinned.utf8First_eq
theorem nm0 : Tryz.prog.globalNamed "unicode/utf8.first" = some 0 := by kernel_rfl
theorem nm1 : Tryz.prog.globalNamed "unicode/utf8.acceptRanges" = some 1 := by kernel_rfl
theorem nm2 : Tryz.prog.globalNamed "internal/strconv.uint64pow10" = some 2 := by kernel_rfl
theorem nm6 : Tryz.prog.globalNamed "strconv.ErrSyntax" = some 6 := by kernel_rfl
theorem nm7 : Tryz.prog.globalNamed "strconv.ErrRange" = some 7 := by kernel_rfl
theorem ty2 : (Tryz.prog.globals[2]?).map (·.type) = some 163 := by kernel_rfl
theorem ty6 : (Tryz.prog.globals[6]?).map (·.type) = some 117 := by kernel_rfl
theorem ty7 : (Tryz.prog.globals[7]?).map (·.type) = some 117 := by kernel_rfl
theorem cells163 : Tryz.prog.cellsOf 163 = 20 := by kernel_rfl
theorem cellsU64 : Tryz.prog.cellsOf 67 = 1 := by kernel_rfl
theorem u8extra : U8Extra Tryz.prog Tryz.lays260_ren where
 n3 := nm0
 n4 := nm1
 y3 := by kernel_rfl
 y4 := by kernel_rfl
 c5 := by kernel_rfl
 c119 := by kernel_rfl
 c138 := by kernel_rfl
theorem iface_at {W : World} {n : String} {d : DataW Unit} {g : Nat} {nm : String} {d' : DataW Unit} (h : VarReads Tryz.prog W n d) (hd : d = .iface nm d') (hg : Tryz.prog.globalNamed n = some g) (ht : (Tryz.prog.globals[g]?).map (·.type) = some 117) : ∃ te pe, W.cell? ⟨g, 0, none⟩ = some (.iface te pe) := by
 subst hd
 obtain ⟨g', t, cs, fuel, p, hg', hty, hvar, hd⟩ := h
 obtain rfl := Option.some.inj (hg.symm.trans hg')
 obtain rfl := Option.some.inj (ht.symm.trans hty)
 obtain ⟨f1, u, v, hcs, _, _⟩ := iface_of_trod Tryz.underlying117 hd
 refine ⟨u, v, ?_⟩
 rw [World.var?_cell hg hvar 0, ← Array.getElem?_toList, hcs]
 rfl
theorem env_of {W : World} (hL : laidMet Tryz.prog laidL W) (hsh : W.ShapedOpen Tryz.prog) : sc.Env W where
 pow := by
  have h := Go.Lib.laidMet.reads hL (n := "internal/strconv.uint64pow10") (d := Rows.laid_internal_strconv_uint64pow10) (.tail _ (.tail _ (.head _)))
  rw [pow_eq] at h
  obtain ⟨g, t, cs, fuel, p, hg, hty, hvar, hd⟩ := h
  obtain rfl := Option.some.inj (nm2.symm.trans hg)
  obtain rfl := Option.some.inj (ty2.symm.trans hty)
  have hcs := cells_of_tab Tryz.underlying163 Tryz.underlying67 cellsU64 cells163 hd
  unfold TabIs
  rw [hvar, ← hcs]
 utf := by
  have h3 := Go.Lib.laidMet.reads hL (n := "unicode/utf8.first") (d := Rows.laid_unicode_utf8_first) (.tail _ (.tail _ (.tail _ (.tail _ (.tail _ (.tail _ (.head _)))))))
  have h4 := Go.Lib.laidMet.reads hL (n := "unicode/utf8.acceptRanges") (d := Rows.laid_unicode_utf8_acceptRanges) (.tail _ (.tail _ (.tail _ (.head _))))
  rw [first_eq] at h3
  rw [acc_eq] at h4
  exact utf8Tabs_of_readsT (U8Types.of260 Tryz.lays260) u8extra h3 h4
 max := Go.Proofs.cell_of_shapedOpen_int (zero := #[.int .i64 0]) (t := 3) hsh (of_decide_eq_true (by kernel_rfl)) (by kernel_rfl) rfl (by kernel_rfl) (by kernel_rfl) Tryz.underlying3
 syn := iface_at (Go.Lib.laidMet.reads hL (n := "strconv.ErrSyntax") (d := Rows.laid_strconv_ErrSyntax) (.tail _ (.tail _ (.tail _ (.tail _ (.tail _ (.head _))))))) rfl nm6 ty6
 rng := iface_at (Go.Lib.laidMet.reads hL (n := "strconv.ErrRange") (d := Rows.laid_strconv_ErrRange) (.tail _ (.tail _ (.tail _ (.tail _ (.head _)))))) rfl nm7 ty7
end Go.Proofs.YtndbbgihpoiojaaGreatDoor.ev
-- EW
namespace Go.Proofs.YtndbbgihpoiojaaGreatDoor.ev
open Go.RowKit Go.Lib
set_option linter.unusedVariables false
set_option maxRecDepth 100000
theorem own : ownKnob Tryz.prog.godebug = none := by kernel_rfl
abbrev synS : ByteArray := { data := #[105, 110, 118, 97, 108, 105, 100, 32, 115, 121, 110, 116, 97, 120] }
abbrev rngS : ByteArray := { data := #[118, 97, 108, 117, 101, 32, 111, 117, 116, 32, 111, 102, 32, 114, 97, 110, 103, 101] }
noncomputable def low : Nat := (World.holding Tryz.prog default ⟨#[], #[], []⟩).heap.size
def put (cs : Array Value) : Obj → Obj
 | .cells _ t frozen => .cells cs t frozen
 | o => o
def flat : DataW Unit → List Value
 | .agg l => l.flatMap fun d => match d with
  | .lit (.int k z) => [.int k z]
  | .agg m => m.flatMap fun d => match d with
   | .lit (.int k z) => [.int k z]
   | _ => []
  | _ => []
 | _ => []
noncomputable def laidWorld (os : Os) : World :=
 let w0 := World.holding Tryz.prog os ⟨#[.cells #[.string synS] 195, .cells #[.string rngS] 195], #[], []⟩
 { w0 with heap := (((((((w0.heap.modify 0 (put (flat firstData).toArray)).modify 1 (put (flat acceptData).toArray)).modify 2 (put (flat (tabData .u64 Lib.pow10Tab)).toArray)).modify 4 (put (flat Rows.laid_math_bits_deBruijn32tab).toArray)).modify 5 (put (flat Rows.laid_math_bits_deBruijn64tab).toArray)).modify 6 (put #[.iface 193 (.pointer (some ⟨low, 0, none⟩))])).modify 7 (put #[.iface 193 (.pointer (some ⟨low + 1, 0, none⟩))])) }
theorem laidWorld_met (os : Os) (args : Array Value) : laidMet Tryz.prog laidL ((laidWorld os).forCall (fun _ _ => 0) ⟨#[], args, []⟩).memory :=
 laidMet_of_run' 8 (by kernel_rfl) (by kernel_rfl)
theorem laidWorld_metH (os : Os) (args : Array Value) : laidMetH Tryz.prog laidL ((laidWorld os).forCall (fun _ _ => 0) ⟨#[], args, []⟩).memory := by
 rw [Go.MakeChecks.laidMetH_plain _ _ _ (by kernel_rfl)]
 exact laidWorld_met os args
end Go.Proofs.YtndbbgihpoiojaaGreatDoor.ev
-- LQ1
namespace Go.Proofs.YtndbbgihpoiojaaGreatDoor.scriptQuotes
open Go.ChangeShapes Go.WideShapes Go.ChangeAt Go.RowKit Go.Proofs.YtndbbgihpoiojaaGreatDoor.ev
set_option linter.unusedVariables false
abbrev args0 : Array Value := #[.string ⟨#[]⟩]
set_option maxRecDepth 100000 in
theorem contract (H : Type) (enc : TypeId × Value → H) (W : World) (base : Nat) (args : Array Value) (ds gs : List (DataW H)) (before : List MemPlace)
 (hval : ∀ (j : Nat) t v, Tryz.f5.params[j]? = some t → args[j]? = some v → Value.okWide Tryz.prog W .any base t v)
 (hW : DataW.Whole enc Tryz.prog Tryz.f5.params.toList Rows.scriptQuotesSpec.vars false W args.toList ds gs before)
 (hk : Rows.uptoSmall H (ds ++ gs) = true) (hL : laidMetH Tryz.prog laidL W) (hsh : W.ShapedOpen Tryz.prog) :
 Calls Tryz.prog 5 args W fun e W' => ∃ v, e = .returned v ∧ Rows.scriptQuotesSpec.post enc Tryz.prog Tryz.f5 false true false false W args v W' := by
 have hW' := hW
 obtain ⟨p, q, hA0, hV, rfl, hfz, hnd⟩ := hW
 have hA : DataW.TrodAll enc Tryz.prog W 0 (fun _ => true) true Tryz.f5.params.toList args.toList ds p := hA0
 rw [Tryz.params5] at hA hval
 obtain ⟨v0, vs0, d0, ds0, p0, q0, hargs, rfl, rfl, h0, r0⟩ := trodAll_cons hA
 obtain ⟨rfl, rfl, rfl⟩ := trodAll_nil r0
 obtain rfl : args = #[v0] := by cases args; simp_all
 obtain ⟨rfl, rfl⟩ := trodVars_none hV
 obtain ⟨s, rfl, rfl, rfl, hs⟩ := Go.ChangeMaps.open_string Tryz.underlying9 (hval 0 9 v0 rfl rfl) h0
 have hb : s.size ≤ 1099511627776 := by
  have h1 := of_decide_eq_true hk
  simp only [List.append_nil, Rows.uptoBulkAll, Rows.uptoBulk] at h1
  have h2 : s.data.toList.length = s.size := Array.length_toList
  omega
 rw [Go.MakeChecks.laidMetH_plain _ _ _ (by kernel_rfl)] at hL
 obtain ⟨k, hf⟩ := Q.quotes_f s hb
 refine (Q.cloisterlaw26_ScriptQuotes.calls k s true W (env_of hL hsh) hf).mono fun e W' ⟨he, bel⟩ => ?_
 subst he
 exact ⟨_, rfl, _, _, _, [], _, [], hW', trodAll_mk1 (shut_bool Tryz.underlying4 _), trodAll_cons_mk (Go.ChangeMaps.shut_string Tryz.underlying9 hs) trodAll_mk0, rfl, bel.frame _, fun h => by cases h⟩
theorem reads (os : Os) {H : Type} (enc : TypeId × Value → H) : ∃ places, DataW.whole enc Tryz.prog ((laidWorld os).forCall (fun _ _ => 0) ⟨#[], args0, []⟩).memory Tryz.f5.params.toList Rows.scriptQuotesSpec.vars false args0.toList 8 = some ([.lit (.string [])], [], places) :=
 ⟨[], by kernel_rfl⟩
set_option maxRecDepth 100000 in
theorem liftedUpto (os : Os) (started : os.Started) (H : Type) (enc : TypeId × Value → H) (F : Stop.Interp) :
 ReturnsInHanded {} Tryz.checked os 5 .any ((Rows.OpenSpec.upto Rows.scriptQuotesSpec).preRow enc Tryz.prog Tryz.f5 Rows.scriptQuotesUptoRow.domain false Rows.scriptQuotesUptoRow.laid) (((Rows.OpenSpec.upto Rows.scriptQuotesSpec).at F).post enc Tryz.prog Tryz.f5 false true false false) := by
 obtain ⟨places, hx⟩ := reads os enc
 refine returnsInHanded_of_row (C := Tryz.checked) (s := Rows.OpenSpec.upto Rows.scriptQuotesSpec) own started (by kernel_rfl) Tryz.func5
  (witness_row_atRef (enc := enc) (C := Tryz.checked) false (laidWorld os) args0 rfl (by kernel_rfl) (by kernel_rfl) (by kernel_rfl)
   (OpenSpec.preRow_of_cond 8 hx (by kernel_rfl) (fun k hk => by cases hk; kernel_rfl) (by kernel_rfl) (laidWorld_metH os _))) ?_
 intro W base args ds gs before hval hW _ hcnd _ hL hsh _
 exact contract H enc W base args ds gs before hval hW (hcnd _ rfl) hL hsh
theorem saidUpto : Rows.ScriptQuotesUptoSaid :=
 OpenClaim.holds_of_cond 5 Tryz.f5 rfl rfl rfl rfl rfl rfl rfl ⟨rfl, rfl, rfl, rfl, rfl⟩ rfl rfl rfl rfl rfl (by kernel_rfl) Tryz.func5 (by kernel_rfl)
  (of_decide_eq_true (by kernel_rfl)) (by unfold Func.isWrapper; first | (rw [if_pos (by decide +kernel)]; kernel_rfl) | (rw [if_neg (by decide +kernel)]; exact ⟨rfl, rfl⟩))
  (fun os started H enc _ F => by rw [OpenClaim.pre_eq_preRow]; exact liftedUpto os started H enc F)
theorem plain (f : FuncId) (fn : Func) (hf : Tryz.pinned.checked.prog.funcNamed "cloister/cloisterlaw26.ScriptQuotes" = some f) (hfn : Tryz.pinned.checked.prog.funcs[f]? = some fn) :
 true = Tryz.pinned.checked.prog.looks [] ∧ ∀ (j : Nat) t, fn.params[j]? = some t → Tryz.pinned.checked.prog.wantsStandIn t = false := by
 obtain rfl : f = 5 := Option.some.inj ((show Tryz.prog.funcNamed "cloister/cloisterlaw26.ScriptQuotes" = some 5 by kernel_rfl).symm.trans hf) |>.symm
 obtain rfl : fn = Tryz.f5 := (Option.some.inj (Tryz.func5.symm.trans hfn)).symm
 refine ⟨by kernel_rfl, fun j t ht => ?_⟩
 rw [Tryz.params5] at ht
 obtain rfl : t = 9 := by simpa using Array.mem_of_getElem? ht
 exact (show Tryz.prog.wantsStandIn 9 = false by kernel_rfl)
theorem cardUpto : Rows.ScriptQuotesUptoCardSaid :=
 Claim7.holds_tied_plain_at .later [] _ _ _ _ saidUpto (fun _ h => by cases h) (by kernel_rfl) (fun _ h => by cases h) scriptQuotesUpto_row_tie rfl ⟨rfl, rfl⟩ (by kernel_rfl) rfl plain (by kernel_rfl)
end Go.Proofs.YtndbbgihpoiojaaGreatDoor.scriptQuotes
