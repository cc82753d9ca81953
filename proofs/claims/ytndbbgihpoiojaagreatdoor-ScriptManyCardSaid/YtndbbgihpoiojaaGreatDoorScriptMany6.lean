/- Script: texts merged, part 6: cut to what the claim uses. -/
import Derived.Test.YtndbbgihpoiojaaGreatDoorScriptMany5
set_option linter.unusedVariables false
set_option linter.unusedSimpArgs false
set_option maxRecDepth 100000
set_option maxHeartbeats 8000000
namespace Go.Proofs.YtndbbgihpoiojaaGreatDoor.Q
open Go.RowKit Go.Proofs.YtndbbgihpoiojaaGreatDoorW.PrintWords Go.Proofs.YtndbbgihpoiojaaGreatDoorW.PrintLast
abbrev ZI : Array Value := #[.int .i64 5, .int .i64 0, .int .i64 0, .int .i64 0, .int .i64 0, .int .i64 0, .string ⟨#[]⟩, .string ⟨#[]⟩, .slice none 0 0, .int .i64 0, .int .i64 0, .slice none 0 0]
theorem pev_idle (W w0 : World) (pb : Nat) (lines : List ByteArray) (h : PInvE W w0 pb lines) (hl : lines.length ≤ 4294967296) :
 Calls Tryz.prog 34 #[.pointer (some ⟨pb, 0, none⟩), .agg #[.int .i64 5, .int .i64 0, .int .i64 0, .int .i64 0, .int .i64 0, .int .i64 0, .string ⟨#[]⟩, .string ⟨#[]⟩, .slice none 0 0, .int .i64 0, .int .i64 0, .slice none 0 0]] w0 fun e w' =>
  e = .returned (.tuple #[]) ∧ PInvE W w' pb (lines ++ [joinB [⟨#[105, 100, 108, 101]⟩] ⟨#[32]⟩]) := by
 have HX := am_ (BInv.new h ZI 52)
 have HL := am_ hl
 clear h hl
 go_enter Tryz.func34, Tryz.ntmps34
 have HA : Aside0 (AInv W w0 ((w0.alloc (.cells ZI 52)).alloc (.cells #[.string ⟨#[105, 100, 108, 101]⟩] 9)) pb w0.heap.size lines 52 ZI (.slice (some ⟨w0.heap.size + 1, 0, none⟩) 1 1) [⟨#[105, 100, 108, 101]⟩]) := am_ (by have h := AInv.start HX.out [⟨#[105, 100, 108, 101]⟩] (by simp) (by simp [maxLen]); rw [World.size_alloc] at h; exact h)
 go_wp2
 clear HX
 generalize (w0.alloc _).alloc _ = wA at HA ⊢
 generalize w0.heap.size + 1 = gA at HA ⊢
 go_loopw [4, 40] (fun vw i wr => ∃ (n c : Nat) (A : Option Addr), i = .int .i64 0 ∧ vw = .slice A n c ∧ AInv W w0 wr pb w0.heap.size lines 52 ZI (.slice A n c) [⟨#[105, 100, 108, 101]⟩]) (fun _ _ _ => 0)
 case atStart => exact ⟨_, _, _, rfl, rfl, HA.out⟩
 case round =>
  clear HA
  obtain ⟨n, c, A, rfl, rfl, hA⟩ := hrel
  have HA := am_ hA
  clear hA
  go_wp2_with fail
  refine (HA.out.line HL.out (by simp) (of_decide_eq_true (by kernel_rfl))).mono ?_
  rintro e w9 ⟨rfl, hP⟩
  go_wp2_with fail
  go_end0
  exact ⟨rfl, hP⟩
theorem print_fx (b0 b3 : Nat) (w : World) (hE : sc.Env w) (h0 : w.heap[b0]? = some (.cells #[.int .u64 1] 68)) (h3 : w.heap[b3]? = some (.cells #[.int .i64 5, .int .i64 0, .int .i64 0, .int .i64 0, .int .i64 0, .int .i64 0, .string ⟨#[]⟩, .string ⟨#[]⟩, .slice none 0 0, .int .i64 0, .int .i64 0, .slice none 0 0] 52)) :
 Calls Tryz.prog 16 #[.agg #[.slice (some ⟨b0, 0, none⟩) 1 1, .slice none 0 0, .slice none 0 0], .slice (some ⟨b3, 0, none⟩) 1 1] w fun e w' =>
  e = .returned (.tuple #[.string ⟨#[108, 97, 98, 101, 108, 32, 49, 10, 105, 100, 108, 101, 10]⟩, .int .i64 0]) ∧ Below w.heap.size w w' := by
 obtain ⟨W, hW⟩ : ∃ W, w.alloc (.cells #[.slice (some ⟨b0, 0, none⟩) 1 1, .slice none 0 0, .slice none 0 0] 26) = W := ⟨_, rfl⟩
 have hWb := b1_ (Below.refl w.heap.size w) (.cells #[.slice (some ⟨b0, 0, none⟩) 1 1, .slice none 0 0, .slice none 0 0] 26)
 have hWx := wld.alloc_same w (.cells #[.slice (some ⟨b0, 0, none⟩) 1 1, .slice none 0 0, .slice none 0 0] 26)
 rw [hW] at hWb hWx
 have HWB := am_ hWb
 have HWX := am_ hWx
 have HWE := am_ (hE.below hWb)
 have H0 := am_ ((hWb.block b0 (blk_lt h0)).trans h0)
 have H3 := am_ ((hWb.block b3 (blk_lt h3)).trans h3)
 clear hE h0 h3 hWb hWx
 go_enter Tryz.func16, Tryz.ntmps16
 go_wp2
 clear hW
 go_loopw [20] (fun i wr => (i = .int .i64 0 ∨ i = .int .i64 1) ∧ Below W.heap.size W wr) (fun i _ => 1 - (intOf i).toNat)
 case atStart => exact ⟨.inl rfl, Below.refl _ _⟩
 case round =>
  obtain ⟨hi, hbr⟩ := hrel
  have hBr := am_ hbr
  clear hbr
  rcases hi with rfl | rfl
  · have HB3 := am_ ((hBr.out.block b3 (blk_lt H3.out)).trans H3.out)
    obtain ⟨e0, e1, e2, e3, e4, e5, e6, e7, e8, e9, e10, e11⟩ := c12_ HB3.out
    have HMC := am_ (fun (W1 : World) => may_j0 5 0 0 0 0 0 ⟨#[]⟩ ⟨#[]⟩ none [] 0 0 0 none 0 0 W1 (by decide) rfl (nilC _ W1) (Nat.le_refl _) rfl rfl)
    go_wp2_with fail
    refine (HMC.out _).mono ?_
    rintro e w2 ⟨rfl, hb2⟩
    have HB2 := am_ (below_step (b1_ hBr.out _) hb2)
    clear hb2
    go_wp2_with fail
    go_roundw
    case rel => exact ⟨.inr (by go_num), HB2.out⟩
    case measure => simp [intOf]
  have hp0 : PInvE W (wr.alloc (.cells #[.slice none 0 0] 80)) wr.heap.size [] := ⟨_, wld.alloc_same _ _, Kd.R_nil _ _ _ _ _, b1_ hBr.out _, hBr.out.size, HWE.out⟩
  have HP := am_ hp0
  have k_0 := cell_lift hp0.bW (wld.cell_of (o := 0) HWX.out rfl)
  clear hp0
  go_wp2_with fail
  clear k_0
  generalize wr.alloc (.cells #[.slice none 0 0] 80) = wp at HP ⊢
  generalize wr.heap.size = pb at HP ⊢
  go_loopw [33] (fun i wl => (i = .int .i64 0 ∧ PInvE W wl pb []) ∨ (i = .int .i64 1 ∧ PInvE W wl pb [joinB [⟨#[108, 97, 98, 101, 108]⟩, utoaB 1] ⟨#[32]⟩])) (fun i _ => 1 - (intOf i).toNat)
  case atStart => exact .inl ⟨rfl, HP.out⟩
  case round =>
   clear HP
   rcases hrel with ⟨rfl, hp_⟩ | ⟨rfl, hp_⟩
   · have HP := am_ hp_
     clear hp_
     have q0 : wr.cell? ⟨b0, 0, none⟩ = some (.int .u64 1) := cell_lift HP.out.bW ((blk_cell H0.out 0).trans rfl)
     go_wp2_with fail
     refine (utoa_c 1 (by decide) (by decide) _ HP.out.env).mono ?_
     rintro e w2 ⟨rfl, hb2⟩
     replace HP := am_ (HP.out.below hb2)
     clear hb2
     go_wp2_with fail
     refine (line_lit W w2 pb _ [⟨#[108, 97, 98, 101, 108]⟩, utoaB 1] HP.out (by simp) (by simp) (by simp) (of_decide_eq_true (by kernel_rfl)) 2 rfl).mono ?_
     rintro e w3 ⟨rfl, hp3⟩
     have HP3 := am_ hp3
     clear hp3
     go_wp2_with fail
     go_roundw
     case rel => exact .inr ⟨by go_num, HP3.out⟩
     case measure => simp [intOf]
   have HP := am_ hp_
   clear hp_
   have k_0 := cell_lift HP.out.bW (wld.cell_of (o := 1) HWX.out rfl)
   go_wp2_with fail
   clear k_0
   go_loopw [46] (fun i wl => i = .int .i64 0 ∧ PInvE W wl pb [joinB [⟨#[108, 97, 98, 101, 108]⟩, utoaB 1] ⟨#[32]⟩]) (fun _ _ => 0)
   case atStart => exact ⟨rfl, HP.out⟩
   case round =>
    clear HP
    obtain ⟨rfl, hp_⟩ := hrel
    have HP := am_ hp_
    clear hp_
    have k_0 := cell_lift HP.out.bW (wld.cell_of (o := 2) HWX.out rfl)
    go_wp2_with fail
    clear k_0
    go_loopw [72] (fun i wl => i = .int .i64 0 ∧ PInvE W wl pb [joinB [⟨#[108, 97, 98, 101, 108]⟩, utoaB 1] ⟨#[32]⟩]) (fun _ _ => 0)
    case atStart => exact ⟨rfl, HP.out⟩
    case round =>
     clear HP
     obtain ⟨rfl, hp_⟩ := hrel
     have HP := am_ hp_
     clear hp_
     go_wp2_with fail
     go_loopw [84] (fun i wl => (i = .int .i64 0 ∧ PInvE W wl pb [joinB [⟨#[108, 97, 98, 101, 108]⟩, utoaB 1] ⟨#[32]⟩]) ∨ (i = .int .i64 1 ∧ PInvE W wl pb [joinB [⟨#[108, 97, 98, 101, 108]⟩, utoaB 1] ⟨#[32]⟩, joinB [⟨#[105, 100, 108, 101]⟩] ⟨#[32]⟩])) (fun i _ => 1 - (intOf i).toNat)
     case atStart => exact .inl ⟨rfl, HP.out⟩
     case round =>
      clear HP
      rcases hrel with ⟨rfl, hp_⟩ | ⟨rfl, hp_⟩
      · have HP := am_ hp_
        clear hp_
        have HB3 := am_ ((HP.out.bW.block b3 (blk_lt H3.out)).trans H3.out)
        obtain ⟨e0, e1, e2, e3, e4, e5, e6, e7, e8, e9, e10, e11⟩ := c12_ HB3.out
        go_wp2_with fail
        refine (pev_idle W _ pb _ (HP.out.alloc _) (by simp)).mono ?_
        rintro e w3 ⟨rfl, hp3⟩
        have HP3 := am_ hp3
        clear hp3
        go_wp2_with fail
        go_roundw
        case rel => exact .inr ⟨by go_num, HP3.out⟩
        case measure => simp [intOf]
      obtain ⟨v, hp⟩ := hp_
      obtain ⟨A, c, rfl, hc, hC⟩ := Kd.R_reads hp.row
      have k_p : wr.cell? ⟨pb, 0, none⟩ = some (.slice A 2 c) := (blk_cell hp.blk 0).trans rfl
      have HP := am_ hp
      have HBF := am_ (HWB.out.trans (hp.bW.mono HWB.out.size))
      have HJ := am_ (strings_Join.calls A c [joinB [⟨#[108, 97, 98, 101, 108]⟩, utoaB 1] ⟨#[32]⟩, joinB [⟨#[105, 100, 108, 101]⟩] ⟨#[32]⟩] ⟨#[10]⟩ ⟨#[108, 97, 98, 101, 108, 32, 49, 10, 105, 100, 108, 101]⟩ wr hC hc (by kernel_rfl))
      clear hC hc hp
      go_wp2_with fail
      refine HJ.out.mono ?_
      rintro e w2 ⟨rfl, hb2⟩
      have k_q : w2.cell? ⟨pb, 0, none⟩ = some (.slice A 2 c) := (hb2.cell (p := ⟨pb, 0, none⟩) (blk_lt HP.out.blk)).trans k_p
      have HB2 := am_ (below_step HBF.out hb2)
      clear hb2 k_p HJ
      go_wp2_with fail
      go_ret2
      exact ⟨rfl, HB2.out⟩
theorem fixed_calls2 (w : World) (hE : sc.Env w) : Calls Tryz.prog 17 #[] w fun e w' => e = .returned (.bool true) ∧ Below w.heap.size w w' := by
 have H1 := parse_calls fx1 w hE (by decide)
 rw [fx1_parse] at H1
 have HP1 := am_ H1
 have HE := am_ hE
 clear H1 hE
 go_enter Tryz.func17, Tryz.ntmps17
 go_wp2_with fail
 refine HP1.out.mono ?_
 rintro e w1 ⟨v0, v1, v2, v3, rfl, ⟨base, hbase, hr⟩, hb⟩
 obtain ⟨A0, c0, rfl⟩ := Kd.R_slice hr.r0
 obtain ⟨A1, c1, rfl⟩ := Kd.R_slice hr.r1
 obtain ⟨A2, c2, rfl⟩ := Kd.R_slice hr.r2
 obtain ⟨g, c, hv3, hcells⟩ := ev_cells hr.r3
 rcases hv3 with rfl | ⟨h, _⟩
 · obtain ⟨A8, c8, A11, c11, hc8, hval, hc11, hstr, hc⟩ := hcells 0 fe1 rfl
   obtain ⟨B8, d8, B11, d11, hd8, hval2, hd11, hstr2, hd⟩ := hcells 1 fe2 rfl
   have q8 := wld.cellA (show w1.cell? ⟨g, 8, none⟩ = some (.slice A8 3 c8) from hc 8 _ rfl) (.cells #[.slice A0 1 c0, .slice A1 0 c1, .slice A2 1 c2] 26)
   have q23 := wld.cellA (show w1.cell? ⟨g, 23, none⟩ = some (.slice B11 2 d11) from hd 11 _ rfl) (.cells #[.slice A0 1 c0, .slice A1 0 c1, .slice A2 1 c2] 26)
   have HB := am_ hb
   have HV := am_ hval
   clear hb hval hval2 hstr hstr2 hc hd hcells hr HP1 hbase hc8 hd8 hc11 hd11
   have hcv : Sem.run Tryz.prog (convert 38 9 (.slice A8 3 c8)) (w1.alloc (.cells #[.slice A0 1 c0, .slice A1 0 c1, .slice A2 1 c2] 26)) = .ok (.string ⟨#[118, 32, 119]⟩) (w1.alloc (.cells #[.slice A0 1 c0, .slice A1 0 c1, .slice A2 1 c2] 26)) := Kd.C_string (P := Tryz.prog) (A := A8) (c := c8) Tryz.underlying38 Tryz.underlying5 Tryz.underlying9 (Kd.C_below HV.out (b1_ (Below.refl w1.heap.size w1) (.cells #[.slice A0 1 c0, .slice A1 0 c1, .slice A2 1 c2] 26)))
   go_wp2_with fail
   have HB2 := am_ (b1_ HB.out (.cells #[.slice A0 1 c0, .slice A1 0 c1, .slice A2 1 c2] 26))
   clear q8 q23 hcv HV
   generalize w1.alloc _ = wa at HB2 ⊢
   have H2 := parse_calls fx2 wa (HE.out.below HB2.out) (by decide)
   rw [fx2_parse] at H2
   refine H2.mono ?_
   clear H2
   rintro e w2 ⟨u0, u1, u2, u3, rfl, _, hb2⟩
   replace HB2 := am_ (below_step HB2.out hb2)
   clear hb2
   have HB3 := am_ (b1_ (b1_ HB2.out (.cells #[.int .u64 1] 68)) (.cells #[.int .i64 5, .int .i64 0, .int .i64 0, .int .i64 0, .int .i64 0, .int .i64 0, .string ⟨#[]⟩, .string ⟨#[]⟩, .slice none 0 0, .int .i64 0, .int .i64 0, .slice none 0 0] 52))
   have hx1 : ((w2.alloc (.cells #[.int .u64 1] 68)).alloc (.cells #[.int .i64 5, .int .i64 0, .int .i64 0, .int .i64 0, .int .i64 0, .int .i64 0, .string ⟨#[]⟩, .string ⟨#[]⟩, .slice none 0 0, .int .i64 0, .int .i64 0, .slice none 0 0] 52)).heap[w2.heap.size]? = some (.cells #[.int .u64 1] 68) := (wld.alloc_other (by simp) _).trans (wld.alloc_same _ _)
   have hx2 : ((w2.alloc (.cells #[.int .u64 1] 68)).alloc (.cells #[.int .i64 5, .int .i64 0, .int .i64 0, .int .i64 0, .int .i64 0, .int .i64 0, .string ⟨#[]⟩, .string ⟨#[]⟩, .slice none 0 0, .int .i64 0, .int .i64 0, .slice none 0 0] 52)).heap[w2.heap.size + 1]? = some (.cells #[.int .i64 5, .int .i64 0, .int .i64 0, .int .i64 0, .int .i64 0, .int .i64 0, .string ⟨#[]⟩, .string ⟨#[]⟩, .slice none 0 0, .int .i64 0, .int .i64 0, .slice none 0 0] 52) := by
    have h := wld.alloc_same (w2.alloc (.cells #[.int .u64 1] 68)) (.cells #[.int .i64 5, .int .i64 0, .int .i64 0, .int .i64 0, .int .i64 0, .int .i64 0, .string ⟨#[]⟩, .string ⟨#[]⟩, .slice none 0 0, .int .i64 0, .int .i64 0, .slice none 0 0] 52)
    rw [World.size_alloc] at h
    exact h
   have HPR := am_ (print_fx w2.heap.size (w2.heap.size + 1) _ (HE.out.below HB3.out) hx1 hx2)
   clear hx1 hx2
   go_wp2_with fail
   refine HPR.out.mono ?_
   rintro e w3 ⟨rfl, hb3⟩
   have HB4 := am_ (below_step HB3.out hb3)
   have HQ := am_ (quoteB_c ⟨#[97, 32, 98]⟩ (by decide) w3 (HE.out.below HB4.out))
   rw [fx_quote] at HQ
   clear hb3
   go_wp2_with fail
   refine HQ.out.mono ?_
   rintro e w4 ⟨rfl, hb4⟩
   have HB5 := am_ (below_step HB4.out hb4)
   have HT := am_ (tell_fx w4 (HE.out.below HB5.out))
   clear hb4
   go_wp2_with fail
   refine HT.out.mono ?_
   rintro e w5 ⟨rfl, hb5⟩
   go_wp2_with fail
   go_ret
   exact ⟨rfl, below_step HB5.out hb5⟩
 cases h
end Go.Proofs.YtndbbgihpoiojaaGreatDoor.Q
namespace Go.Proofs.YtndbbgihpoiojaaGreatDoor.Q
open Go.RowKit Go.Proofs.YtndbbgihpoiojaaGreatDoorW.PrintWords Go.Proofs.YtndbbgihpoiojaaGreatDoorW.PrintLast
open Go.Proofs.YtndbbgihpoiojaaGreatDoor.it
theorem rparse_bad (t : ByteArray) (w : World) (ht : t.size ≤ 8796093022000) (h : 65536 < t.size ∨ 65536 ≥ t.size ∧ 4096 < (linesT t).length) : Calls Tryz.prog 23 #[.string t] w fun e w' => ParseOut w w' ((0, 3), none) e := by
 have HR0 := am_ (fun W => cloisterref26_Lines.calls (t.size + 1) t _ W (rlines_f t (by omega)))
 generalize linesT t = L at *
 go_enter Tryz.func23, Tryz.ntmps23
 go_wp2_with fail
 obtain ⟨W, hW⟩ : ∃ W, w.alloc (.cells nil3 26) = W := ⟨_, rfl⟩
 have hWx := wld.alloc_same w (.cells nil3 26)
 have hWb := b1_ (Below.refl w.heap.size w) (.cells nil3 26)
 have hWs : W.heap.size = w.heap.size + 1 := by rw [← hW]; simp
 rw [hW] at hWx hWb ⊢
 have HWX := am_ hWx
 have HWB := am_ hWb
 have HWS0 := am_ hWs
 clear hWx hWb hWs hW
 refine (HR0.out W).mono ?_
 rintro e w1 ⟨v, rfl, hr, hb⟩
 obtain ⟨A, c_, rfl, hc⟩ := Kd.R_reads hr
 have hrb := (hb.block w.heap.size (by have := HWS0.out; omega)).trans HWX.out
 have HBF := am_ (HWB.out.trans (hb.mono HWB.out.size))
 have hr0 := wld.cell_of (o := 0) (v := .slice none 0 0) hrb rfl
 have hr1 := wld.cell_of (o := 1) (v := .slice none 0 0) hrb rfl
 have hr2 := wld.cell_of (o := 2) (v := .slice none 0 0) hrb rfl
 have hf0 := wld.free_of (o := 0) hrb
 have hf1 := wld.free_of (o := 1) hrb
 have hf2 := wld.free_of (o := 2) hrb
 clear hrb hb hr hc HR0
 rcases h with h | ⟨h1, h2⟩
 · go_wp2_with fail
   (try rw [Exit.noGoto_ret])
   refine bodyPost_ret (v := .tuple #[.agg nil3, .slice none 0 0, .int .i64 0, .int .i64 3]) (by simp [results, Tryz.results23, go_sem, hr0, hr1, hr2]) rfl ?_
   exact ⟨_, _, _, _, rfl, ⟨_, Nat.le_refl _, Rows4.nil _ _⟩, below3 HBF.out (Nat.le_refl _) _ _ _⟩
 have h3 : ¬ t.size > 65536 := by omega
 have h4 : L.length > 4096 := h2
 clear h1 h2
 go_wp2_with fail
 (try rw [Exit.noGoto_ret])
 refine bodyPost_ret (v := .tuple #[.agg nil3, .slice none 0 0, .int .i64 0, .int .i64 3]) (by simp [results, Tryz.results23, go_sem, hr0, hr1, hr2]) rfl ?_
 exact ⟨_, _, _, _, rfl, ⟨_, Nat.le_refl _, Rows4.nil _ _⟩, below3 HBF.out (Nat.le_refl _) _ _ _⟩
theorem rparse_calls (t : ByteArray) (w : World) (hE : sc.Env w) (ht : t.size ≤ 8796093022000) : Calls Tryz.prog 23 #[.string t] w fun e w' => ParseOut w w' (parseS t) e := by
 unfold parseS
 split
 · rename_i h; exact rparse_bad t w ht (.inl h)
 rename_i h
 split
 · rename_i h2; exact rparse_bad t w ht (.inr ⟨by omega, h2⟩)
 rename_i h2; exact rparse_main t w hE (by omega) (by omega)
theorem reads_calls (t : ByteArray) (w : World) (hE : sc.Env w) (ht : t.size ≤ 8796093022000) : Calls Tryz.prog 7 #[.string t] w fun e w' => e = .returned (.bool true) ∧ Below w.heap.size w w' := by
 have HE := am_ hE
 have HR := am_ (rparse_calls t w hE ht)
 have HPA := am_ (fun W hW => parse_calls t W hW (by omega))
 clear hE ht
 generalize parseS t = p_ at HR HPA
 obtain ⟨⟨n, cd⟩, o⟩ := p_
 obtain ⟨l0, l1, l2, evs, ho⟩ : ∃ a b c d, o.getD S0_ = (a, b, c, d) := ⟨_, _, _, _, rfl⟩
 have HO := am_ ho
 clear ho
 go_enter Tryz.func7, Tryz.ntmps7
 go_wp2_with fail
 refine HR.out.mono ?_
 rintro e w1 ⟨v0, v1, v2, v3, rfl, ⟨base, hbase, hr⟩, hb1⟩
 rw [show (((n, cd), o) : (Int × Int) × Option Stt).2.getD S0_ = _ from HO.out] at hr
 obtain ⟨A0, c0, A1, c1, A2, c2, A3, c3, rfl, rfl, rfl, rfl, k0, k1, k2, k3⟩ := rows_C4 hr
 obtain ⟨W, hW⟩ : ∃ W, w1.alloc (.cells #[.slice A0 l0.length c0, .slice A1 l1.length c1, .slice A2 l2.length c2] 26) = W := ⟨_, rfl⟩
 have hb2 : Below w1.heap.size w1 W := by rw [← hW]; exact b1_ (Below.refl _ _) _
 have X := am_ (show W.heap[w1.heap.size]? = some (.cells #[.slice A0 l0.length c0, .slice A1 l1.length c1, .slice A2 l2.length c2] 26) by rw [← hW]; exact wld.alloc_same _ _)
 have HB := am_ (below_step hb1 hb2)
 have K0 := am_ (Kd.C_below k0 hb2)
 have K1 := am_ (Kd.C_below k1 hb2)
 have K2 := am_ (Kd.C_below k2 hb2)
 have K3 := am_ (Kd.C_below k3 hb2)
 have HW := am_ hW
 clear hr hb1 hb2 hbase k0 k1 k2 k3 hW HR
 go_upto_region 2 with (fail)
 rw [HW.out]
 go_wp2_with fail
 refine (HPA.out W (HE.out.below HB.out)).mono ?_
 rintro e w4 ⟨v0, v1, v2, v3, rfl, ⟨base, hbase, hr⟩, hb4⟩
 rw [show (((n, cd), o) : (Int × Int) × Option Stt).2.getD S0_ = _ from HO.out] at hr
 obtain ⟨B0, d0, B1, d1, B2, d2, B3, d3, rfl, rfl, rfl, rfl, g0, g1, g2, g3⟩ := rows_C4 hr
 obtain ⟨W5, hW5⟩ : ∃ W5, w4.alloc (.cells #[.slice B0 l0.length d0, .slice B1 l1.length d1, .slice B2 l2.length d2] 26) = W5 := ⟨_, rfl⟩
 have hb5 : Below w4.heap.size w4 W5 := by rw [← hW5]; exact b1_ (Below.refl _ _) _
 have hb6 := below_step hb4 hb5
 have Y := am_ (show W5.heap[w4.heap.size]? = some (.cells #[.slice B0 l0.length d0, .slice B1 l1.length d1, .slice B2 l2.length d2] 26) by rw [← hW5]; exact wld.alloc_same _ _)
 replace X := am_ ((hb6.block _ (blk_lt X.out)).trans X.out)
 replace HB := am_ (below_step HB.out hb6)
 replace K0 := am_ (Kd.C_below K0.out hb6)
 replace K1 := am_ (Kd.C_below K1.out hb6)
 replace K2 := am_ (Kd.C_below K2.out hb6)
 replace K3 := am_ (Kd.C_below K3.out hb6)
 have G0 := am_ (Kd.C_below g0 hb5)
 have G1 := am_ (Kd.C_below g1 hb5)
 have G2 := am_ (Kd.C_below g2 hb5)
 have G3 := am_ (Kd.C_below g3 hb5)
 have HW5 := am_ hW5
 clear hr hb4 hb5 hb6 hbase g0 g1 g2 g3 hW5 HPA
 go_upto_region 3 with (fail)
 rw [HW5.out]
 have x0 := wld.cell_of (o := 0) (v := .slice A0 l0.length c0) X.out rfl
 have x1 := wld.cell_of (o := 1) (v := .slice A1 l1.length c1) X.out rfl
 have x2 := wld.cell_of (o := 2) (v := .slice A2 l2.length c2) X.out rfl
 have y0 := wld.cell_of (o := 0) (v := .slice B0 l0.length d0) Y.out rfl
 have y1 := wld.cell_of (o := 1) (v := .slice B1 l1.length d1) Y.out rfl
 have y2 := wld.cell_of (o := 2) (v := .slice B2 l2.length d2) Y.out rfl
 go_wp2_with fail
 refine (cfg_same B0 B1 B2 A0 A1 A2 d0 d1 d2 c0 c1 c2 l0 l1 l2 W5 G0.out G1.out G2.out K0.out K1.out K2.out).mono ?_
 rintro e w6 ⟨rfl, hb6⟩
 clear x0 x1 x2 y0 y1 y2
 replace HB := am_ (below_step HB.out hb6)
 replace G3 := am_ (Kd.C_below G3.out hb6)
 replace K3 := am_ (Kd.C_below K3.out hb6)
 clear hb6 X Y HW5 HW G0 G1 G2 K0 K1 K2
 go_wp2_with fail
 refine (evs_same B3 A3 d3 c3 evs w6 G3.out K3.out).mono ?_
 rintro e w7 ⟨rfl, hb7⟩
 replace HB := am_ (below_step HB.out hb7)
 clear hb7 G3 K3
 go_wp2_with fail
 refine (fixed_calls2 w7 (HE.out.below HB.out)).mono ?_
 rintro e w8 ⟨rfl, hb8⟩
 replace HB := am_ (below_step HB.out hb8)
 clear hb8
 go_wp2_with fail
 go_ret
 exact ⟨rfl, HB.out⟩
end Go.Proofs.YtndbbgihpoiojaaGreatDoor.Q
namespace Go.Proofs.YtndbbgihpoiojaaGreatDoor.Q
open Go.RowKit Go.Proofs.YtndbbgihpoiojaaGreatDoorW.PrintWords Go.Proofs.YtndbbgihpoiojaaGreatDoorW.PrintLast
theorem strOf_many (l : List Int) : (strOfNums l).size = l.length := by
 unfold strOfNums
 simp [ByteArray.size]
theorem many_calls (l : ByteArray) (n : Int) (w : World) (hE : sc.Env w) (hi : n ≤ 9223372036854775807) : Calls Tryz.prog 8 #[.string l, .int .i64 n] w fun e w' => e = .returned (.bool true) ∧ Below w.heap.size w w' := by
 have HF := am_ (fixed_calls2 w hE)
 have HE := am_ hE
 clear hE
 by_cases h1 : n < 0
 · go_enter Tryz.func8, Tryz.ntmps8
   go_wp2_with fail
   refine HF.out.mono ?_
   rintro e w1 ⟨rfl, hb⟩
   go_wp2_with fail
   go_ret
   exact ⟨rfl, hb⟩
 by_cases h2 : n > 70000
 · go_enter Tryz.func8, Tryz.ntmps8
   go_wp2_with fail
   refine HF.out.mono ?_
   rintro e w1 ⟨rfl, hb⟩
   go_wp2_with fail
   go_ret
   exact ⟨rfl, hb⟩
 by_cases h3 : (l.size : Int) > 100
 · go_enter Tryz.func8, Tryz.ntmps8
   go_wp2_with fail
   refine HF.out.mono ?_
   rintro e w1 ⟨rfl, hb⟩
   go_wp2_with fail
   go_ret
   exact ⟨rfl, hb⟩
 obtain ⟨m, rfl⟩ : ∃ m : Nat, n = m := ⟨n.toNat, by omega⟩
 have hm : m ≤ 70000 := by omega
 have hl : l.size ≤ 100 := by omega
 have HM := am_ hm
 have HL := am_ hl
 have hle : ∀ k, k ≤ m → k * (l.size + 1) ≤ 7070000 := fun k hk => by
  have := Nat.mul_le_mul (Nat.le_trans hk hm) (show l.size + 1 ≤ 101 by omega)
  omega
 have HLE := am_ hle
 obtain ⟨tot, htot⟩ : ∃ tot, m * (l.size + 1) = tot := ⟨_, rfl⟩
 have hti : (m : Int) * ((l.size : Int) + 1) = (tot : Int) := by rw [← htot]; simp
 have htl : tot ≤ 7070000 := by have := hle m (Nat.le_refl _); omega
 have HTL := am_ htl
 clear hle hm hl
 go_enter Tryz.func8, Tryz.ntmps8
 obtain ⟨i0, hi0, hz0, hz1, hz2⟩ := info_parts info5
 obtain ⟨wM, hmk, ho, hg⟩ := run_makeSlice_owned (P := Tryz.prog) w w.heap.size 38 5 i0 (.int .u8 0) 1 Tryz.underlying38 hi0 hz0 hz1 .i64 .i64 tot (by omega) (by rw [hz2]; omega) (by unfold maxLen; omega) (Nat.le_refl _)
 have HOUT := am_ (show Kd.R (Kd.int .u8) 5 wM w.heap.size (fun _ => True) (.slice (some ⟨w.heap.size, 0, none⟩) 0 tot) ([] : List Int) from Kd.R_of_own (enc := fun x : Int => Value.int .u8 x) (h1 := fun _ => rfl) (ok := fun _ => True) ho (fun _ _ => trivial))
 have HB := am_ ((Below.refl w.heap.size w).grown hg (Nat.le_refl _) (fun k e => by cases e))
 clear ho hg hi0 hz0 hz1 hz2
 have hmu0 : wrap64 ((l.size : Int) + 1) = (l.size : Int) + 1 := by unfold wrap64; omega
 have hmul : wrap64 ((m : Int) * ((l.size : Int) + 1)) = (tot : Int) := by rw [hti]; unfold wrap64; omega
 have hmu2 : wrap64 (tot : Int) = (tot : Int) := by unfold wrap64; omega
 clear htl htot
 go_upto_region 3 with (fail)
 clear h1 h2 h3
 go_wp2_with fail
 clear hmk hmul hmu0 hmu2 hti
 go_loopw [5, 25] (fun o i wl => ∃ (k n c1 : Nat) (B : Option Addr) (xs : List Int), k ≤ m ∧ xs.length = k * (l.size + 1) ∧ i = .int .i64 k ∧ o = .slice B n c1 ∧ Kd.R (Kd.int .u8) 5 wl w.heap.size (fun _ => True) (.slice B n c1) xs ∧ Below w.heap.size w wl) (fun _ i _ => m - (intOf i).toNat)
 case atStart => exact ⟨0, _, _, _, [], Nat.zero_le _, by simp, rfl, rfl, HOUT.out, HB.out⟩
 case round =>
  clear HOUT HB
  obtain ⟨k, n, c1, B, xs, hk, hxs, rfl, rfl, ho, hb⟩ := hrel
  have HO := am_ ho
  have HB := am_ hb
  have HX := am_ hxs
  clear ho hb hxs
  by_cases hlt : k < m
  · have HB1 := am_ (show xs.length + l.size + 1 = (k + 1) * (l.size + 1) by rw [HX.out, Nat.succ_mul]; omega)
    have HB2 := am_ (show xs.length + l.size + 1 ≤ 7070000 by have h1 := HB1.out; have h2 := HLE.out (k + 1) hlt; omega)
    go_wp2_with (first | (at_builtin; refine print_append_str (w0 := w) w.heap.size rfl (.tmp 27) (.tmp 28) 38 9 5 rfl Tryz.underlying38 Tryz.underlying9 info5 (.slice B n c1) xs l rfl rfl ?aO ?aB ?aS ?aL ?_; (case aB => exact HB.out); (case aO => exact Kd.own_of_R HO.out); (case aS => exact HB.out.size); (case aL => have := HB2.out; omega); intro v1 w1 ho1 hb1 hg1; replace HO := am_ (Kd.R_of_own (enc := fun x : Int => Value.int .u8 x) (h1 := fun _ => rfl) (ok := fun _ => True) ho1 (fun _ _ => trivial)); change Aside0 (Kd.R (Kd.int .u8) 5 w1 w.heap.size (fun _ => True) v1 (xs ++ bytesOf l)) at HO; replace HB := am_ hb1; clear ho1 hg1 hb1) | (at_builtin; refine Kd.R_append (Kd.int .u8) (w0 := w) w.heap.size rfl (.tmp 29) (.tmp 30) 38 5 (.int .u8 0) 1 rfl Tryz.underlying38 info5 rfl (by decide) (by omega) v1 (xs ++ bytesOf l) 10 [.int .u8 10] (fun _ => True) (fun _ => False) rfl rfl ?aP (fun _ hk => hk.elim) ?aF ?aO ?aB ?aS ?aL ?_; (case aP => exact rfl); (case aB => exact HB.out); (case aF => exact (fun _ _ => trivial)); (case aO => exact HO.out); (case aS => exact HB.out.size); (case aL => have := HB2.out; simp only [List.length_append, bytesOf_length]; omega); intro v2 w2 ho2 hb2 hg2 hat2; replace HO := am_ ho2; replace HB := am_ hb2; clear ho2 hg2 hb2 hat2))
    obtain ⟨B2, n2, c2, rfl⟩ := R_sliceM HO.out
    go_roundw
    case rel => exact ⟨k + 1, _, _, _, _, hlt, by rw [← HB1.out]; simp [bytesOf_length]; omega, by go_num, rfl, HO.out, HB.out⟩
    case measure => simp [intOf]; omega
  have hkn : k = m := by omega
  subst hkn
  have hcv := own_string (P := Tryz.prog) Tryz.underlying38 Tryz.underlying5 Tryz.underlying9 (Kd.own_of_R HO.out)
  have HSZ := am_ (show (strOfNums xs).size ≤ 8796093022000 by rw [strOf_many, HX.out]; have := HLE.out k (Nat.le_refl _); omega)
  have HR := am_ (reads_calls (strOfNums xs) wr (HE.out.below HB.out) HSZ.out)
  go_wp2_with fail
  refine HR.out.mono ?_
  rintro e w3 ⟨rfl, hb3⟩
  go_wp2_with fail
  go_ret
  exact ⟨rfl, below_step HB.out hb3⟩
end Go.Proofs.YtndbbgihpoiojaaGreatDoor.Q
