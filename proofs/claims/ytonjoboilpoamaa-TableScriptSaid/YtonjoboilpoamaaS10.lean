/- TableScript: the whole walk. -/
import Derived.Test.YtonjoboilpoamaaS9b
namespace Go.Proofs.Ytonjoboilpoamaa.scr
set_option linter.unusedVariables false
set_option linter.unusedSimpArgs false
open Go.RowKit Go.Proofs.Ytonjoboilpoamaa.tab Go.Proofs.Ytonjoboilpoamaa.imap Go.Proofs.Ytonjoboilpoamaa.PTableScript Go.Proofs.Ytonjoboilpoamaa.holds

theorem SInv.start {w w1 : World} (hb1 : Below w.heap.size w w1) : SInv w w1.heap.size (w1.heap.size + 1) 0 (fun _ => none) (fun _ => ⟨false, 0, 0, []⟩) (fun _ => .slice none 0 0)
    ((w1.alloc (.cells #[.pointer none, .pointer none, .pointer none] 55)).alloc (.cells #[.bool false, .int .i64 0, .int .i64 0, .slice none 0 0, .bool false, .int .i64 0, .int .i64 0, .slice none 0 0, .bool false, .int .i64 0, .int .i64 0, .slice none 0 0] 59)) := by
  have z1 : (w1.alloc (.cells #[.pointer none, .pointer none, .pointer none] 55)).heap.size = w1.heap.size + 1 := by simp
  have no : ∀ b, ¬ own none (.slice none 0 0) b := fun b h => h.elim (fun h => h) (fun h => by simp [Value.ownBlock] at h)
  refine ⟨fun i _ => At.nil _ _ _, fun i j _ _ _ b h => absurd h (no b), fun i _ b h => absurd h (no b), ?_, ?_, ?_, ?_, ?_, ?_, ?_, ?_, hb1.size, by have := hb1.size; omega, by omega⟩
  · intro i hi
    rcases lt3 hi with rfl | rfl | rfl
    · exact wld.cellA (wld.cellN rfl rfl) _
    · exact wld.cellA (wld.cellN rfl rfl) _
    · exact wld.cellA (wld.cellN rfl rfl) _
  · intro i hi
    rcases lt3 hi with rfl | rfl | rfl <;> exact wld.cellN z1 rfl
  · intro i hi
    rcases lt3 hi with rfl | rfl | rfl <;> exact wld.cellN z1 rfl
  · intro i hi
    rcases lt3 hi with rfl | rfl | rfl <;> exact wld.cellN z1 rfl
  · intro i hi
    rcases lt3 hi with rfl | rfl | rfl <;> exact wld.cellN z1 rfl
  · intro i
    exact freeA (wld.freeN rfl) (by simp) _
  · intro i
    exact wld.freeN z1
  · exact (hb1.alloc hb1.size _).alloc (by rw [z1]; have := hb1.size; omega) _

theorem newDoc_l {oa ob : Int} {d : Doc} {c : Int} (h : newDoc oa ob = (d, c)) : d.l = [] ∧ 0 ≤ d.L ∧ d.L ≤ 4611686018427387904 := by
  unfold newDoc at h
  split at h
  · simp only [Prod.mk.injEq] at h; obtain ⟨rfl, _⟩ := h; simp
  · simp only [Prod.mk.injEq] at h; obtain ⟨rfl, _⟩ := h; simp; omega

theorem Tied.two {t : Tp} {d : Doc} (h : Tied t d) : (tp t = .pointer none ∧ d.there = false) ∨ ∃ tb, tp t = .pointer (some ⟨tb, 0, none⟩) ∧ d.there = true := by
  cases t with
  | none => exact .inl ⟨rfl, h.1⟩
  | some z => exact .inr ⟨z.1, rfl, h.1⟩

attribute [local go_sem ↓] Go.wp_at_zero Go.wp_at_succ
set_option maxRecDepth 100000 in
set_option maxHeartbeats 8000000 in
theorem script_walk (A : Option Addr) (cap : Nat) (ops : List Op5) (w : World) (hS : Script w A ops) (hlen : ops.length * 40 ≤ 140737488351232) :
    Calls Try.prog 8 #[.slice A ops.length cap] w fun e w' => e = .returned (.bool true) ∧ Below w.heap.size w w' := by
  have HH := Lib.hid (head_yes w)
  go_enter Try.func8, Try.ntmps8
  go_wp2_with fail
  refine HH.out.mono ?_
  rintro e w1 ⟨rfl, hb1⟩
  have HB1 := Lib.hid hb1
  have HSc := Lib.hid hS
  clear HH hS hb1
  go_wp2_with fail
  generalize hL : ops.length = L at *
  go_loopw [21] (fun i wr => ∃ k : Nat, k ≤ L ∧ i = .int .i64 k ∧ ∃ t d v, SInv w w1.heap.size (w1.heap.size + 1) k t d v wr) (fun i _ => L - (intOf i).toNat)
  case atStart => exact ⟨0, Nat.zero_le _, rfl, fun _ => none, fun _ => ⟨false, 0, 0, []⟩, fun _ => .slice none 0 0, SInv.start HB1.out⟩
  case round =>
    obtain ⟨k, hk, rfl, t, d, v, hI⟩ := hrel
    by_cases hlt : k < L
    · have hlt' : k < ops.length := by rw [hL]; exact hlt
      obtain ⟨b, off, rfl, c0, c1, c2, c3, c4⟩ := HSc.out k hlt'
      have hbb : b < w.heap.size := World.block_lt_of_cell? w _ c0
      have d0 := (hI.below.cell (p := ⟨b, off + k * 5, none⟩) hbb).trans c0
      have d1 := (hI.below.cell (p := ⟨b, off + k * 5 + 1, none⟩) hbb).trans c1
      have d2 := (hI.below.cell (p := ⟨b, off + k * 5 + 2, none⟩) hbb).trans c2
      have d3 := (hI.below.cell (p := ⟨b, off + k * 5 + 3, none⟩) hbb).trans c3
      have d4 := (hI.below.cell (p := ⟨b, off + k * 5 + 4, none⟩) hbb).trans c4
      clear c0 c1 c2 c3 c4
      generalize (ops[k]).kind = kind at *
      generalize (ops[k]).who = who at *
      generalize (ops[k]).ses = se at *
      generalize (ops[k]).a = oa at *
      generalize (ops[k]).b = ob at *
      have HI := Lib.hid hI
      have HL := Lib.hid hL
      have kbig : k < 4398046511104 := by omega
      have KB := Lib.hid kbig
      clear hI hL hlt' kbig
      obtain ⟨wo, rfl⟩ : ∃ wo : World, wo = wr := ⟨_, rfl⟩
      have HX := Lib.hid (Box.start wo kind who se oa ob)
      have KX := Lib.hid ((wld.Kept.refl (fun _ => False) wo).alloc (.cells #[.int .i64 kind, .int .i64 who, .int .i64 se, .int .i64 oa, .int .i64 ob] 45))
      have lh := HI.out.lth
      have lw := HI.out.ltw
      by_cases k0 : kind = 0
      · subst k0
        have HR := Lib.hid (fun (W : World) (hW : Below w.heap.size w W) => r_new oa ob w W hW)
        have HN := Lib.hid (t_new oa ob)
        generalize hnd : newDoc oa ob = nd at *
        obtain ⟨d', code⟩ := nd
        simp only [docV] at HR
        have HND := Lib.hid (newDoc_l hnd)
        clear hnd
        by_cases hw : 0 ≤ who ∧ who < 3
        · obtain ⟨hw0, hw3⟩ := hw
          obtain ⟨n, rfl⟩ := Int.eq_ofNat_of_zero_le hw0
          have hn : n < 3 := by omega
          have e0 := HI.out.here n hn
          have f0 := HI.out.c0 n hn
          have f1 := HI.out.c1 n hn
          have f2 := HI.out.c2 n hn
          have f3 := HI.out.c3 n hn
          have fh := HI.out.fh n
          have g0 := HI.out.fw (n * 4)
          have g1 := HI.out.fw (n * 4 + 1)
          have g2 := HI.out.fw (n * 4 + 2)
          have g3 := HI.out.fw (n * 4 + 3)
          go_wp2_with fail
          refine (HN.out _).mono ?_
          rintro e w2 ⟨t', rfl, hS2, hT2, hf2, hb2⟩
          have K2 := Lib.hid (KX.out.then (wld.Kept.of_below hb2 (fun _ => False)) (fun _ _ h => h))
          have B2 : Below w.heap.size w w2 := HI.out.below.trans (K2.out.to_below (fun _ _ h => h) HI.out.below.size)
          obtain ⟨o0, o1, o2, o3, o4, lx⟩ := HX.out.kept (wld.Kept.of_below hb2 (fun _ => False)) (fun h => h)
          have HS2 := Lib.hid hS2
          have HT2 := Lib.hid hT2
          have HF2 := Lib.hid hf2
          clear hS2 hT2 hf2 hb2 d0 d1 d2 d3 d4
          go_wp2_with fail
          refine (HR.out w2 B2).mono ?_
          rintro e w3 ⟨v', rfl, hr3, ho3, hb3⟩
          have K3 := Lib.hid (K2.out.then (wld.Kept.of_below hb3 (fun _ => False)) (fun _ _ h => h))
          obtain ⟨o0, o1, o2, o3, o4, lx⟩ := (Box.mk o0 o1 o2 o3 o4 lx).kept (wld.Kept.of_below hb3 (fun _ => False)) (fun h => h)
          have HS3 := Lib.hid (HS2.out.kept (wld.Kept.of_below hb3 (fun _ => False)) (fun _ _ h => h))
          obtain ⟨A', c', rfl, hc', _⟩ := hr3.shape
          have HR3 := Lib.hid hr3
          have HO3 := Lib.hid ho3
          clear hr3 ho3 hb3 B2 hc'
          replace e0 := K3.out.cell e0 (fun h => h)
          replace f0 := K3.out.cell f0 (fun h => h)
          replace f1 := K3.out.cell f1 (fun h => h)
          replace f2 := K3.out.cell f2 (fun h => h)
          replace f3 := K3.out.cell f3 (fun h => h)
          replace fh := K3.out.free fh lh (fun h => h)
          replace g0 := K3.out.free g0 lw (fun h => h)
          replace g1 := K3.out.free g1 lw (fun h => h)
          replace g2 := K3.out.free g2 lw (fun h => h)
          replace g3 := K3.out.free g3 lw (fun h => h)
          have n1 : ¬ wo.heap.size = w1.heap.size := by omega
          have n2 : ¬ wo.heap.size = w1.heap.size + 1 := by omega
          replace lh := Nat.lt_of_lt_of_le lh K3.out.size
          replace lw := Nat.lt_of_lt_of_le lw K3.out.size
          have HA3 : At w w3 t' d' (.slice A' d'.l.length c') (k + 1) := ⟨HS3.out, HT2.out, HR3.out, fun b hb => Nat.le_trans HI.out.below.size (Nat.le_trans (Nat.le_of_lt_succ (by simp; omega)) (HF2.out b hb)), by rw [HND.out.1]; simp, HND.out.2.1, by have := HND.out.2.2; push_cast; omega⟩
          have HIN := Lib.hid (HI.out.renewed n hn K3.out HA3 (fun b hb => by
            have h1 := KX.out.size
            have h2 := K2.out.size
            rcases hb with hb | hb
            · have := HF2.out b hb; have := KX.out.size; omega
            · have := HO3.out b hb; omega))
          clear HA3 HN HR HF2 HS2 HO3 HR3
          have hq := HT2.out.two
          clear HT2
          generalize tp t' = tv at *
          rcases hq with ⟨rfl, hth⟩ | ⟨tb, rfl, hth⟩
          all_goals
            rw [hth] at HIN ⊢
            go_wp2_with fail
            go_roundw
            case rel => exact ⟨k + 1, by omega, by go_num, _, _, _, HIN.out.kept ((wld.Kept.refl (fun _ => False) _).alloc _) (Nat.le_refl _)⟩
            case measure => simp [intOf]; omega
        · by_cases hw0 : 0 ≤ who
          · have hw3 : ¬ who < 3 := fun h => hw ⟨hw0, h⟩
            clear hw
            go_wp2_with fail
            refine (HN.out _).mono ?_
            rintro e w2 ⟨t', rfl, hS2, hT2, hf2, hb2⟩
            have K2 := Lib.hid (KX.out.then (wld.Kept.of_below hb2 (fun _ => False)) (fun _ _ h => h))
            have B2 : Below w.heap.size w w2 := HI.out.below.trans (K2.out.to_below (fun _ _ h => h) HI.out.below.size)
            obtain ⟨o0, o1, o2, o3, o4, lx⟩ := HX.out.kept (wld.Kept.of_below hb2 (fun _ => False)) (fun h => h)
            have HS2 := Lib.hid hS2
            have HT2 := Lib.hid hT2
            have HF2 := Lib.hid hf2
            clear hS2 hT2 hf2 hb2 d0 d1 d2 d3 d4
            go_wp2_with fail
            refine (HR.out w2 B2).mono ?_
            rintro e w3 ⟨v', rfl, hr3, ho3, hb3⟩
            have K3 := Lib.hid (K2.out.then (wld.Kept.of_below hb3 (fun _ => False)) (fun _ _ h => h))
            obtain ⟨o0, o1, o2, o3, o4, lx⟩ := (Box.mk o0 o1 o2 o3 o4 lx).kept (wld.Kept.of_below hb3 (fun _ => False)) (fun h => h)
            have HS3 := Lib.hid (HS2.out.kept (wld.Kept.of_below hb3 (fun _ => False)) (fun _ _ h => h))
            obtain ⟨A', c', rfl, hc', _⟩ := hr3.shape
            have HR3 := Lib.hid hr3
            have HO3 := Lib.hid ho3
            clear hr3 ho3 hb3 B2 hc'
            have hq := HT2.out.two
            clear HT2
            generalize tp t' = tv at *
            rcases hq with ⟨rfl, hth⟩ | ⟨tb, rfl, hth⟩
            all_goals
              rw [hth]
              go_wp2_with fail
              go_roundw
              case rel => exact ⟨k + 1, by omega, by go_num, t, d, v, HI.out.kept (K3.out.alloc _) (by omega)⟩
              case measure => simp [intOf]; omega
          · clear hw
            go_wp2_with fail
            refine (HN.out _).mono ?_
            rintro e w2 ⟨t', rfl, hS2, hT2, hf2, hb2⟩
            have K2 := Lib.hid (KX.out.then (wld.Kept.of_below hb2 (fun _ => False)) (fun _ _ h => h))
            have B2 : Below w.heap.size w w2 := HI.out.below.trans (K2.out.to_below (fun _ _ h => h) HI.out.below.size)
            obtain ⟨o0, o1, o2, o3, o4, lx⟩ := HX.out.kept (wld.Kept.of_below hb2 (fun _ => False)) (fun h => h)
            have HS2 := Lib.hid hS2
            have HT2 := Lib.hid hT2
            have HF2 := Lib.hid hf2
            clear hS2 hT2 hf2 hb2 d0 d1 d2 d3 d4
            go_wp2_with fail
            refine (HR.out w2 B2).mono ?_
            rintro e w3 ⟨v', rfl, hr3, ho3, hb3⟩
            have K3 := Lib.hid (K2.out.then (wld.Kept.of_below hb3 (fun _ => False)) (fun _ _ h => h))
            obtain ⟨o0, o1, o2, o3, o4, lx⟩ := (Box.mk o0 o1 o2 o3 o4 lx).kept (wld.Kept.of_below hb3 (fun _ => False)) (fun h => h)
            have HS3 := Lib.hid (HS2.out.kept (wld.Kept.of_below hb3 (fun _ => False)) (fun _ _ h => h))
            obtain ⟨A', c', rfl, hc', _⟩ := hr3.shape
            have HR3 := Lib.hid hr3
            have HO3 := Lib.hid ho3
            clear hr3 ho3 hb3 B2 hc'
            have hq := HT2.out.two
            clear HT2
            generalize tp t' = tv at *
            rcases hq with ⟨rfl, hth⟩ | ⟨tb, rfl, hth⟩
            all_goals
              rw [hth]
              go_wp2_with fail
              go_roundw
              case rel => exact ⟨k + 1, by omega, by go_num, t, d, v, HI.out.kept (K3.out.alloc _) (by omega)⟩
              case measure => simp [intOf]; omega
      · have k0' : (kind == 0) = false := by simpa using k0
        have no : ∀ b, ¬ own none (.slice none 0 0) b := fun b h => h.elim (fun h => h) (fun h => by simp [Value.ownBlock] at h)
        by_cases hw : 0 ≤ who ∧ who < 3
        · obtain ⟨hw0, hw3⟩ := hw
          obtain ⟨n, rfl⟩ := Int.eq_ofNat_of_zero_le hw0
          have hn : n < 3 := by omega
          have e0 := HI.out.here n hn
          have f0 := HI.out.c0 n hn
          have f1 := HI.out.c1 n hn
          have f2 := HI.out.c2 n hn
          have f3 := HI.out.c3 n hn
          have HAt := Lib.hid (HI.out.at_ n hn)
          have HC := Lib.hid (fun (W : World) (hW : Below w.heap.size w W) (hA : At w W (t n) (d n) (v n) k) => called_any w W hW (t n) (d n) (v n) k hA KB.out kind n se oa ob)
          obtain ⟨A', c', hv, hc', _⟩ := HAt.out.row.shape
          simp only [docV] at HC
          have HVV := Lib.hid hv
          rw [hv] at f3
          have HC' : ∀ (W : World) (hW : Below w.heap.size w W) (hA : At w W (t n) (d n) (v n) k), Calls Try.prog 21 #[tp (t n), .agg #[.bool (d n).there, .int .i64 (d n).ns, .int .i64 (d n).L, .slice A' (d n).l.length c'], .agg #[.int .i64 kind, .int .i64 n, .int .i64 se, .int .i64 oa, .int .i64 ob]] W (CallPost w W (t n) (v n) k) := fun W hW hA => by
            have := HC.out W hW hA
            rw [hv] at this ⊢
            exact this
          have HC2 := Lib.hid HC'
          clear HC HC' hv hc'
          go_wp2_with fail
          have K1 := Lib.hid (KX.out.alloc (.cells #[.bool (d n).there, .int .i64 (d n).ns, .int .i64 (d n).L, .slice A' (d n).l.length c'] 58))
          have X1 := Lib.hid (HX.out.kept ((wld.Kept.refl (fun _ => False) _).alloc (.cells #[.bool (d n).there, .int .i64 (d n).ns, .int .i64 (d n).L, .slice A' (d n).l.length c'] 58)) (fun h => h))
          refine (HC2.out _ (HI.out.below.trans (K1.out.to_below (fun _ _ h => h) HI.out.below.size)) (HAt.out.kept K1.out (fun _ _ h => h))).mono ?_
          rintro e w3 ⟨t', d', v', rfl, htp, hA', ho', hk'⟩
          have K3 := Lib.hid (((K1.out.mono (fun _ _ h => h.elim)).then hk' (fun b _ h => h) : KeptW (own (t n) (v n)) wo w3))
          obtain ⟨o0, o1, o2, o3, o4, lx⟩ := X1.out.kept hk' (fun h => by have := HAt.out.own_lt h; omega)
          have HIN := Lib.hid (HI.out.stored n hn K3.out hA' (fun b hb => (ho' b hb).imp (fun h => h) (fun h => Nat.le_trans K1.out.size h)) htp)
          obtain ⟨A2, c2, rfl, hc2, _⟩ := hA'.row.shape
          have nw : ¬ own (t n) (v n) (w1.heap.size + 1) := fun x => (HI.out.away n hn _ x).2 rfl
          have g0 := K3.out.free (HI.out.fw (n * 4)) lw nw
          have g1 := K3.out.free (HI.out.fw (n * 4 + 1)) lw nw
          have g2 := K3.out.free (HI.out.fw (n * 4 + 2)) lw nw
          have g3 := K3.out.free (HI.out.fw (n * 4 + 3)) lw nw
          replace f0 := K3.out.cell f0 nw
          replace f1 := K3.out.cell f1 nw
          replace f2 := K3.out.cell f2 nw
          replace f3 := K3.out.cell f3 nw
          have n2 : ¬ wo.heap.size = w1.heap.size + 1 := by omega
          replace lw := Nat.lt_of_lt_of_le lw K3.out.size
          clear hA' ho' hk' hc2 htp e0 lh HC2 K1 X1 HAt HX KX d0 d1 d2 d3 d4
          simp only [docV]
          go_wp2_with fail
          go_roundw
          case rel => exact ⟨k + 1, by omega, by go_num, _, _, _, HIN.out.kept ((wld.Kept.refl (fun _ => False) _).alloc _) (Nat.le_refl _)⟩
          case measure => simp [intOf]; omega
        · have HC := Lib.hid (fun (W : World) (hW : Below w.heap.size w W) => called_any w W hW none ⟨false, 0, 0, []⟩ (.slice none 0 0) k (At.nil w W k) KB.out kind who se oa ob)
          simp only [docV, tp] at HC
          by_cases hw0 : 0 ≤ who
          · have hw3 : ¬ who < 3 := fun h => hw ⟨hw0, h⟩
            clear hw
            go_wp2_with fail
            refine (HC.out _ (HI.out.below.trans ((KX.out.alloc (.cells #[.bool false, .int .i64 0, .int .i64 0, .slice none 0 0] 58)).to_below (fun _ _ h => h) HI.out.below.size))).mono ?_
            rintro e w3 ⟨t', d', v', rfl, htp, hA', ho', hk'⟩
            have K3 := Lib.hid (((KX.out.alloc (.cells #[.bool false, .int .i64 0, .int .i64 0, .slice none 0 0] 58)).then hk' (fun b _ h => no b h) : KeptW (fun _ => False) wo w3))
            obtain ⟨o0, o1, o2, o3, o4, lx⟩ := (HX.out.kept ((wld.Kept.refl (fun _ => False) _).alloc (.cells #[.bool false, .int .i64 0, .int .i64 0, .slice none 0 0] 58)) (fun h => h)).kept hk' (no _)
            obtain ⟨A', c', rfl, hc', _⟩ := hA'.row.shape
            clear hA' ho' hk' hc' htp
            simp only [docV]
            go_wp2_with fail
            go_roundw
            case rel => exact ⟨k + 1, by omega, by go_num, t, d, v, HI.out.kept (K3.out.alloc _) (by omega)⟩
            case measure => simp [intOf]; omega
          · clear hw
            go_wp2_with fail
            refine (HC.out _ (HI.out.below.trans ((KX.out.alloc (.cells #[.bool false, .int .i64 0, .int .i64 0, .slice none 0 0] 58)).to_below (fun _ _ h => h) HI.out.below.size))).mono ?_
            rintro e w3 ⟨t', d', v', rfl, htp, hA', ho', hk'⟩
            have K3 := Lib.hid (((KX.out.alloc (.cells #[.bool false, .int .i64 0, .int .i64 0, .slice none 0 0] 58)).then hk' (fun b _ h => no b h) : KeptW (fun _ => False) wo w3))
            obtain ⟨o0, o1, o2, o3, o4, lx⟩ := (HX.out.kept ((wld.Kept.refl (fun _ => False) _).alloc (.cells #[.bool false, .int .i64 0, .int .i64 0, .slice none 0 0] 58)) (fun h => h)).kept hk' (no _)
            obtain ⟨A', c', rfl, hc', _⟩ := hA'.row.shape
            clear hA' ho' hk' hc' htp
            simp only [docV]
            go_wp2_with fail
            go_roundw
            case rel => exact ⟨k + 1, by omega, by go_num, t, d, v, HI.out.kept (K3.out.alloc _) (by omega)⟩
            case measure => simp [intOf]; omega
    · have hkL : k = L := by omega
      subst hkL
      have HI := Lib.hid hI
      have HSc' := HSc
      have kbig : k < 4398046511104 := by omega
      have KB := Lib.hid kbig
      clear hI HSc kbig
      obtain ⟨wo, rfl⟩ : ∃ wo : World, wo = wr := ⟨_, rfl⟩
      go_wp2_with fail
      go_loopw [16] (fun i wx => ∃ j : Nat, j ≤ 3 ∧ i = .int .i64 j ∧ KeptW (fun _ => False) wo wx) (fun i _ => 3 - (intOf i).toNat)
      case atStart => exact ⟨0, by omega, rfl, wld.Kept.refl _ _⟩
      case round =>
        obtain ⟨j, hj, rfl, hkx⟩ := hrel
        by_cases hjl : j < 3
        · have HKX := Lib.hid hkx
          have HS := Lib.hid (HI.out.kept hkx (Nat.le_refl _))
          clear hkx
          have e0 := HS.out.here j hjl
          have f0 := HS.out.c0 j hjl
          have f1 := HS.out.c1 j hjl
          have f2 := HS.out.c2 j hjl
          have f3 := HS.out.c3 j hjl
          have HAt := Lib.hid (HS.out.at_ j hjl)
          obtain ⟨A', c', hv, hc', _⟩ := HAt.out.row.shape
          have lenb : (d j).l.length < 4398046511104 := by have := HAt.out.len; have := KB.out; omega
          have HO := Lib.hid (fun (W : World) (hW : KeptW (fun _ => False) wr W) => t_open (t j) (d j) W (HAt.out.stands.kept hW (fun _ _ h => h)) HAt.out.tied lenb)
          have HLf := Lib.hid (fun (W : World) (hW : KeptW (fun _ => False) wr W) => t_life (t j) (d j) W (HAt.out.stands.kept hW (fun _ _ h => h)) HAt.out.tied)
          have HP0 := fun (W : World) (hW : KeptW (fun _ => False) wr W) => r_open (d j) (v j) w W (HAt.out.row.kept hW (fun _ _ h => h)) lenb
          rw [hv] at f3 HP0
          simp only [docV] at HP0
          have HP := Lib.hid HP0
          have lh := HS.out.lth
          have lw := HS.out.ltw
          clear HP0 hc' lenb hv HAt HS
          generalize tp (t j) = tv at *
          generalize openOf (d j).l = N at *
          generalize (d j).L = Lj at *
          generalize (d j).ns = ns at *
          generalize (d j).there = th at *
          generalize (d j).l.length = ll at *
          have j0 : (0 : Int) ≤ (j : Int) := by omega
          have j3 : (j : Int) < 3 := by omega
          go_wp2_with fail
          go_region_held3 (fun w' => w'.cell? ⟨w1.heap.size, j, none⟩ = some tv ∧ w'.cell? ⟨w1.heap.size + 1, j * 4, none⟩ = some (.bool th) ∧ w'.cell? ⟨w1.heap.size + 1, j * 4 + 1, none⟩ = some (.int .i64 ns) ∧ w'.cell? ⟨w1.heap.size + 1, j * 4 + 2, none⟩ = some (.int .i64 Lj) ∧ w'.cell? ⟨w1.heap.size + 1, j * 4 + 3, none⟩ = some (.slice A' ll c'))
            (first | go_keep | exact ⟨(hbe.cell (p := ⟨w1.heap.size, j, none⟩) lh).trans e0, (hbe.cell (p := ⟨w1.heap.size + 1, j * 4, none⟩) lw).trans f0, (hbe.cell (p := ⟨w1.heap.size + 1, j * 4 + 1, none⟩) lw).trans f1, (hbe.cell (p := ⟨w1.heap.size + 1, j * 4 + 2, none⟩) lw).trans f2, (hbe.cell (p := ⟨w1.heap.size + 1, j * 4 + 3, none⟩) lw).trans f3⟩)
            (first | (go_at_call 18; refine (HO.out _ ?_).mono ?_; (first | exact (wld.Kept.refl _ wr).drew | exact wld.Kept.refl _ wr | exact ((wld.Kept.refl _ wr).drew).then (wld.Kept.of_below hbe (fun _ => False)) (fun _ _ h => h) | exact (wld.Kept.refl _ wr).then (wld.Kept.of_below hbe (fun _ => False)) (fun _ _ h => h)); rintro e w' ⟨rfl, rfl⟩) | (go_at_call 22; refine (HP.out _ ?_).mono ?_; (first | exact (wld.Kept.refl _ wr).drew | exact wld.Kept.refl _ wr | exact ((wld.Kept.refl _ wr).drew).then (wld.Kept.of_below hbe (fun _ => False)) (fun _ _ h => h) | exact (wld.Kept.refl _ wr).then (wld.Kept.of_below hbe (fun _ => False)) (fun _ _ h => h)); rintro e w' ⟨rfl, hbe⟩) | (go_at_call 23; refine (HLf.out _ ?_).mono ?_; (first | exact (wld.Kept.refl _ wr).drew | exact wld.Kept.refl _ wr | exact ((wld.Kept.refl _ wr).drew).then (wld.Kept.of_below hbe (fun _ => False)) (fun _ _ h => h) | exact (wld.Kept.refl _ wr).then (wld.Kept.of_below hbe (fun _ => False)) (fun _ _ h => h)); rintro e w' ⟨rfl, rfl⟩))
          go_wp2_with fail
          go_roundw
          case rel => exact ⟨j + 1, by omega, by go_num, (HKX.out.drew).then (wld.Kept.of_below hbe (fun _ => False)) (fun _ _ h => h)⟩
          case measure => simp [intOf]; omega
        · go_wp2_with fail
          go_ret
          exact ⟨rfl, HI.out.below.trans (hkx.to_below (fun _ _ h => h) HI.out.below.size)⟩
end Go.Proofs.Ytonjoboilpoamaa.scr
