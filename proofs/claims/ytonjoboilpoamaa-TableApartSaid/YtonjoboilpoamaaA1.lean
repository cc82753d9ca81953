/- TableApart: the walk. -/
import Derived.Test.YtonjoboilpoamaaT7
import Derived.Test.YtonjoboilpoamaaH1
namespace Go.Proofs.Ytonjoboilpoamaa.apart
set_option linter.unusedVariables false
open Go.RowKit Go.Proofs.Ytonjoboilpoamaa.wld Go.Proofs.Ytonjoboilpoamaa.imap Go.Proofs.Ytonjoboilpoamaa.tab Go.Proofs.Ytonjoboilpoamaa.holds

structure Ap (T1 T2 : Tb) (who : Int) : Prop where
  n1 : T1.ns = 4
  n2 : T2.ns = 4
  life : T1.life = T2.life
  same : ∀ j : Nat, (j : Int) = who → T1.g j = T2.g j ∧ T1.f j = T2.f j
  ints : ∀ (j : Nat) y v, T2.f j y = some v → ∃ n, v = .int .i64 n

section
variable {T1 T2 : Tb} {who : Int}

theorem Ap.add_other (h : Ap T1 T2 who) {s : Int} (hs : s ≠ who) (x : Value) : Ap (T1.addS s x) T2 who := by
  unfold Tb.addS
  split
  · exact h
  · refine ⟨h.n1, h.n2, h.life, ?_, h.ints⟩
    intro j hj
    have hne : j ≠ s.toNat := by omega
    obtain ⟨a, b⟩ := h.same j hj
    simp only [Tb.add, if_neg hne]
    exact ⟨a, b⟩

theorem Ap.add_same (h : Ap T1 T2 who) (a : Int) : Ap (T1.addS who (.int .i64 a)) (T2.addS who (.int .i64 a)) who ∧ T1.addR who = T2.addR who := by
  unfold Tb.addS Tb.addR
  rw [h.n1, h.n2, h.life]
  by_cases hw : who < 0 ∨ ((4 : Nat) : Int) ≤ who
  · rw [if_pos hw, if_pos hw, if_pos hw, if_pos hw]
    exact ⟨h, rfl⟩
  · rw [if_neg hw, if_neg hw, if_neg hw, if_neg hw]
    obtain ⟨hg, hf⟩ := h.same who.toNat (by omega)
    refine ⟨⟨h.n1, h.n2, h.life, ?_, ?_⟩, by rw [hg]⟩
    · intro j hj
      have e : j = who.toNat := by omega
      simp only [Tb.add, if_pos e]
      rw [hg, hf]
      exact ⟨rfl, rfl⟩
    · intro j y v hv
      simp only [Tb.add] at hv
      split at hv
      · simp only [setAt] at hv
        split at hv
        · cases hv; exact ⟨_, rfl⟩
        · exact h.ints _ _ _ hv
      · exact h.ints _ _ _ hv

theorem Ap.find (h : Ap T1 T2 who) (x y : Int) : T1.find (.int .i64 0) who x y = T2.find (.int .i64 0) who x y ∧ ∃ n, (T2.find (.int .i64 0) who x y).1 = .int .i64 n := by
  unfold Tb.find
  rw [h.n1, h.n2, h.life]
  by_cases hw : who < 0 ∨ ((4 : Nat) : Int) ≤ who
  · rw [if_pos hw, if_pos hw]
    exact ⟨rfl, _, rfl⟩
  · rw [if_neg hw, if_neg hw]
    obtain ⟨hg, hf⟩ := h.same who.toNat (by omega)
    rw [hg, hf]
    refine ⟨rfl, ?_⟩
    split
    · exact ⟨_, rfl⟩
    · split
      · exact ⟨_, rfl⟩
      · cases hv : T2.f who.toNat y with
        | none => exact ⟨_, rfl⟩
        | some v =>
          obtain ⟨n, rfl⟩ := h.ints _ _ _ hv
          exact ⟨n, rfl⟩

theorem Ap.end_other (h : Ap T1 T2 who) {s : Int} (hs : s ≠ who) (x y : Int) : Ap (T1.endS s x y) T2 who := by
  unfold Tb.endS
  split
  · rename_i hz
    obtain ⟨n, rfl, _⟩ := find_zero hz
    refine ⟨h.n1, h.n2, h.life, ?_, h.ints⟩
    intro j hj
    have hne : j ≠ ((n : Int)).toNat := by omega
    obtain ⟨a, b⟩ := h.same j hj
    simp only [Tb.drop, if_neg hne]
    exact ⟨a, b⟩
  · exact h

theorem Ap.end_same (h : Ap T1 T2 who) (x y : Int) : Ap (T1.endS who x y) (T2.endS who x y) who ∧ T1.endR who x y = T2.endR who x y := by
  have he : T1.endR who x y = T2.endR who x y := by unfold Tb.endR; rw [(h.find x y).1]
  refine ⟨?_, he⟩
  unfold Tb.endS
  rw [he]
  by_cases hz : T2.endR who x y = 0
  · rw [if_pos hz, if_pos hz]
    obtain ⟨n, hn, _⟩ := find_zero hz
    obtain ⟨hg, hf⟩ := h.same who.toNat (by omega)
    refine ⟨h.n1, h.n2, h.life, ?_, ?_⟩
    · intro j hj
      have e : j = who.toNat := by omega
      simp only [Tb.drop, if_pos e]
      rw [hf, e]
      exact ⟨hg, rfl⟩
    · intro j y' v hv
      simp only [Tb.drop] at hv
      split at hv
      · simp only [setAt] at hv
        split at hv
        · cases hv
        · exact h.ints _ _ _ hv
      · exact h.ints _ _ _ hv
  · rw [if_neg hz, if_neg hz]
    exact h

theorem Ap.turn (h : Ap T1 T2 who) (H1 H2 g1 g2 : Nat) : Ap (fresh H1 g1 T1.ns (T1.life + 1)) (fresh H2 g2 T2.ns (T2.life + 1)) who :=
  ⟨h.n1, h.n2, by simp [fresh, h.life], fun j _ => ⟨rfl, rfl⟩, fun j y v hv => by cases hv⟩
end

/-- how far the numbers have come -/
def Low (T : Tb) (k : Nat) : Prop := T.life ≤ 2 + k ∧ ∀ j, j < 4 → T.g j ≤ k

theorem Low.mono {T : Tb} {k : Nat} (h : Low T k) : Low T (k + 1) := ⟨by have := h.1; omega, fun j hj => by have := h.2 j hj; omega⟩

theorem Low.add {T : Tb} {k : Nat} (h : Low T k) (hn : T.ns = 4) (s : Int) (x : Value) : Low (T.addS s x) (k + 1) := by
  unfold Tb.addS
  split
  · exact h.mono
  · refine ⟨by have := h.1; simp only [Tb.add]; omega, fun j hj => ?_⟩
    have h1 := h.2 j hj
    have h2 := h.2 s.toNat (by omega)
    simp only [Tb.add]
    split <;> omega

theorem Low.drop {T : Tb} {k : Nat} (h : Low T k) (s x y : Int) : Low (T.endS s x y) (k + 1) := by
  unfold Tb.endS
  split
  · exact (h.mono : Low T (k + 1))
  · exact h.mono

theorem Low.turn {T : Tb} {k : Nat} (h : Low T k) (H g : Nat) : Low (fresh H g T.ns (T.life + 1)) (k + 1) :=
  ⟨by have := h.1; simp only [fresh]; omega, fun j hj => by simp only [fresh]; omega⟩

/-- two tables stand in wr, apart, and nothing that was there in w has turned -/
structure Two (w : World) (p q : Nat) (T1 T2 : Tb) (wr : World) : Prop where
  t1 : TabAt wr p T1
  t2 : TabAt wr q T2
  apart : ∀ b, foot p T1 b → ¬ foot q T2 b
  below : Below w.heap.size w wr
  high1 : ∀ b, foot p T1 b → w.heap.size ≤ b
  high2 : ∀ b, foot q T2 b → w.heap.size ≤ b

theorem Two.kept {w : World} {p q : Nat} {T1 T2 : Tb} {wr w' : World} (h : Two w p q T1 T2 wr) (hk : Kept (fun _ => False) wr w') : Two w p q T1 T2 w' :=
  ⟨h.t1.kept hk (fun _ _ h => h), h.t2.kept hk (fun _ _ h => h), h.apart, h.below.trans (hk.to_below (fun _ _ h => h) h.below.size), h.high1, h.high2⟩

theorem Two.one {w : World} {p q : Nat} {T1 T2 T1' : Tb} {wr w' : World} (h : Two w p q T1 T2 wr) (ht : TabAt w' p T1') (hk : Kept (foot p T1) wr w') (hf : ∀ b, foot p T1' b → foot p T1 b ∨ wr.heap.size ≤ b) : Two w p q T1' T2 w' :=
  ⟨ht, h.t2.kept hk (fun b h2 h1 => h.apart b h1 h2), fun b h1 h2 => by
    rcases hf b h1 with h3 | h3
    · exact h.apart b h3 h2
    · have := h.t2.lt h2; omega, h.below.trans (hk.to_below (fun b hb h1 => by have := h.high1 b h1; omega) h.below.size), fun b h1 => by
    rcases hf b h1 with h3 | h3
    · exact h.high1 b h3
    · exact Nat.le_trans h.below.size h3, h.high2⟩

theorem Two.swap {w : World} {p q : Nat} {T1 T2 : Tb} {wr : World} (h : Two w p q T1 T2 wr) : Two w q p T2 T1 wr :=
  ⟨h.t2, h.t1, fun b h1 h2 => h.apart b h2 h1, h.below, h.high2, h.high1⟩

/-- the round's own variables: the call, the handle -/
def Loc (h : Nat) (kd ow se oa ob : Int) (w : World) : Prop :=
  w.cell? ⟨h, 0, none⟩ = some (.int .i64 kd) ∧ w.cell? ⟨h, 1, none⟩ = some (.int .i64 ow) ∧ w.cell? ⟨h, 2, none⟩ = some (.int .i64 se) ∧ w.cell? ⟨h, 3, none⟩ = some (.int .i64 oa) ∧ w.cell? ⟨h, 4, none⟩ = some (.int .i64 ob) ∧
  w.cell? ⟨h + 1, 0, none⟩ = some (.int .i64 oa) ∧ w.cell? ⟨h + 1, 1, none⟩ = some (.int .i64 ob) ∧ h + 1 < w.heap.size

theorem Loc.start (w : World) (kd ow se oa ob : Int) : Loc w.heap.size kd ow se oa ob ((w.alloc (.cells #[.int .i64 kd, .int .i64 ow, .int .i64 se, .int .i64 oa, .int .i64 ob] 45)).alloc (.cells #[.int .i64 oa, .int .i64 ob] 33)) := by
  have e : (w.alloc (.cells #[.int .i64 kd, .int .i64 ow, .int .i64 se, .int .i64 oa, .int .i64 ob] 45)).heap.size = w.heap.size + 1 := size_alloc _ _
  exact ⟨wld.cellA (cellN rfl rfl) _, wld.cellA (cellN rfl rfl) _, wld.cellA (cellN rfl rfl) _, wld.cellA (cellN rfl rfl) _, wld.cellA (cellN rfl rfl) _, cellN e rfl, cellN e rfl, by rw [size_alloc, e]; omega⟩

theorem Loc.kept {h : Nat} {kd ow se oa ob : Int} {w w' : World} {F : Nat → Prop} (l : Loc h kd ow se oa ob w) (k : Kept F w w') (h1 : ¬ F h) (h2 : ¬ F (h + 1)) : Loc h kd ow se oa ob w' := by
  obtain ⟨a, b, c, d, e, f, g, i⟩ := l
  exact ⟨k.cell a h1, k.cell b h1, k.cell c h1, k.cell d h1, k.cell e h1, k.cell f h2, k.cell g h2, Nat.lt_of_lt_of_le i k.size⟩

def AInv (w : World) (p q : Nat) (who : Int) (k : Nat) (wr : World) : Prop := ∃ T1 T2, Ap T1 T2 who ∧ Two w p q T1 T2 wr ∧ Low T1 k ∧ Low T2 k

set_option maxRecDepth 100000 in
set_option maxHeartbeats 8000000 in
theorem apart_walk (A : Option Addr) (cap : Nat) (ops : List Op5) (who : Int) (w : World) (hS : Script w A ops) (hlen : ops.length * 40 ≤ 140737488351232) :
    Calls Try.prog 7 #[.slice A ops.length cap, .int .i64 who] w fun e w' => e = .returned (.bool true) ∧ Below w.heap.size w w' := by
  have HH := Lib.hid (head_yes w)
  go_enter Try.func7, Try.ntmps7
  go_wp2_with fail
  refine HH.out.mono ?_
  rintro e w1 ⟨rfl, hb1⟩
  have HN := Lib.hid (new_yes 4 2 w1 (by omega) (by omega) (by omega) (by omega))
  go_wp2_with fail
  refine HN.out.mono ?_
  rintro e w2 ⟨p, T1, rfl, hT1, hb2, hf1, hns1, hl1, hg1, hc1, hff1⟩
  have HN2 := Lib.hid (new_yes 4 2 w2 (by omega) (by omega) (by omega) (by omega))
  have HT1 := Lib.hid hT1
  have HB1 := Lib.hid hb1
  have HB2 := Lib.hid hb2
  have HF1 := Lib.hid hf1
  have Hns1 := Lib.hid hns1
  have Hl1 := Lib.hid hl1
  have Hg1 := Lib.hid hg1
  have Hff1 := Lib.hid hff1
  have HSc := Lib.hid hS
  clear hT1 hb1 hb2 hf1 hns1 hl1 hg1 hc1 hff1 HN HH hS
  go_wp2_with fail
  refine HN2.out.mono ?_
  rintro e w3 ⟨q, T2, rfl, hT2, hb3, hf2, hns2, hl2, hg2, hc2, hff2⟩
  have hTwo : Two w p q T1 T2 w3 := by
    refine ⟨HT1.out.kept (Kept.of_below hb3 (fun _ => False)) (fun _ _ h => h), hT2, fun b h1 h2 => ?_, (HB1.out.trans (HB2.out.mono HB1.out.size)).trans (hb3.mono (Nat.le_trans HB1.out.size HB2.out.size)), fun b h1 => Nat.le_trans HB1.out.size (HF1.out b h1), fun b h2 => Nat.le_trans (Nat.le_trans HB1.out.size HB2.out.size) (hf2 b h2)⟩
    have := HT1.out.lt h1
    have := hf2 b h2
    omega
  have hin : AInv w p q who 0 w3 := by
    refine ⟨T1, T2, ⟨Hns1.out, hns2, by rw [Hl1.out, hl2], fun j _ => ⟨by rw [Hg1.out, hg2], by rw [Hff1.out, hff2]⟩, fun j y v hv => by rw [hff2] at hv; cases hv⟩, hTwo, ⟨by rw [Hl1.out]; omega, fun j _ => by rw [Hg1.out]; exact Int.le_refl _⟩, ⟨by rw [hl2]; omega, fun j _ => by rw [hg2]; exact Int.le_refl _⟩⟩
  have HIN := Lib.hid hin
  clear hT2 hb3 hf2 hns2 hl2 hg2 hc2 hff2 hTwo hin HN2
  go_wp2_with fail
  generalize hL : ops.length = L at *
  go_loopw [48] (fun i wr => ∃ k : Nat, k ≤ L ∧ i = .int .i64 k ∧ AInv w p q who k wr) (fun i _ => L - (intOf i).toNat)
  case atStart => exact ⟨0, Nat.zero_le _, rfl, HIN.out⟩
  case round =>
    obtain ⟨k, hk, rfl, hI⟩ := hrel
    by_cases hlt : k < L
    · have hlt' : k < ops.length := by rw [hL]; exact hlt
      obtain ⟨T1, T2, hAp, hTwo, hL1, hL2⟩ := hI
      obtain ⟨wo, rfl⟩ : ∃ wo : World, wo = wr := ⟨_, rfl⟩
      obtain ⟨b, off, rfl, c0, c1, c2, c3, c4⟩ := HSc.out k hlt'
      have hbb : b < w.heap.size := World.block_lt_of_cell? w _ c0
      have d0 := (hTwo.below.cell (p := ⟨b, off + k * 5, none⟩) hbb).trans c0
      have d1 := (hTwo.below.cell (p := ⟨b, off + k * 5 + 1, none⟩) hbb).trans c1
      have d2 := (hTwo.below.cell (p := ⟨b, off + k * 5 + 2, none⟩) hbb).trans c2
      have d3 := (hTwo.below.cell (p := ⟨b, off + k * 5 + 3, none⟩) hbb).trans c3
      have d4 := (hTwo.below.cell (p := ⟨b, off + k * 5 + 4, none⟩) hbb).trans c4
      clear c0 c1 c2 c3 c4
      generalize (ops[k]).kind = kind at *
      generalize (ops[k]).who = owho at *
      generalize (ops[k]).ses = se at *
      generalize (ops[k]).a = oa at *
      generalize (ops[k]).b = ob at *
      have HA := Lib.hid hAp
      have HT := Lib.hid hTwo
      have HL1 := Lib.hid hL1
      have HL2 := Lib.hid hL2
      have HL := Lib.hid hL
      clear hAp hTwo hL1 hL2 hL hlt'
      have hTa := HT.out.kept (((Kept.refl (fun _ => False) wo).alloc (.cells #[.int .i64 kind, .int .i64 owho, .int .i64 se, .int .i64 oa, .int .i64 ob] 45)).alloc (.cells #[.int .i64 oa, .int .i64 ob] 33))
      have hla := Loc.start wo kind owho se oa ob
      have hh : ∀ b, foot p T1 b ∨ foot q T2 b → b < wo.heap.size := fun b h => by
        rcases h with h | h
        · exact HT.out.t1.lt h
        · exact HT.out.t2.lt h
      have hn1 : ¬ foot p T1 wo.heap.size := fun h => by have := hh _ (.inl h); omega
      have hn2 : ¬ foot p T1 (wo.heap.size + 1) := fun h => by have := hh _ (.inl h); omega
      have hn3 : ¬ foot q T2 wo.heap.size := fun h => by have := hh _ (.inr h); omega
      have hn4 : ¬ foot q T2 (wo.heap.size + 1) := fun h => by have := hh _ (.inr h); omega
      have hg1 : ∀ j, j < T1.ns → T1.g j < 9223372036854775807 := fun j hj => by have := HL1.out.2 j (by have := HA.out.n1; omega); have := HL.out; omega
      have hg2 : ∀ j, j < T2.ns → T2.g j < 9223372036854775807 := fun j hj => by have := HL2.out.2 j (by have := HA.out.n2; omega); have := HL.out; omega
      have HTa := Lib.hid hTa
      have HLa := Lib.hid hla
      have HN1 := Lib.hid hn1
      have HN2 := Lib.hid hn2
      have HN3 := Lib.hid hn3
      have HN4 := Lib.hid hn4
      have HG1 := Lib.hid hg1
      have HG2 := Lib.hid hg2
      clear hTa hla hh hn1 hn2 hn3 hn4 hg1 hg2
      by_cases k6 : kind = 6
      · subst k6
        go_wp2_with fail
        refine (turn_all p T1 _ HTa.out.t1 (by have := HL1.out.1; have := HL.out; omega)).mono ?_
        rintro e w4 ⟨rfl, hT4, hK4, hF4⟩
        have hTw := HTa.out.one hT4 hK4 hF4
        have HTw := Lib.hid hTw
        clear hT4 hK4 hF4 hTw
        go_wp2_with fail
        refine (turn_all q T2 _ HTw.out.t2 (by have := HL2.out.1; have := HL.out; omega)).mono ?_
        rintro e w5 ⟨rfl, hT5, hK5, hF5⟩
        have hTv := (HTw.out.swap.one hT5 hK5 hF5).swap
        have hin : AInv w p q who (k + 1) w5 := ⟨_, _, HA.out.turn _ _ _ _, hTv, HL1.out.turn _ _, HL2.out.turn _ _⟩
        have HIN := Lib.hid hin
        clear hT5 hK5 hF5 hTv hin
        go_wp2_with fail
        first | exact ⟨⟨k + 1, by omega, by go_num, HIN.out⟩, by simp [intOf]; omega⟩ | (go_roundw; case rel => exact ⟨k + 1, by omega, by go_num, HIN.out⟩; case measure => simp [intOf]; omega)
      · have t6 : (kind == 6) = false := by simpa using k6
        by_cases hse : se = who
        · subst hse
          have ts : (se != se) = false := by simp
          by_cases k1 : kind = 1
          · subst k1
            go_wp2_with fail
            refine (add_all p T1 se (.int .i64 oa) _ HTa.out.t1 HG1.out).mono ?_
            rintro e w4 ⟨rfl, hT4, hK4⟩
            have hTw := HTa.out.one hT4 hK4 (fun b hb => .inl (by rw [foot_add] at hb; exact hb))
            have hl4 := HLa.out.kept hK4 HN1.out HN2.out
            obtain ⟨y0, y1, y2, y3, y4, y5, y6, y7⟩ := hl4
            have y8 : wo.heap.size < w4.heap.size := by omega
            have HTw := Lib.hid hTw
            clear hT4 hK4 hTw
            obtain ⟨hap, her⟩ := HA.out.add_same oa
            generalize hr : T1.addR se = r at *
            obtain ⟨r1, r2, r3⟩ := r
            have HAP := Lib.hid hap
            have HER := Lib.hid her
            clear hap her hr
            go_wp2_with fail
            have hTx := HTw.out.kept ((Kept.refl (fun _ => False) w4).alloc (.cells #[.int .i64 r1, .int .i64 r2] 33))
            have hl4 : w4.heap.size < (w4.alloc (.cells #[.int .i64 r1, .int .i64 r2] 33)).heap.size := by rw [size_alloc]; omega
            have hc := add_all q T2 se (.int .i64 oa) _ hTx.t2 HG2.out
            rw [← HER.out] at hc
            have HC := Lib.hid hc
            have HTx := Lib.hid hTx
            clear hc hTx
            refine HC.out.mono ?_
            rintro e w5 ⟨rfl, hT5, hK5⟩
            have hTv := (HTx.out.swap.one hT5 hK5 (fun b hb => .inl (by rw [foot_add] at hb; exact hb))).swap
            have hn5 : ¬ foot q T2 w4.heap.size := fun h => by have := HTw.out.t2.lt h; omega
            have z0 := hK5.cell (p := ⟨w4.heap.size, 0, none⟩) (cellN (o := 0) (v := .int .i64 r1) rfl rfl) hn5
            have z1 := hK5.cell (p := ⟨w4.heap.size, 1, none⟩) (cellN (o := 1) (v := .int .i64 r2) rfl rfl) hn5
            have z2 : w4.heap.size < w5.heap.size := Nat.lt_of_lt_of_le hl4 hK5.size
            have hin : AInv w p q se (k + 1) (w5.alloc (.cells #[.int .i64 r1, .int .i64 r2] 33)) := ⟨_, _, HAP.out, hTv.kept ((Kept.refl _ _).alloc _), HL1.out.add HA.out.n1 _ _, HL2.out.add HA.out.n2 _ _⟩
            have HIN := Lib.hid hin
            clear hT5 hK5 hTv hin hn5 hl4 y0 y1 y2 y3 y4 y5 y6 y7 y8
            go_wp2_with fail
            first | exact ⟨⟨k + 1, by omega, by go_num, HIN.out⟩, by simp [intOf]; omega⟩ | (go_roundw; case rel => exact ⟨k + 1, by omega, by go_num, HIN.out⟩; case measure => simp [intOf]; omega)
          · have t1 : (kind == 1) = false := by simpa using k1
            by_cases k2 : kind = 2
            · subst k2
              go_wp2_with fail
              have hc1 := find_any p T1 se oa ob _ HTa.out.t1
              obtain ⟨hfe, n, hfn⟩ := HA.out.find oa ob
              rw [hfe, hfn] at hc1
              generalize hr : (T2.find (.int .i64 0) se oa ob).2 = r at *
              have HF := Lib.hid hfn
              have HR := Lib.hid hr
              have HC1 := Lib.hid hc1
              clear hfe hfn hc1 hr
              refine HC1.out.mono ?_
              rintro e w4 ⟨rfl, hb4⟩
              have hk4 := Kept.of_below hb4 (fun _ => False)
              have hTw := HTa.out.kept hk4
              obtain ⟨y0, y1, y2, y3, y4, y5, y6, y7⟩ := HLa.out.kept hk4 (fun h => h) (fun h => h)
              have hc2 := find_any q T2 se oa ob _ hTw.t2
              rw [HF.out, HR.out] at hc2
              have HC2 := Lib.hid hc2
              have HTw := Lib.hid hTw
              clear hb4 hk4 hTw hc2
              go_wp2_with fail
              refine HC2.out.mono ?_
              rintro e w5 ⟨rfl, hb5⟩
              have hin : AInv w p q se (k + 1) w5 := ⟨_, _, HA.out, HTw.out.kept (Kept.of_below hb5 _), HL1.out.mono, HL2.out.mono⟩
              have HIN := Lib.hid hin
              clear hb5 hin y0 y1 y2 y3 y4 y5 y6 y7
              go_wp2_with fail
              first | exact ⟨⟨k + 1, by omega, by go_num, HIN.out⟩, by simp [intOf]; omega⟩ | (go_roundw; case rel => exact ⟨k + 1, by omega, by go_num, HIN.out⟩; case measure => simp [intOf]; omega)
            · have t2 : (kind == 2) = false := by simpa using k2
              by_cases k3 : kind = 3
              · subst k3
                go_wp2_with fail
                obtain ⟨hap, her⟩ := HA.out.end_same oa ob
                have hc1 := end_all p T1 se oa ob _ HTa.out.t1
                rw [her] at hc1
                generalize hr : T2.endR se oa ob = r at *
                have HAP := Lib.hid hap
                have HR := Lib.hid hr
                have HC1 := Lib.hid hc1
                clear hap her hc1 hr
                refine HC1.out.mono ?_
                rintro e w4 ⟨rfl, hT4, hK4⟩
                have hTw := HTa.out.one hT4 hK4 (fun b hb => .inl (by rw [foot_end] at hb; exact hb))
                obtain ⟨y0, y1, y2, y3, y4, y5, y6, y7⟩ := HLa.out.kept hK4 HN1.out HN2.out
                have hc2 := end_all q T2 se oa ob _ hTw.t2
                rw [HR.out] at hc2
                have HC2 := Lib.hid hc2
                have HTw := Lib.hid hTw
                clear hT4 hK4 hTw hc2
                go_wp2_with fail
                refine HC2.out.mono ?_
                rintro e w5 ⟨rfl, hT5, hK5⟩
                have hTv := (HTw.out.swap.one hT5 hK5 (fun b hb => .inl (by rw [foot_end] at hb; exact hb))).swap
                have hin : AInv w p q se (k + 1) w5 := ⟨_, _, HAP.out, hTv, HL1.out.drop _ _ _, HL2.out.drop _ _ _⟩
                have HIN := Lib.hid hin
                clear hT5 hK5 hTv hin y0 y1 y2 y3 y4 y5 y6 y7
                go_wp2_with fail
                first | exact ⟨⟨k + 1, by omega, by go_num, HIN.out⟩, by simp [intOf]; omega⟩ | (go_roundw; case rel => exact ⟨k + 1, by omega, by go_num, HIN.out⟩; case measure => simp [intOf]; omega)
              · have t3 : (kind == 3) = false := by simpa using k3
                have hin : AInv w p q se (k + 1) _ := ⟨_, _, HA.out, HTa.out, HL1.out.mono, HL2.out.mono⟩
                have HIN := Lib.hid hin
                clear hin
                go_wp2_with fail
                first | exact ⟨⟨k + 1, by omega, by go_num, HIN.out⟩, by simp [intOf]; omega⟩ | (go_roundw; case rel => exact ⟨k + 1, by omega, by go_num, HIN.out⟩; case measure => simp [intOf]; omega)
        · have ts : (se != who) = true := by simpa using hse
          by_cases k1 : kind = 1
          · subst k1
            go_wp2_with fail
            refine (add_all p T1 se (.int .i64 oa) _ HTa.out.t1 HG1.out).mono ?_
            rintro e w4 ⟨rfl, hT4, hK4⟩
            have hTw := HTa.out.one hT4 hK4 (fun b hb => .inl (by rw [foot_add] at hb; exact hb))
            have hin : AInv w p q who (k + 1) w4 := ⟨_, _, HA.out.add_other hse _, hTw, HL1.out.add HA.out.n1 _ _, HL2.out.mono⟩
            have HIN := Lib.hid hin
            clear hT4 hK4 hTw hin
            go_wp2_with fail
            first | exact ⟨⟨k + 1, by omega, by go_num, HIN.out⟩, by simp [intOf]; omega⟩ | (go_roundw; case rel => exact ⟨k + 1, by omega, by go_num, HIN.out⟩; case measure => simp [intOf]; omega)
          · have t1 : (kind == 1) = false := by simpa using k1
            by_cases k3 : kind = 3
            · subst k3
              go_wp2_with fail
              refine (end_all p T1 se oa ob _ HTa.out.t1).mono ?_
              rintro e w4 ⟨rfl, hT4, hK4⟩
              have hTw := HTa.out.one hT4 hK4 (fun b hb => .inl (by rw [foot_end] at hb; exact hb))
              have hin : AInv w p q who (k + 1) w4 := ⟨_, _, HA.out.end_other hse _ _, hTw, HL1.out.drop _ _ _, HL2.out.mono⟩
              have HIN := Lib.hid hin
              clear hT4 hK4 hTw hin
              go_wp2_with fail
              first | exact ⟨⟨k + 1, by omega, by go_num, HIN.out⟩, by simp [intOf]; omega⟩ | (go_roundw; case rel => exact ⟨k + 1, by omega, by go_num, HIN.out⟩; case measure => simp [intOf]; omega)
            · have t3 : (kind == 3) = false := by simpa using k3
              have hin : AInv w p q who (k + 1) _ := ⟨_, _, HA.out, HTa.out, HL1.out.mono, HL2.out.mono⟩
              have HIN := Lib.hid hin
              clear hin
              go_wp2_with fail
              first | exact ⟨⟨k + 1, by omega, by go_num, HIN.out⟩, by simp [intOf]; omega⟩ | (go_roundw; case rel => exact ⟨k + 1, by omega, by go_num, HIN.out⟩; case measure => simp [intOf]; omega)
    · go_wp2_with fail
      go_ret
      obtain ⟨T1, T2, _, hTwo, _⟩ := hI
      exact ⟨rfl, hTwo.below⟩
end Go.Proofs.Ytonjoboilpoamaa.apart
