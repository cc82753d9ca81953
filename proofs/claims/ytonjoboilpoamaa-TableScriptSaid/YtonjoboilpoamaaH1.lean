/- TableHolds. -/
import Derived.Test.YtonjoboilpoamaaHead
import Derived.Test.YtonjoboilpoamaaH0
import Derived.Maps.AppendAt
import Derived.Deep.RegionHeld3
import Derived.Deep.DrawnRows
namespace Go.Proofs.Ytonjoboilpoamaa.holds
set_option linter.unusedVariables false
open Go.RowKit Go.Proofs.Ytonjoboilpoamaa.wld Go.Proofs.Ytonjoboilpoamaa.imap Go.Proofs.Ytonjoboilpoamaa.tab

structure Op5 where
  kind : Int
  who : Int
  ses : Int
  a : Int
  b : Int
  deriving Inhabited

/-- the script's cells lie in w -/
def Script (w : World) (A : Option Addr) (ops : List Op5) : Prop :=
  ∀ i (h : i < ops.length), ∃ b off, A = some ⟨b, off, none⟩ ∧ w.cell? ⟨b, off + i * 5, none⟩ = some (.int .i64 (ops[i]).kind) ∧ w.cell? ⟨b, off + i * 5 + 1, none⟩ = some (.int .i64 (ops[i]).who) ∧
    w.cell? ⟨b, off + i * 5 + 2, none⟩ = some (.int .i64 (ops[i]).ses) ∧ w.cell? ⟨b, off + i * 5 + 3, none⟩ = some (.int .i64 (ops[i]).a) ∧ w.cell? ⟨b, off + i * 5 + 4, none⟩ = some (.int .i64 (ops[i]).b)

theorem info48 : (Try.prog.info? 48).map (fun i => (i.zero, i.size, i.bytes)) = some (some (.agg #[.int .i64 0, .int .i64 0, .int .i64 0, .int .i64 0, .bool false, .bool false]), 6, 40) := by kernel_rfl

attribute [local go_sem ↓] Go.wp_at_zero Go.wp_at_succ
def HInv (w : World) (tb L k : Nat) (v op : Value) (wr : World) : Prop :=
  ∃ T all, Inv T all ∧ TabAt wr tb T ∧ wr.ownsRow w.heap.size 48 6 v all.length (cellsOf all) ∧ (∃ g cap, v = .slice (some ⟨g, 0, none⟩) all.length cap) ∧ op = .int .i64 (sumTo T.cnt 3) ∧ Below w.heap.size w wr ∧
    (∀ b, foot tb T b → w.heap.size ≤ b) ∧ T.life ≤ 1 + k ∧ (∀ s, s < 3 → T.g s ≤ k) ∧ sumTo T.cnt 3 ≤ k ∧ all.length ≤ k

set_option maxRecDepth 100000 in
set_option maxHeartbeats 8000000 in
theorem holds_walk (A : Option Addr) (cap : Nat) (ops : List Op5) (w : World) (hS : Script w A ops) (hlen : ops.length * 40 ≤ 140737488351232) :
    Calls Try.prog 6 #[.slice A ops.length cap] w fun e w' => e = .returned (.bool true) ∧ Below w.heap.size w w' := by
  have HH := Lib.hid (head_yes w)
  go_enter Try.func6, Try.ntmps6
  go_wp2_with fail
  refine HH.out.mono ?_
  rintro e w1 ⟨rfl, hb1⟩
  have HN := Lib.hid (new_yes 3 1 w1 (by omega) (by omega) (by omega) (by omega))
  go_wp2_with fail
  refine HN.out.mono ?_
  rintro e w2 ⟨tb, T, rfl, hT, hb2, hf, hns, hl, hg, hcnt, hff⟩
  have hns2 : T.ns = 3 := hns
  have HT := Lib.hid hT
  have HB1 := Lib.hid hb1
  have HB2 := Lib.hid hb2
  have HF := Lib.hid hf
  have Hns := Lib.hid hns2
  have Hl := Lib.hid hl
  have Hg := Lib.hid hg
  have Hc := Lib.hid hcnt
  have Hff := Lib.hid hff
  have HSc := Lib.hid hS
  clear hT hb1 hb2 hf hns hns2 hl hg hcnt hff HN HH hS
  go_wp2_with fail
  generalize hL : ops.length = L at *
  go_loopw [5, 6, 36] (fun v op i wr => ∃ k : Nat, k ≤ L ∧ i = .int .i64 k ∧ HInv w tb L k v op wr) (fun _ _ i _ => L - (intOf i).toNat)
  case atStart =>
    refine ⟨0, Nat.zero_le _, rfl, T, [], ?_, ?_, ?_, ⟨w2.heap.size, 0, rfl⟩, ?_, ?_, ?_, ?_, ?_, ?_, ?_⟩
    · exact ⟨Hns.out, by simp, by simp, fun s y _ _ => by rw [Hff.out], fun s _ => by rw [Hg.out]; exact Int.le_refl _⟩
    · exact HT.out.kept ((Kept.refl (fun _ => False) w2).alloc _) (fun _ _ h => h)
    · exact World.ownsRow_made w2 #[] 0 (Nat.le_trans HB1.out.size HB2.out.size) (by decide) rfl
    · rw [Hc.out]; rfl
    · exact (HB1.out.trans (HB2.out.mono HB1.out.size)).alloc (Nat.le_trans HB1.out.size HB2.out.size) _
    · intro b hb; exact Nat.le_trans HB1.out.size (HF.out b hb)
    · rw [Hl.out]; omega
    · intro s _; rw [Hg.out]; exact Int.le_refl _
    · rw [Hc.out]; exact Nat.le_refl _
    · exact Nat.le_refl _
  case round =>
    obtain ⟨k, hk, rfl, hI⟩ := hrel
    by_cases hlt : k < L
    · obtain ⟨T, all, hI, hT, hO, ⟨g, cp, rfl⟩, rfl, hB, hF, hl, hg, hsum, hall⟩ := hI
      have hlt' : k < ops.length := by rw [hL]; exact hlt
      obtain ⟨b, off, rfl, c0, c1, c2, c3, c4⟩ := HSc.out k hlt'
      have hbb : b < w.heap.size := World.block_lt_of_cell? w _ c0
      have d0 := (hB.cell (p := ⟨b, off + k * 5, none⟩) hbb).trans c0
      have d1 := (hB.cell (p := ⟨b, off + k * 5 + 1, none⟩) hbb).trans c1
      have d2 := (hB.cell (p := ⟨b, off + k * 5 + 2, none⟩) hbb).trans c2
      have d3 := (hB.cell (p := ⟨b, off + k * 5 + 3, none⟩) hbb).trans c3
      have d4 := (hB.cell (p := ⟨b, off + k * 5 + 4, none⟩) hbb).trans c4
      clear c0 c1 c2 c3 c4
      generalize (ops[k]).kind = kind at *
      generalize (ops[k]).who = who at *
      generalize (ops[k]).ses = se at *
      generalize (ops[k]).a = oa at *
      generalize (ops[k]).b = ob at *
      have HI := Lib.hid hI
      have HT := Lib.hid hT
      have HO := Lib.hid hO
      have HB := Lib.hid hB
      have HF := Lib.hid hF
      have Hg := Lib.hid hg
      have HL := Lib.hid hL
      clear hI hT hO hB hF hg hL hlt'
      obtain ⟨wo, rfl⟩ : ∃ wo : World, wo = wr := ⟨_, rfl⟩
      have HH : ∀ (W : World), Below w.heap.size wo W → Kept (fun _ => False) wo W → HInv w tb L (k + 1) (.slice (some ⟨g, 0, none⟩) all.length cp) (.int .i64 (sumTo T.cnt 3)) W ∧ TabAt W tb T := fun W hb hk => by
        have hT' := HT.out.kept hk (fun _ _ h => h)
        refine ⟨⟨T, all, HI.out, hT', ?_, ⟨g, cp, rfl⟩, rfl, HB.out.trans hb, HF.out, by omega, fun s hs => by have := Hg.out s hs; omega, by omega, by omega⟩, hT'⟩
        exact row_kept HO.out (hk.block g (HO.out.lt g rfl).2 (fun h => h))
      have HHH := Lib.hid HH
      clear HH
      obtain ⟨s, hs, es⟩ := mod3 se
      have Es := Lib.hid es
      clear es
      by_cases k1 : kind = 1
      · subst k1
        go_wp2_with fail
        rw [Es.out]
        have gs : T.g s < 9223372036854775807 := by have := Hg.out s hs; omega
        have HA := Lib.hid (add_any tb T s (.int .i64 oa) _ (HT.out.kept ((Kept.refl (fun _ => False) wo).alloc (.cells #[.int .i64 1, .int .i64 who, .int .i64 se, .int .i64 oa, .int .i64 ob] 45)) (fun _ _ h => h)) (by rw [HI.out.ns]; exact hs) gs)
        clear gs
        refine HA.out.mono ?_
        rintro e w3 ⟨rfl, hT3, hk3⟩
        have HT3 := Lib.hid hT3
        have HK3 := Lib.hid hk3
        clear hT3 hk3
        go_wp2_with fail
        have b3 : Below w.heap.size wo w3 := ((Below.refl _ _).alloc HB.out.size _).trans (HK3.out.to_below (fun b hb h => by
          have h1 := HF.out b (by rcases h with h | h; exact .inr (.inr (.inl h)); exact .inr (.inr (.inr ⟨s, by rw [HI.out.ns]; exact hs, h⟩)))
          omega) (by simp; exact Nat.le_succ_of_le HB.out.size))
        have hO3 : w3.ownsRow w.heap.size 48 6 (.slice (some ⟨g, 0, none⟩) all.length cp) all.length (cellsOf all) := by
          have hgl := (HO.out.lt g rfl).2
          obtain ⟨cur, hcur⟩ := row_block HO.out
          have hfn := foot_ne HT.out hcur (by decide) (by decide) (by decide)
          refine row_kept (HO.out.alloc (.cells #[.int .i64 1, .int .i64 who, .int .i64 se, .int .i64 oa, .int .i64 ob] 45)) (HK3.out.block g (by simp; omega) ?_)
          rintro (h | h)
          · exact hfn T.gb (.inr (.inr (.inl rfl))) h.symm
          · exact hfn (T.m s) (.inr (.inr (.inr ⟨s, by rw [HI.out.ns]; exact hs, rfl⟩))) h.symm
        obtain ⟨wl, hwl⟩ : ∃ wl, wl = w3.alloc (.cells #[.int .i64 T.life, .int .i64 (T.g s + 1)] 33) := ⟨_, rfl⟩
        rw [← hwl]
        have q0 : wl.cell? ⟨w3.heap.size, 0, none⟩ = some (.int .i64 T.life) := by rw [hwl]; exact cellN rfl rfl
        have q1 : wl.cell? ⟨w3.heap.size, 1, none⟩ = some (.int .i64 (T.g s + 1)) := by rw [hwl]; exact cellN rfl rfl
        have p3 : wl.cell? ⟨wo.heap.size, 3, none⟩ = some (.int .i64 oa) := by
          rw [hwl]
          refine wld.cellA (HK3.out.cell (cellN rfl rfl) ?_) _
          have l1 := HT.out.lt (.inr (.inr (.inl rfl)))
          have l2 := HT.out.lt (.inr (.inr (.inr ⟨s, by rw [HI.out.ns]; exact hs, rfl⟩)))
          simp only [not_or]; omega
        have lp : wo.heap.size < wl.heap.size := World.block_lt_of_cell? wl _ p3
        have lq : w3.heap.size < wl.heap.size := World.block_lt_of_cell? wl _ q0
        have hO4 : wl.ownsRow w.heap.size 48 6 (.slice (some ⟨g, 0, none⟩) all.length cp) all.length (cellsOf all) := by rw [hwl]; exact hO3.alloc _
        have lg : g < wl.heap.size := (hO4.lt g rfl).2
        have Hwl := Lib.hid hwl
        have HO4 := Lib.hid hO4
        have HB3 := Lib.hid b3
        clear hwl hO3 hO4 b3
        go_loopw [61] (fun i wx => ∃ j : Nat, j ≤ all.length ∧ i = .int .i64 j ∧ Below wl.heap.size wl wx) (fun i _ => all.length - (intOf i).toNat)
        case atStart => exact ⟨0, Nat.zero_le _, rfl, Below.refl _ _⟩
        case round =>
          obtain ⟨j, hj, rfl, hbx⟩ := hrel
          by_cases hjl : j < all.length
          · have w0 := (hbx.cell (p := ⟨g, j * 6 + 0, none⟩) lg).trans (held_cell HO4.out j hjl 0 (by omega) _ rfl)
            have w1 := (hbx.cell (p := ⟨g, j * 6 + 1, none⟩) lg).trans (held_cell HO4.out j hjl 1 (by omega) _ rfl)
            have w2 := (hbx.cell (p := ⟨g, j * 6 + 2, none⟩) lg).trans (held_cell HO4.out j hjl 2 (by omega) _ rfl)
            have w3' := (hbx.cell (p := ⟨g, j * 6 + 3, none⟩) lg).trans (held_cell HO4.out j hjl 3 (by omega) _ rfl)
            have w4 := (hbx.cell (p := ⟨g, j * 6 + 4, none⟩) lg).trans (held_cell HO4.out j hjl 4 (by omega) _ rfl)
            have w5 := (hbx.cell (p := ⟨g, j * 6 + 5, none⟩) lg).trans (held_cell HO4.out j hjl 5 (by omega) _ rfl)
            have qx0 := (hbx.cell (p := ⟨w3.heap.size, 0, none⟩) lq).trans q0
            have qx1 := (hbx.cell (p := ⟨w3.heap.size, 1, none⟩) lq).trans q1
            have lqx : w3.heap.size < wr.heap.size := Nat.lt_of_lt_of_le lq hbx.size
            have hnew := HI.out.new s hs _ (List.getElem_mem hjl)
            have Hnew := Lib.hid hnew
            have HBX := Lib.hid hbx
            clear hnew hbx
            simp only [Nat.add_zero] at w0
            generalize hj1 : (all[j]).s = js at *
            generalize hj2 : (all[j]).life = jl at *
            generalize hj3 : (all[j]).num = jn at *
            generalize hj4 : (all[j]).x = jx at *
            generalize hj5 : (all[j]).ended = je at *
            generalize hj6 : (all[j]).turned = jt at *
            clear hj1 hj2 hj3 hj4 hj5 hj6
            by_cases es' : js = s
            · subst es'
              by_cases el : jl = T.life
              · have en : (jn == T.g js + 1) = false := by simpa using Hnew.out rfl el
                subst el
                go_wp2_with fail
                go_roundw
                case rel => exact ⟨j + 1, by omega, by go_num, HBX.out.alloc HBX.out.size _⟩
                case measure => simp [intOf]; omega
              · have en : (jl == T.life) = false := by simpa using el
                go_wp2_with fail
                go_roundw
                case rel => exact ⟨j + 1, by omega, by go_num, HBX.out.alloc HBX.out.size _⟩
                case measure => simp [intOf]; omega
            · have en : ((js : Int) == (s : Int)) = false := by simp; omega
              go_wp2_with fail
              go_roundw
              case rel => exact ⟨j + 1, by omega, by go_num, HBX.out.alloc HBX.out.size _⟩
              case measure => simp [intOf]; omega
          · have qx0 := (hbx.cell (p := ⟨w3.heap.size, 0, none⟩) lq).trans q0
            have qx1 := (hbx.cell (p := ⟨w3.heap.size, 1, none⟩) lq).trans q1
            have px3 := (hbx.cell (p := ⟨wo.heap.size, 3, none⟩) lp).trans p3
            have lqx : w3.heap.size < wr.heap.size := Nat.lt_of_lt_of_le lq hbx.size
            have lpx : wo.heap.size < wr.heap.size := Nat.lt_of_lt_of_le lp hbx.size
            have hOx : wr.ownsRow w.heap.size 48 6 (.slice (some ⟨g, 0, none⟩) all.length cp) all.length (cellsOf all) :=
              HO4.out.kept (row := none) ⟨hbx.os, hbx.tape, hbx.output, hbx.size, fun i hi _ => hbx.block i hi⟩ (by simp [Value.ownBlock])
            have hbase : w.heap.size ≤ wr.heap.size := Nat.le_trans (Nat.le_of_lt (Nat.lt_of_le_of_lt HB.out.size lp)) hbx.size
            obtain ⟨i0, hi, hz0, hz1, hz2⟩ := info_parts info48
            have HBX := Lib.hid hbx
            have HOx := Lib.hid hOx
            have Hi := Lib.hid hi
            have Hz0 := Lib.hid hz0
            have Hz1 := Lib.hid hz1
            have Hz2 := Lib.hid hz2
            clear hbx hOx hi hz0 hz1 hz2
            have hmax : all.length + 1 ≤ maxLen := by unfold maxLen; omega
            have hbt : (all.length + 1) * 40 ≤ 140737488355328 := by omega
            go_wp2_with (at_builtin; refine wpList_append_own _ rfl _ _ 43 rfl w.heap.size 48 i0 _ 6 40 Try.underlying43 Hi.out Hz0.out Hz1.out Hz2.out rfl (by decide) _ _ _ rfl (HOx.out.alloc _) ⟨wr.heap.size, 0, none⟩ 1 1 (Hd.cells ⟨s, T.life, T.g s + 1, oa, false, false⟩) rfl rfl (newcells wr _ _) (by simp [Hd.cells, Value.oneCell']) hmax hbt (by simp; omega) ?_; intro v5 w5 hown5 hgrow5' hnn5; have hgrow5 : World.grownBy _ w5 (some g) := hgrow5'; clear hgrow5'; obtain ⟨g5, cp5, rfl⟩ := row_form hown5 (by omega))
            have hk5 : Kept (fun i => i = g) wr w5 := by
              have h1 : Kept (fun i => i = g) wr (wr.alloc (.cells (Hd.cells ⟨s, T.life, T.g s + 1, oa, false, false⟩).toArray 48)) := (Kept.refl _ _).alloc _
              exact h1.then ⟨hgrow5.os, hgrow5.tape, hgrow5.output, hgrow5.size, fun i hi hne => hgrow5.block i hi (by simpa using hne)⟩ (fun _ _ h => h)
            have hTr : TabAt wr tb (T.add s (.int .i64 oa)) := by
              have h1 := HT3.out.kept ((Kept.refl (fun _ => False) w3).alloc (.cells #[.int .i64 T.life, .int .i64 (T.g s + 1)] 33)) (fun _ _ h => h)
              rw [← Hwl.out] at h1
              exact h1.kept (Kept.of_below HBX.out (fun _ => False)) (fun _ _ h => h)
            obtain ⟨cur, hcur⟩ := row_block HOx.out
            have hT5 := hTr.kept hk5 (foot_ne hTr hcur (by decide) (by decide) (by decide))
            obtain ⟨hI5, hs5⟩ := HI.out.add s hs oa HT.out.old
            have hop := open_any tb (T.add s (.int .i64 oa)) w5 hT5 (by rw [hI5.ns, hs5]; omega)
            rw [hI5.ns, hs5] at hop
            have HOP := Lib.hid hop
            have hB5 : Below w.heap.size w w5 := (HB.out.trans HB3.out).trans ((by rw [Hwl.out]; exact (Below.refl _ _).alloc (Nat.le_trans HB.out.size HB3.out.size) _ : Below w.heap.size w3 wl).trans ((HBX.out.mono (Nat.le_trans HB.out.size (Nat.le_of_lt lp))).trans (hk5.to_below (fun b hb h => by
              have := (HOx.out.lt g rfl).1
              omega) hbase)))
            have hin : ∃ T' all', Inv T' all' ∧ TabAt w5 tb T' ∧ w5.ownsRow w.heap.size 48 6 (.slice (some ⟨g5, 0, none⟩) (all.length + 1) cp5) all'.length (cellsOf all') ∧ (∃ g' cap', Value.slice (some ⟨g5, 0, none⟩) (all.length + 1) cp5 = .slice (some ⟨g', 0, none⟩) all'.length cap') ∧
                (Value.int .i64 ((sumTo T.cnt 3 : Nat) + 1 : Int)) = .int .i64 (sumTo T'.cnt 3) ∧ Below w.heap.size w w5 ∧ (∀ b, foot tb T' b → w.heap.size ≤ b) ∧ T'.life ≤ 1 + (k + 1 : Nat) ∧ (∀ s, s < 3 → T'.g s ≤ (k + 1 : Nat)) ∧ sumTo T'.cnt 3 ≤ k + 1 ∧ all'.length ≤ k + 1 := by
              refine ⟨T.add s (.int .i64 oa), all ++ [⟨s, T.life, T.g s + 1, oa, false, false⟩], hI5, hT5, ?_, ⟨g5, cp5, by simp⟩, by rw [hs5]; simp, hB5, HF.out, ?_, ?_, by omega, by simp; omega⟩
              · rw [cellsOf_append]
                have : (all ++ [(⟨s, T.life, T.g s + 1, oa, false, false⟩ : Hd)]).length = all.length + 1 := by simp
                rw [this]
                simpa [cellsOf] using hown5
              · show T.life ≤ _; omega
              · intro s' hs'
                have h1 := Hg.out s' hs'
                have h2 := Hg.out s hs
                simp only [Tb.add]
                split <;> omega
            have HIN := Lib.hid hin
            clear hk5 hTr hcur hT5 hI5 hs5 hop hB5 hin hown5 hgrow5 hnn5 hmax hbt
            refine HOP.out.mono ?_
            rintro e w6 ⟨rfl, rfl⟩
            go_wp2_with fail
            go_roundw
            case rel => exact ⟨k + 1, by omega, by go_num, HIN.out⟩
            case measure => simp [intOf]; omega
      · by_cases k3 : kind = 3
        · subst k3
          by_cases h0 : all.length = 0
          · have h0' : ((all.length : Int) == 0) = true := by simpa using h0
            go_wp2_with fail
            exact ⟨⟨k + 1, by omega, by go_num, (HHH.out _ ((Below.refl _ _).alloc HB.out.size _) ((Kept.refl _ _).alloc _)).1⟩, by simp [intOf]; omega⟩
          · have h0' : ((all.length : Int) == 0) = false := by simpa using h0
            have h0p : 0 < (all.length : Int) := by omega
            obtain ⟨i, hi, ei⟩ := modn oa all.length (by omega) (by omega)
            have Ei := Lib.hid ei
            clear h0 ei
            go_wp2_with fail
            rw [Ei.out]
            have hgl := (HO.out.lt g rfl).2
            have w0 := wld.cellA (held_cell HO.out i hi 0 (by omega) _ rfl) (.cells #[.int .i64 3, .int .i64 who, .int .i64 se, .int .i64 oa, .int .i64 ob] 45)
            have w1' := wld.cellA (held_cell HO.out i hi 1 (by omega) _ rfl) (.cells #[.int .i64 3, .int .i64 who, .int .i64 se, .int .i64 oa, .int .i64 ob] 45)
            have w2' := wld.cellA (held_cell HO.out i hi 2 (by omega) _ rfl) (.cells #[.int .i64 3, .int .i64 who, .int .i64 se, .int .i64 oa, .int .i64 ob] 45)
            have w4 := wld.cellA (held_cell HO.out i hi 4 (by omega) _ rfl) (.cells #[.int .i64 3, .int .i64 who, .int .i64 se, .int .i64 oa, .int .i64 ob] 45)
            have w5 := wld.cellA (held_cell HO.out i hi 5 (by omega) _ rfl) (.cells #[.int .i64 3, .int .i64 who, .int .i64 se, .int .i64 oa, .int .i64 ob] 45)
            simp only [Nat.add_zero] at w0
            have hi0 : (0 : Int) ≤ (i : Int) := by omega
            have hi1 : (i : Int) < (all.length : Int) := by omega
            have HT2 := Lib.hid (HT.out.kept ((Kept.refl (fun _ => False) wo).alloc (.cells #[.int .i64 3, .int .i64 who, .int .i64 se, .int .i64 oa, .int .i64 ob] 45)).drew (fun _ _ h => h))
            have hm : all[i] ∈ all := List.getElem_mem hi
            have hE := HI.out.each _ hm
            have hgt : (all[i]).turned = false → (all[i]).life = T.life ∧ 1 ≤ (all[i]).num ∧ (all[i]).num ≤ T.g (all[i]).s ∧ T.f (all[i]).s (all[i]).num = if (all[i]).ended then none else some (.int .i64 (all[i]).x) := hE.2.2.2
            have hs3 := hE.1
            obtain ⟨cur, hcur⟩ := row_block HO.out
            have hfn := foot_ne HT.out hcur (by decide) (by decide) (by decide)
            have hng : ¬ g = T.m (all[i]).s := fun e => hfn (T.m (all[i]).s) (.inr (.inr (.inr ⟨_, by rw [HI.out.ns]; exact hs3, rfl⟩))) e.symm
            have HFN := Lib.hid hfn
            clear hcur hfn
            have HGT := Lib.hid hgt
            have HM := Lib.hid hm
            clear hgt hm hE
            by_cases hok : (all[i]).ended = false ∧ (all[i]).turned = false
            · obtain ⟨o1, o2⟩ := hok
              obtain ⟨r1, r2, r3, r4⟩ := HGT.out o2
              rw [o1] at r4
              simp only [Bool.false_eq_true, if_false] at r4
              have HE := Lib.hid (fun (W : World) (hW : TabAt W tb T) => end_yes tb T (all[i]).s (all[i]).num _ W hW (by rw [HI.out.ns]; exact hs3) r2 r3 r4)
              rw [← r1] at HE
              clear r1 r2 r3 r4
              rw [o1] at w4
              rw [o2] at w5
              go_region_held3 (fun w' => w'.cell? ⟨g, i * 6, none⟩ = some (.int .i64 (all[i]).s) ∧ w'.cell? ⟨g, i * 6 + 1, none⟩ = some (.int .i64 (all[i]).life) ∧ w'.cell? ⟨g, i * 6 + 2, none⟩ = some (.int .i64 (all[i]).num)) (first | go_keep | exact ⟨hke.cell (p := ⟨g, i * 6, none⟩) w0 hng, hke.cell (p := ⟨g, i * 6 + 1, none⟩) w1' hng, hke.cell (p := ⟨g, i * 6 + 2, none⟩) w2' hng⟩)
                (first | (go_at_call 16; refine (HE.out _ ?_).mono ?_; (exact HT2.out); rintro e w' ⟨rfl, hTe, hke⟩))
              have z4 := hke.cell (p := ⟨g, i * 6 + 4, none⟩) w4 hng
              have z5 := hke.cell (p := ⟨g, i * 6 + 5, none⟩) w5 hng
              have hO6 : w'.ownsRow w.heap.size 48 6 (.slice (some ⟨g, 0, none⟩) all.length cp) all.length (cellsOf all) :=
                row_kept ((HO.out.alloc (.cells #[.int .i64 3, .int .i64 who, .int .i64 se, .int .i64 oa, .int .i64 ob] 45)).drew) (hke.block g (by simp; omega) hng)
              have fz := hO6.frozenAt (i * 6 + 4)
              have hcp : 0 < T.cnt (all[i]).s := by
                obtain ⟨r1, r2, r3, r4⟩ := HGT.out o2
                rw [o1] at r4
                exact (HT.out.maps _ (by rw [HI.out.ns]; exact hs3)).pos r4
              obtain ⟨hI6, hs6⟩ := HI.out.drop i hi o1 o2 hcp
              have hset : (cellsOf all).set (i * 6 + 4) (.bool true) = cellsOf (all.set i { all[i] with ended := true }) := cellsOf_set all i hi 4 (by omega) _ _ rfl
              obtain ⟨hO7, hg7⟩ := hO6.stored (i * 6 + 4) (.bool true)
              have hk7 : Kept (fun i => i = g) w' (w'.setCell ⟨g, i * 6 + 4, none⟩ (.bool true)) := Kept.set (F := fun i => i = g) (p := ⟨g, i * 6 + 4, none⟩) (Kept.refl _ _) (.inr rfl) _
              obtain ⟨cur7, hcur7⟩ := row_block hO6
              have hT7 := hTe.kept hk7 (foot_ne hTe hcur7 (by decide) (by decide) (by decide))
              have hop := open_any tb _ _ hT7 (by rw [hI6.ns]; omega)
              rw [hI6.ns] at hop
              have hB7 : Below w.heap.size w (w'.setCell ⟨g, i * 6 + 4, none⟩ (.bool true)) := by
                have h1 : Kept (fun b => w.heap.size ≤ b) wo (w'.setCell ⟨g, i * 6 + 4, none⟩ (.bool true)) :=
                  ((((Kept.refl _ _).alloc _).drew).then hke (fun j hj h => by rw [h]; exact HF.out _ (.inr (.inr (.inr ⟨_, by rw [HI.out.ns]; exact hs3, rfl⟩))))).then hk7 (fun j hj h => by rw [h]; exact (HO.out.lt g rfl).1)
                exact HB.out.trans (h1.to_below (fun b hb h => by omega) HB.out.size)
              have hin : ∃ T' all', Inv T' all' ∧ TabAt (w'.setCell ⟨g, i * 6 + 4, none⟩ (.bool true)) tb T' ∧ (w'.setCell ⟨g, i * 6 + 4, none⟩ (.bool true)).ownsRow w.heap.size 48 6 (.slice (some ⟨g, 0, none⟩) all.length cp) all'.length (cellsOf all') ∧ (∃ g' cap', Value.slice (some ⟨g, 0, none⟩) all.length cp = .slice (some ⟨g', 0, none⟩) all'.length cap') ∧
                  (Value.int .i64 ((sumTo T.cnt 3 : Nat) - 1 : Int)) = .int .i64 (sumTo T'.cnt 3) ∧ Below w.heap.size w (w'.setCell ⟨g, i * 6 + 4, none⟩ (.bool true)) ∧ (∀ b, foot tb T' b → w.heap.size ≤ b) ∧ T'.life ≤ 1 + (k + 1 : Nat) ∧ (∀ s, s < 3 → T'.g s ≤ (k + 1 : Nat)) ∧ sumTo T'.cnt 3 ≤ k + 1 ∧ all'.length ≤ k + 1 := by
                refine ⟨_, _, hI6, hT7, ?_, ⟨g, cp, by simp⟩, ?_, hB7, HF.out, ?_, ?_, by omega, by simp; omega⟩
                · rw [← hset, List.length_set]; exact hO7
                · rw [← hs6]; simp
                · show T.life ≤ _; omega
                · intro s' hs'
                  have h1 := Hg.out s' hs'
                  show T.g s' ≤ _
                  omega
              have e9 : ((sumTo T.cnt 3 : Nat) - 1 : Int) = (sumTo (T.drop (all[i]).s (all[i]).num).cnt 3 : Int) := by omega
              have e8 : (1 : Int) ≤ (sumTo T.cnt 3 : Int) := by omega
              have HIN := Lib.hid hin
              have HOP := Lib.hid hop
              have E9 := Lib.hid e9
              clear e9 hI6 hs6 hset hO7 hg7 hk7 hcur7 hT7 hop hB7 hin hcp hO6 hTe hke
              clear w0 w1' w2' w4 w5
              go_wp2_with fail
              rw [E9.out]
              refine HOP.out.mono ?_
              rintro e w6 ⟨rfl, rfl⟩
              go_wp2_with fail
              go_roundw
              case rel => exact ⟨k + 1, by omega, by go_num, by rw [← E9.out]; exact HIN.out⟩
              case measure => simp [intOf]; omega
            · have hne : (T.find (.int .i64 0) (all[i]).s (all[i]).life (all[i]).num).2 ≠ 0 := by
                rw [HI.out.find HM.out]
                cases h1 : (all[i]).turned with
                | true => simp
                | false =>
                  cases h2 : (all[i]).ended with
                  | true => simp
                  | false => exact absurd ⟨h2, h1⟩ hok
              have HE := Lib.hid (fun (W : World) (hW : TabAt W tb T) => end_no tb T (all[i]).s (all[i]).life (all[i]).num W hW hne)
              generalize (T.find (.int .i64 0) (all[i]).s (all[i]).life (all[i]).num).2 = c at *
              have hc : (c == 0) = false := by simpa using hne
              clear hne
              generalize (all[i]).ended = ie at *
              generalize (all[i]).turned = it at *
              generalize (all[i]).s = is at *
              generalize (all[i]).life = il at *
              generalize (all[i]).num = inn at *
              go_region_held3 (fun w' => w'.cell? ⟨g, i * 6, none⟩ = some (.int .i64 is) ∧ w'.cell? ⟨g, i * 6 + 1, none⟩ = some (.int .i64 il) ∧ w'.cell? ⟨g, i * 6 + 2, none⟩ = some (.int .i64 inn)) (first | go_keep | exact ⟨(hbe.cell (p := ⟨g, i * 6, none⟩) (by simp; omega)).trans w0, (hbe.cell (p := ⟨g, i * 6 + 1, none⟩) (by simp; omega)).trans w1', (hbe.cell (p := ⟨g, i * 6 + 2, none⟩) (by simp; omega)).trans w2'⟩)
                (first | (go_at_call 16; refine (HE.out _ ?_).mono ?_; (exact HT2.out); rintro e w' ⟨rfl, hbe⟩))
              have z4 := (hbe.cell (p := ⟨g, i * 6 + 4, none⟩) (by simp; omega)).trans w4
              have z5 := (hbe.cell (p := ⟨g, i * 6 + 5, none⟩) (by simp; omega)).trans w5
              have hk7 : Kept (fun _ => False) wo w' := (((Kept.refl _ _).alloc _).drew).then (Kept.of_below hbe (fun _ => False)) (fun _ _ h => h)
              have hb7 : Below w.heap.size wo w' := hk7.to_below (fun _ _ h => h) HB.out.size
              obtain ⟨hin, hT7⟩ := HHH.out w' hb7 hk7
              have hop := open_any tb T w' hT7 (by rw [HI.out.ns]; omega)
              rw [HI.out.ns] at hop
              have HIN := Lib.hid hin
              have HOP := Lib.hid hop
              clear hin hop hT7 hb7 hk7 hbe w0 w1' w2' w4 w5
              have hor : ie = true ∨ (ie = false ∧ it = true) := by
                cases ie with
                | true => exact .inl rfl
                | false => cases it with
                  | true => exact .inr ⟨rfl, rfl⟩
                  | false => exact absurd ⟨rfl, rfl⟩ hok
              clear hok
              rcases hor with rfl | ⟨rfl, rfl⟩
              all_goals
                go_wp2_with fail
                refine HOP.out.mono ?_
                rintro e w6 ⟨rfl, rfl⟩
                go_wp2_with fail
                go_roundw
                case rel => exact ⟨k + 1, by omega, by go_num, HIN.out⟩
                case measure => simp [intOf]; omega
        · by_cases k6 : kind = 6
          · subst k6
            have hl6 : T.life < 9223372036854775807 := by omega
            have HTu := Lib.hid (turn_any tb T _ (HT.out.kept ((Kept.refl (fun _ => False) wo).alloc (.cells #[.int .i64 6, .int .i64 who, .int .i64 se, .int .i64 oa, .int .i64 ob] 45)) (fun _ _ h => h)) hl6)
            go_wp2_with fail
            refine HTu.out.mono ?_
            rintro e w3 ⟨rfl, hT3, hk3⟩
            have hO3 : w3.ownsRow w.heap.size 48 6 (.slice (some ⟨g, 0, none⟩) all.length cp) all.length (cellsOf all) := by
              have hgl := (HO.out.lt g rfl).2
              obtain ⟨cur, hcur⟩ := row_block HO.out
              have hfn := foot_ne HT.out hcur (by decide) (by decide) (by decide)
              refine row_kept (HO.out.alloc (.cells #[.int .i64 6, .int .i64 who, .int .i64 se, .int .i64 oa, .int .i64 ob] 45)) (hk3.block g (by simp; omega) ?_)
              rintro (h | h)
              · exact hfn tb (.inl rfl) h.symm
              · exact hfn T.gb (.inr (.inr (.inl rfl))) h.symm
            have hk30 : Kept (fun b => b = tb ∨ b = T.gb) wo w3 := ((Kept.refl _ _).alloc _).trans hk3
            have HK3 := Lib.hid hk30
            have HO3 := Lib.hid hO3
            have HT3 := Lib.hid hT3
            clear hT3 hk3 hO3 hk30
            go_wp2_with fail
            go_loopw [145] (fun i wx => ∃ j : Nat, j ≤ all.length ∧ i = .int .i64 j ∧ Kept (fun b => b = g) w3 wx ∧ wx.ownsRow w.heap.size 48 6 (.slice (some ⟨g, 0, none⟩) all.length cp) all.length (cellsOf (turnN j all))) (fun i _ => all.length - (intOf i).toNat)
            case atStart => exact ⟨0, Nat.zero_le _, rfl, Kept.refl _ _, HO3.out⟩
            case round =>
              obtain ⟨j, hj, rfl, hkx, hOx⟩ := hrel
              by_cases hjl : j < all.length
              · have c5 := held_cell hOx j (by rw [turnN_length]; exact hjl) 5 (by omega) _ rfl
                have f5 := hOx.frozenAt (j * 6 + 5)
                obtain ⟨hO7, _⟩ := hOx.stored (j * 6 + 5) (.bool true)
                rw [turnN_cells j all hjl] at hO7
                have HO7 := Lib.hid hO7
                have HKX := Lib.hid hkx
                have hj0 : (0 : Int) ≤ (j : Int) := by omega
                have hj1 : (j : Int) < (all.length : Int) := by omega
                clear hO7 hkx hOx
                go_wp2_with fail
                go_roundw
                case rel => exact ⟨j + 1, by omega, by go_num, HKX.out.set (p := ⟨g, j * 6 + 5, none⟩) (.inr rfl) _, HO7.out⟩
                case measure => simp [intOf]; omega
              · have ej : j = all.length := by omega
                subst ej
                rw [turnN_all] at hOx
                obtain ⟨cur7, hcur7⟩ := row_block HO3.out
                have hT7 := HT3.out.kept hkx (foot_ne HT3.out hcur7 (by decide) (by decide) (by decide))
                have hw0 : (wo.alloc (.cells #[.int .i64 6, .int .i64 who, .int .i64 se, .int .i64 oa, .int .i64 ob] 45)).heap.size = wo.heap.size + 1 := size_alloc _ _
                rw [hw0] at hT7
                obtain ⟨hI7, hs7⟩ := HI.out.turn (wo.heap.size + 1) T.gb
                have hop := open_any tb _ wr hT7 (by rw [hI7.ns, hs7]; omega)
                rw [hI7.ns, hs7] at hop
                have hB7 : Below w.heap.size w wr := by
                  have h1 : Kept (fun b => w.heap.size ≤ b) wo wr := (HK3.out.mono (fun b _ h => by
                    rcases h with rfl | rfl
                    · exact HF.out _ (.inl rfl)
                    · exact HF.out _ (.inr (.inr (.inl rfl))))).then hkx (fun j hj h => by rw [h]; exact (HO.out.lt g rfl).1)
                  exact HB.out.trans (h1.to_below (fun b hb h => by omega) HB.out.size)
                have hF7 : ∀ b, foot tb (fresh (wo.heap.size + 1) T.gb T.ns (T.life + 1)) b → w.heap.size ≤ b := by
                  intro b hb
                  have hsz := HB.out.size
                  rcases hb with rfl | h | rfl | ⟨j, _, h⟩
                  · exact HF.out _ (.inl rfl)
                  · simp [fresh] at h; omega
                  · exact HF.out _ (.inr (.inr (.inl rfl)))
                  · simp [fresh] at h; omega
                have hin : HInv w tb L (k + 1) (.slice (some ⟨g, 0, none⟩) all.length cp) (.int .i64 0) wr := by
                  refine ⟨_, _, hI7, hT7, ?_, ⟨g, cp, by simp⟩, by rw [hs7]; rfl, hB7, hF7, ?_, ?_, by omega, by simp; omega⟩
                  · rw [List.length_map]; exact hOx
                  · show T.life + 1 ≤ _; omega
                  · intro s' hs'; show (0 : Int) ≤ _; omega
                have HIN := Lib.hid hin
                have HOP := Lib.hid hop
                clear hT7 hw0 hI7 hs7 hop hB7 hF7 hin hOx hkx hcur7
                go_wp2_with fail
                refine HOP.out.mono ?_
                rintro e w6 ⟨rfl, rfl⟩
                go_wp2_with fail
                go_roundw
                case rel => exact ⟨k + 1, by omega, by go_num, HIN.out⟩
                case measure => simp [intOf]; omega
          · have t1 : (kind == 1) = false := by simpa using k1
            have t3 : (kind == 3) = false := by simpa using k3
            have t6 : (kind == 6) = false := by simpa using k6
            clear k1 k3 k6
            have hk7 : Kept (fun _ => False) wo (wo.alloc (.cells #[.int .i64 kind, .int .i64 who, .int .i64 se, .int .i64 oa, .int .i64 ob] 45)) := (Kept.refl _ _).alloc _
            obtain ⟨hin, hT7⟩ := HHH.out _ (hk7.to_below (fun _ _ h => h) HB.out.size) hk7
            have hop := open_any tb T _ hT7 (by rw [HI.out.ns]; omega)
            rw [HI.out.ns] at hop
            have HIN := Lib.hid hin
            have HOP := Lib.hid hop
            clear hin hop hT7 hk7
            go_wp2_with fail
            refine HOP.out.mono ?_
            rintro e w6 ⟨rfl, rfl⟩
            go_wp2_with fail
            go_roundw
            case rel => exact ⟨k + 1, by omega, by go_num, HIN.out⟩
            case measure => simp [intOf]; omega
    · obtain ⟨T, all, hI, hT, hO, ⟨g, cp, rfl⟩, rfl, hB, hF, hl, hg, hsum, hall⟩ := hI
      obtain ⟨wo, rfl⟩ : ∃ wo : World, wo = wr := ⟨_, rfl⟩
      have lg := (hO.lt g rfl).2
      have hall' : all.length ≤ L := by omega
      have HI := Lib.hid hI
      have HT := Lib.hid hT
      have HO := Lib.hid hO
      have HB := Lib.hid hB
      clear hI hT hO hB hF hg hsum hall hl
      go_wp2_with fail
      go_loopw [160] (fun i wx => ∃ j : Nat, j ≤ all.length ∧ i = .int .i64 j ∧ Below wo.heap.size wo wx) (fun i _ => all.length - (intOf i).toNat)
      case atStart => exact ⟨0, Nat.zero_le _, rfl, Below.refl _ _⟩
      case round =>
        obtain ⟨j, hj, rfl, hbx⟩ := hrel
        by_cases hjl : j < all.length
        · have w0 := (hbx.cell (p := ⟨g, j * 6 + 0, none⟩) lg).trans (held_cell HO.out j hjl 0 (by omega) _ rfl)
          have w1 := (hbx.cell (p := ⟨g, j * 6 + 1, none⟩) lg).trans (held_cell HO.out j hjl 1 (by omega) _ rfl)
          have w2 := (hbx.cell (p := ⟨g, j * 6 + 2, none⟩) lg).trans (held_cell HO.out j hjl 2 (by omega) _ rfl)
          have w3' := (hbx.cell (p := ⟨g, j * 6 + 3, none⟩) lg).trans (held_cell HO.out j hjl 3 (by omega) _ rfl)
          have w4 := (hbx.cell (p := ⟨g, j * 6 + 4, none⟩) lg).trans (held_cell HO.out j hjl 4 (by omega) _ rfl)
          have w5 := (hbx.cell (p := ⟨g, j * 6 + 5, none⟩) lg).trans (held_cell HO.out j hjl 5 (by omega) _ rfl)
          simp only [Nat.add_zero] at w0
          have hTx := HT.out.kept (Kept.of_below hbx (fun _ => False)) (fun _ _ h => h)
          have hTy := hTx.kept ((Kept.refl (fun _ => False) wr).alloc (.cells (Hd.cells all[j]).toArray 48)) (fun _ _ h => h)
          have hfd := find_any tb T (all[j]).s (all[j]).life (all[j]).num _ hTy
          rw [HI.out.find (List.getElem_mem hjl)] at hfd
          simp only [Hd.cells] at hfd
          have HBX := Lib.hid hbx
          have HFD := Lib.hid hfd
          clear hbx hTx hTy hfd
          generalize (all[j]).s = js at *
          generalize (all[j]).life = jl at *
          generalize (all[j]).num = jn at *
          generalize (all[j]).x = jx at *
          generalize (all[j]).ended = je at *
          generalize (all[j]).turned = jt at *
          have hz : ∀ (w7 : World), Below (wr.alloc (.cells #[.int .i64 js, .int .i64 jl, .int .i64 jn, .int .i64 jx, .bool je, .bool jt] 48)).heap.size (wr.alloc (.cells #[.int .i64 js, .int .i64 jl, .int .i64 jn, .int .i64 jx, .bool je, .bool jt] 48)) w7 →
              w7.cell? ⟨wr.heap.size, 3, none⟩ = some (.int .i64 jx) ∧ w7.cell? ⟨wr.heap.size, 4, none⟩ = some (.bool je) ∧ w7.cell? ⟨wr.heap.size, 5, none⟩ = some (.bool jt) ∧ Below wo.heap.size wo w7 := fun w7 hb7 =>
            ⟨(hb7.cell (p := ⟨wr.heap.size, 3, none⟩) (by simp)).trans (cellN (o := 3) rfl rfl), (hb7.cell (p := ⟨wr.heap.size, 4, none⟩) (by simp)).trans (cellN (o := 4) rfl rfl), (hb7.cell (p := ⟨wr.heap.size, 5, none⟩) (by simp)).trans (cellN (o := 5) rfl rfl),
              (HBX.out.alloc HBX.out.size _).trans (hb7.mono (by simp; exact Nat.le_succ_of_le HBX.out.size))⟩
          have HZ := Lib.hid hz
          clear hz
          have fin : ∀ (w7 : World), Below wo.heap.size wo w7 → (∃ j' : Nat, j' ≤ all.length ∧ Value.int .i64 ((j : Int) + 1) = .int .i64 j' ∧ Below wo.heap.size wo w7) ∧ (all.length - (intOf (.int .i64 ((j : Int) + 1))).toNat < all.length - (intOf (.int .i64 (j : Int))).toNat) :=
            fun w7 h => ⟨⟨j + 1, by omega, by go_num, h⟩, by simp [intOf]; omega⟩
          have FIN := Lib.hid fin
          clear fin
          cases jt with
          | true =>
            go_wp2_with fail
            refine HFD.out.mono ?_
            rintro e w7 ⟨rfl, hb7⟩
            obtain ⟨z3, z4, z5, hb8⟩ := HZ.out w7 hb7
            clear hb7 w0 w1 w2 w3' w4 w5
            go_wp2_with fail
            go_roundw
            case rel => exact (FIN.out _ hb8).1
            case measure => exact (FIN.out _ hb8).2
          | false =>
            cases je with
            | true =>
              go_wp2_with fail
              refine HFD.out.mono ?_
              rintro e w7 ⟨rfl, hb7⟩
              obtain ⟨z3, z4, z5, hb8⟩ := HZ.out w7 hb7
              clear hb7 w0 w1 w2 w3' w4 w5
              go_wp2_with fail
              go_roundw
              case rel => exact (FIN.out _ hb8).1
              case measure => exact (FIN.out _ hb8).2
            | false =>
              have ex : (jx != jx) = false := by simp
              go_wp2_with fail
              refine HFD.out.mono ?_
              rintro e w7 ⟨rfl, hb7⟩
              obtain ⟨z3, z4, z5, hb8⟩ := HZ.out w7 hb7
              clear hb7 w0 w1 w2 w3' w4 w5
              go_wp2_with fail
              go_roundw
              case rel => exact (FIN.out _ hb8).1
              case measure => exact (FIN.out _ hb8).2
        · go_wp2_with fail
          go_ret
          exact ⟨rfl, HB.out.trans (hbx.mono HB.out.size)⟩
end Go.Proofs.Ytonjoboilpoamaa.holds
