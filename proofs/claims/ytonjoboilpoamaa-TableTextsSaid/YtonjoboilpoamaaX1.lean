/- TableTexts: very. -/
import Derived.Test.YtonjoboilpoamaaTP
namespace Go.Proofs.Ytonjoboilpoamaa.very
set_option linter.unusedVariables false
open Go.RowKit Go.Proofs.Ytonjoboilpoamaa.wld Go.Proofs.Ytonjoboilpoamaa.imap Go.Proofs.Ytonjoboilpoamaa.tabp

set_option maxRecDepth 100000 in
set_option maxHeartbeats 8000000 in
theorem very_walk (n by_ : Int) (w : World) : Calls Try.prog 10 #[.int .i64 n, .int .i64 by_] w fun e w' => e = .returned (.bool true) ∧ Below w.heap.size w w' := by
  have HN := Lib.hid (new_yes 1 1 w (by omega) (by omega) (by omega) (by omega))
  go_enter Try.func10, Try.ntmps10
  go_wp2_with fail
  refine HN.out.mono ?_
  rintro e w1 ⟨tb, T, rfl, hT, hb, hf, hns, hl, hg, hcnt, hff⟩
  have hns2 : T.ns = 1 := hns
  have HT := Lib.hid hT
  have HB := Lib.hid hb
  have HF := Lib.hid hf
  have Hns := Lib.hid hns2
  have Hl := Lib.hid hl
  have Hg := Lib.hid hg
  have Hff := Lib.hid hff
  clear hT hb hf hns hns2 hl hg hcnt hff HN
  have g0 : T.g 0 = 0 := by rw [Hg.out]
  have Hg0 := Lib.hid g0
  clear g0
  go_wp2_with fail
  have hTa := HT.out.kept ((Kept.refl (fun _ => False) w1).alloc (.cells #[.int .i64 0, .int .i64 0, .int .i64 0, .int .i64 n, .int .i64 0] 45)) (fun _ _ h => h)
  have HA := Lib.hid (add_any tb T 0 (.pointer (some ⟨w1.heap.size, 0, none⟩)) _ hTa (by rw [Hns.out]; omega) (by rw [Hg0.out]; omega))
  clear hTa
  refine HA.out.mono ?_
  rintro e w2 ⟨rfl, hT2, hk2⟩
  rw [Hl.out, Hg0.out]
  have hnf : ∀ b, w1.heap.size ≤ b → ¬ (b = T.gb ∨ b = T.m 0) := fun b hb h => by
    have h1 := HT.out.lt (.inr (.inr (.inl rfl)))
    have h2 := HT.out.lt (.inr (.inr (.inr ⟨0, by rw [Hns.out]; omega, rfl⟩)))
    omega
  have x3 := hk2.cell (p := ⟨w1.heap.size, 3, none⟩) (cellN (o := 3) rfl rfl) (hnf _ (Nat.le_refl _))
  have x4 := hk2.cell (p := ⟨w1.heap.size, 4, none⟩) (cellN (o := 4) rfl rfl) (hnf _ (Nat.le_refl _))
  have f3 := hk2.free (p := ⟨w1.heap.size, 3, none⟩) (freeN (o := 3) rfl) (by simp) (hnf _ (Nat.le_refl _))
  have f4 := hk2.free (p := ⟨w1.heap.size, 4, none⟩) (freeN (o := 4) rfl) (by simp) (hnf _ (Nat.le_refl _))
  have lx := World.block_lt_of_cell? _ _ x3
  have hfind : (T.add 0 (.pointer (some ⟨w1.heap.size, 0, none⟩))).find (.pointer none) 0 1 1 = (.pointer (some ⟨w1.heap.size, 0, none⟩), 0) := by
    simp [Tb.find, Tb.add, Hns.out, Hl.out, Hg.out, Hff.out, setAt]
  have HT2 := Lib.hid hT2
  have HK2 := Lib.hid hk2
  have Hfind := Lib.hid hfind
  clear hT2 hk2 hnf hfind
  go_wp2_with fail
  have hX : ∀ b, foot tb (T.add 0 (.pointer (some ⟨w1.heap.size, 0, none⟩))) b → b ≠ w1.heap.size ∧ b ≠ w2.heap.size := fun b hb => by
    have h1 := HT.out.lt (b := b) hb
    omega
  have hTa := HT2.out.kept ((Kept.refl (fun _ => False) w2).alloc (.cells #[.int .i64 1, .int .i64 1] 33)) (fun _ _ h => h)
  have hc := find_any tb _ 0 1 1 _ hTa
  rw [Hfind.out] at hc
  have HC := Lib.hid hc
  have HX := Lib.hid hX
  have HTa := Lib.hid hTa
  clear hc hX hTa
  refine HC.out.mono ?_
  rintro e w3 ⟨rfl, hb3⟩
  have hk3 := Kept.of_below hb3 (fun _ => False)
  have z3 := hk3.cell (p := ⟨w1.heap.size, 3, none⟩) (wld.cellA x3 _) (fun h => h)
  have z4 := hk3.cell (p := ⟨w1.heap.size, 4, none⟩) (wld.cellA x4 _) (fun h => h)
  have e3 := hk3.free (p := ⟨w1.heap.size, 3, none⟩) (freeA f3 lx _) (by simp; omega) (fun h => h)
  have e4 := hk3.free (p := ⟨w1.heap.size, 4, none⟩) (freeA f4 lx _) (by simp; omega) (fun h => h)
  have y0 := hk3.cell (p := ⟨w2.heap.size, 0, none⟩) (cellN (o := 0) (v := .int .i64 1) rfl rfl) (fun h => h)
  have y1 := hk3.cell (p := ⟨w2.heap.size, 1, none⟩) (cellN (o := 1) (v := .int .i64 1) rfl rfl) (fun h => h)
  have ne1 : w1.heap.size ≠ w2.heap.size := by omega
  have ne2 : w2.heap.size ≠ w1.heap.size := by omega
  have hT3 := HTa.out.kept hk3 (fun _ _ h => h)
  have hk4 : Kept (fun b => b = w1.heap.size) w3 ((w3.setCell ⟨w1.heap.size, 3, none⟩ (.int .i64 by_)).setCell ⟨w1.heap.size, 4, none⟩ (.int .i64 n)) :=
    Kept.set (F := fun b => b = w1.heap.size) (p := ⟨w1.heap.size, 4, none⟩) (Kept.set (F := fun b => b = w1.heap.size) (p := ⟨w1.heap.size, 3, none⟩) (Kept.refl _ _) (.inr rfl) _) (.inr rfl) _
  have hT4 := hT3.kept hk4 (fun b hb => (HX.out b hb).1)
  have hc5 := find_any tb _ 0 1 1 _ hT4
  rw [Hfind.out] at hc5
  have HC5 := Lib.hid hc5
  have HT4 := Lib.hid hT4
  have HK4 := Lib.hid hk4
  have HB3 := Lib.hid hb3
  clear hk3 hT3 hk4 hT4 hc5 hb3 x3 x4 f3 f4
  go_wp2_with fail
  refine HC5.out.mono ?_
  rintro e w5 ⟨rfl, hb5⟩
  have hk5 := Kept.of_below hb5 (fun _ => False)
  have p3 := hk5.cell (p := ⟨w1.heap.size, 3, none⟩) (cellOff (cellPut z3 rfl) (by omega) _) (fun h => h)
  have p4 := hk5.cell (p := ⟨w1.heap.size, 4, none⟩) (cellPut (cellOff z4 (by omega) _) rfl) (fun h => h)
  have q0 := hk5.cell (p := ⟨w2.heap.size, 0, none⟩) (cellSet (cellSet y0 ne2 _) ne2 _) (fun h => h)
  have q1 := hk5.cell (p := ⟨w2.heap.size, 1, none⟩) (cellSet (cellSet y1 ne2 _) ne2 _) (fun h => h)
  have hT5 := HT4.out.kept hk5 (fun _ _ h => h)
  have hval : ((T.add 0 (.pointer (some ⟨w1.heap.size, 0, none⟩))).f 0 1) = some (.pointer (some ⟨w1.heap.size, 0, none⟩)) := by simp [Tb.add, Hg.out, setAt]
  have hlf : (T.add 0 (.pointer (some ⟨w1.heap.size, 0, none⟩))).life = 1 := Hl.out
  have hc6 := end_yes tb _ 0 1 _ _ hT5 (by simp [Tb.add, Hns.out]) (by omega) (by simp [Tb.add, Hg.out]) hval
  rw [hlf] at hc6
  have HC6 := Lib.hid hc6
  have HB5 := Lib.hid hb5
  clear hk5 hT5 hc6 hval hlf hb5 z3 z4 e3 e4 y0 y1
  go_wp2_with fail
  refine HC6.out.mono ?_
  rintro e w6 ⟨rfl, hT6, hk6⟩
  have hm : ∀ b, w1.heap.size ≤ b → ¬ b = (T.add 0 (.pointer (some ⟨w1.heap.size, 0, none⟩))).m 0 := fun b hb h => by
    have h2 := HT.out.lt (.inr (.inr (.inr ⟨0, by rw [Hns.out]; omega, rfl⟩)))
    simp only [Tb.add] at h
    omega
  have r3 := hk6.cell (p := ⟨w1.heap.size, 3, none⟩) p3 (hm _ (Nat.le_refl _))
  have r4 := hk6.cell (p := ⟨w1.heap.size, 4, none⟩) p4 (hm _ (Nat.le_refl _))
  have s0 := hk6.cell (p := ⟨w2.heap.size, 0, none⟩) q0 (hm w2.heap.size (by omega))
  have s1 := hk6.cell (p := ⟨w2.heap.size, 1, none⟩) q1 (hm w2.heap.size (by omega))
  have hfind7 : ((T.add 0 (.pointer (some ⟨w1.heap.size, 0, none⟩))).drop 0 1).find (.pointer none) 0 1 1 = (.pointer none, 182) := by
    simp [Tb.find, Tb.add, Tb.drop, Hns.out, Hl.out, Hg.out, setAt]
  have hc7 := find_any tb _ 0 1 1 _ hT6
  rw [hfind7] at hc7
  have HC7 := Lib.hid hc7
  have HK6 := Lib.hid hk6
  clear hc7 hT6 hk6 hfind7 hm p3 p4 q0 q1
  go_wp2_with fail
  refine HC7.out.mono ?_
  rintro e w7 ⟨rfl, hb7⟩
  have hk7 := Kept.of_below hb7 (fun _ => False)
  have t3 := hk7.cell (p := ⟨w1.heap.size, 3, none⟩) r3 (fun h => h)
  have HK7 := Lib.hid hk7
  clear hk7 hb7 r3 r4 s0 s1
  go_wp2_with fail
  go_ret
  refine ⟨by simp, ?_⟩
  have hs1 := HB.out.size
  have k1 : Kept (fun b => w.heap.size ≤ b) w (w1.alloc (.cells #[.int .i64 0, .int .i64 0, .int .i64 0, .int .i64 n, .int .i64 0] 45)) := (Kept.of_below HB.out _).alloc _
  have k2 := k1.then HK2.out (fun i hi h => HF.out i (by rcases h with h | h; exact .inr (.inr (.inl h)); exact .inr (.inr (.inr ⟨0, by rw [Hns.out]; omega, h⟩))))
  have k3 := (k2.alloc (.cells #[.int .i64 1, .int .i64 1] 33)).then (Kept.of_below HB3.out (fun _ => False)) (fun _ _ h => h.elim)
  have k4 := k3.then HK4.out (fun i hi h => by have e : i = w1.heap.size := h; omega)
  have k5 := k4.then (Kept.of_below HB5.out (fun _ => False)) (fun _ _ h => h.elim)
  have k6 := k5.then HK6.out (fun i hi h => by rw [h]; exact HF.out _ (.inr (.inr (.inr ⟨0, by rw [Hns.out]; omega, rfl⟩))))
  have k7 := k6.then HK7.out (fun _ _ h => h.elim)
  exact k7.to_below (fun b hb h => by omega) (Nat.le_refl _)
end Go.Proofs.Ytonjoboilpoamaa.very
