/- head: the fixed answer. -/
import Derived.Test.YtonjoboilpoamaaT6
namespace Go.Proofs.Ytonjoboilpoamaa.tab
open Go.RowKit Go.Proofs.Ytonjoboilpoamaa.wld Go.Proofs.Ytonjoboilpoamaa.imap

theorem head_yes (w : World) : Calls Try.prog 9 #[] w fun e w' => e = .returned (.bool true) ∧ Below w.heap.size w w' := by
  have HN := Lib.hid (new_yes 2 3 w (by omega) (by omega) (by omega) (by omega))
  go_enter Try.func9, Try.ntmps9
  go_wp2_with fail
  refine HN.out.mono ?_
  rintro e w1 ⟨tb, T, rfl, hT, hb, hf, hns, hl, hg, hcnt, hff⟩
  have hns2 : T.ns = 2 := hns
  have HT := Lib.hid hT
  have HB := Lib.hid hb
  have HF := Lib.hid hf
  have Hns := Lib.hid hns2
  have Hl := Lib.hid hl
  have Hg := Lib.hid hg
  have Hc := Lib.hid hcnt
  have Hff := Lib.hid hff
  clear hT hb hf hns hns2 hl hg hcnt hff HN
  have g1 : T.g 1 = 0 := by rw [Hg.out]
  have HA := Lib.hid (add_any tb T 1 (.int .i64 40) w1 HT.out (by rw [Hns.out]; omega) (by rw [g1]; omega))
  have Hg1 := Lib.hid g1
  clear g1
  go_wp2_with fail
  refine HA.out.mono ?_
  rintro e w2 ⟨rfl, hT2, hk2⟩
  rw [Hl.out, Hg1.out]
  have hfind : (T.add 1 (.int .i64 40)).find (.int .i64 0) 1 3 1 = (.int .i64 40, 0) := by
    simp [Tb.find, Tb.add, Hns.out, Hl.out, Hg.out, Hff.out, setAt]
  have hopen : sumTo (T.add 1 (.int .i64 40)).cnt (T.add 1 (.int .i64 40)).ns = 1 := by
    simp [Tb.add, Hns.out, Hc.out, Hff.out, Hg.out, sumTo, cntPut]
  have HT2 := Lib.hid hT2
  have HK2 := Lib.hid hk2
  clear hT2 hk2
  go_wp2_with fail
  have HFind := Lib.hid (fun u hu => (find_any tb (T.add 1 (.int .i64 40)) 1 3 1 u hu))
  rw [hfind] at HFind
  clear hfind
  have HT3 := Lib.hid (HT2.out.kept (F := fun _ => False) ((Kept.refl (fun _ => False) w2).alloc (.cells #[.int .i64 3, .int .i64 1] 33)) (fun _ _ h => h))
  refine (HFind.out _ HT3.out).mono ?_
  rintro e w3 ⟨rfl, hb3⟩
  have HT4 := Lib.hid (HT3.out.kept (Kept.of_below hb3 (fun _ => False)) (fun _ _ h => h))
  have HO := Lib.hid (open_any tb (T.add 1 (.int .i64 40)) w3 HT4.out (by rw [hopen]; omega))
  rw [hopen] at HO
  have c0 := (hb3.cell (p := ⟨w2.heap.size, 0, none⟩) (by simp)).trans (cellN (w := w2) (o := 0) (v := .int .i64 3) rfl rfl)
  have c1 := (hb3.cell (p := ⟨w2.heap.size, 1, none⟩) (by simp)).trans (cellN (w := w2) (o := 1) (v := .int .i64 1) rfl rfl)
  clear hopen
  have HB3 := Lib.hid hb3
  clear hb3
  go_wp2_with (go_at_call 18; refine HO.out.mono ?_; rintro e w4 ⟨rfl, rfl⟩)
  go_ret
  refine ⟨by simp, ?_⟩
  have k2 : Kept (fun b => w.heap.size ≤ b) w w2 := (Kept.of_below HB.out _).then HK2.out (fun i hi h => HF.out i (by rcases h with h | h; exact .inr (.inr (.inl h)); exact .inr (.inr (.inr ⟨1, by rw [Hns.out]; omega, h⟩))))
  exact ((k2.alloc _).then (Kept.of_below HB3.out (fun _ => False)) (fun _ _ h => h.elim)).to_below (fun b hb h => by omega) (Nat.le_refl _)
end Go.Proofs.Ytonjoboilpoamaa.tab
