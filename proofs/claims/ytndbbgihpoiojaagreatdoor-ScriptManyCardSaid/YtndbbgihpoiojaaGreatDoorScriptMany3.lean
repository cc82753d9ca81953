/- Script: texts merged, part 3: cut to what the claim uses. -/
import Derived.Test.YtndbbgihpoiojaaGreatDoorScriptMany2
set_option linter.unusedVariables false
set_option linter.unusedSimpArgs false
set_option maxRecDepth 100000
set_option maxHeartbeats 8000000
namespace Go.Proofs.YtndbbgihpoiojaaGreatDoor.Q
open Go.RowKit Go.Proofs.YtndbbgihpoiojaaGreatDoorW.PrintWords Go.Proofs.YtndbbgihpoiojaaGreatDoorW.PrintLast
structure Trk (w0 w wc : World) (rb : Nat) (ws : List ByteArray) (bad : Bool) : Prop where
 rd : IsS134 w0 wc rb ws bad
 b0 : Below w0.heap.size w0 wc
 kp : KeepBut w wc rb none
section
variable {w0 w wc w1 : World} {rb : Nat} {ws ws1 : List ByteArray} {bad bad1 : Bool}
theorem Trk.call (h : Trk w0 w wc rb ws bad) (hI : IsS134 w0 w1 rb ws1 bad1) (hB : Below w0.heap.size w0 w1) (hk : KeepBut wc w1 rb none) : Trk w0 w w1 rb ws1 bad1 := ⟨hI, hB, KeepBut.trans h.kp hk (.inl rfl)⟩
theorem Trk.below (h : Trk w0 w wc rb ws bad) (hb : Below wc.heap.size wc w1) : Trk w0 w w1 rb ws bad := ⟨h.rd.below hb, below_step h.b0 hb, KeepBut.trans h.kp (KeepBut.of_below hb rb none) (.inl rfl)⟩
theorem Trk.alloc (h : Trk w0 w wc rb ws bad) (o : Obj) : Trk w0 w (wc.alloc o) rb ws bad := h.below (b1_ (Below.refl _ _) o)
theorem Trk.set {g : Nat} (h : Trk w0 w wc rb ws bad) (h0 : w0.heap.size ≤ w.heap.size) (hr : rb < w.heap.size) (hg : w.heap.size ≤ g) (j : Nat) (u : Value) : Trk w0 w (wc.setCell ⟨g, j, none⟩ u) rb ws bad :=
 ⟨h.rd.far (p := ⟨g, j, none⟩) (by show rb ≠ g; omega) u, b4_ h.b0 (by omega), keep_far h.kp hg u⟩
end
def evAt (kind place : Int) (st : List (List S66)) : S52 := ⟨kind, 0, z49, place, st⟩
def evOf (kind : Int) (placed : Bool) (ws : List ByteArray) : Option S52 :=
 if placed then match ws with
  | [] => none
  | p :: r => match sc.numOf p, strikesOf r with
   | some n, some st => some (evAt kind n st)
   | _, _ => none
 else (strikesOf ws).map (evAt kind 0)
theorem event1_plain (W w0 w : World) (cb rb sb : Nat) (vl v0 v1 v2 v3 : Value) (lines : List ByteArray) (l0 : List Int) (l1 : List S70) (l2 : List Int) (l3 : List S52) (kb pb : Nat) (kind : Int) (ws : List ByteArray) (h : Ctx W w0 w cb rb sb ws false vl v0 v1 v2 v3 lines l0 l1 l2 l3) (hs : ∀ y ∈ ws, y.size ≤ 65536) (hn : ws.length ≤ 1000000) (hl : l3.length ≤ 100000)
 (hk : w.heap[kb]? = some (.cells #[.int .i64 kind] 3 (0, 0))) (hp : w.heap[pb]? = some (.cells #[.bool false] 4 (0, 0))) :
 Calls Tryz.prog 112 #[.pointer (some ⟨rb, 0, none⟩), .pointer (some ⟨kb, 0, none⟩), .pointer (some ⟨pb, 0, none⟩), .pointer (some ⟨cb, 0, none⟩)] w fun e w' => e = .returned (.tuple #[]) ∧ LineOut W w' rb sb vl lines ((evOf kind false ws).map fun x => (l0, l1, l2, l3 ++ [x])) := by
 have hck : w.cell? ⟨kb, 0, none⟩ = some (.int .i64 kind) := (blk_cell hk 0).trans rfl
 have hcp2 := wld.cellA (show w.cell? ⟨pb, 0, none⟩ = some (.bool false) from (blk_cell hp 0).trans rfl) (.cells #[.int .i64 kind, .int .i64 0, .int .i64 0, .int .i64 0, .int .i64 0, .int .i64 0, .string ⟨#[]⟩, .string ⟨#[]⟩, .slice none 0 0, .int .i64 0, .int .i64 0, .slice none 0 0] 52)
 have HG := am_ (show (w.alloc (.cells #[.int .i64 kind, .int .i64 0, .int .i64 0, .int .i64 0, .int .i64 0, .int .i64 0, .string ⟨#[]⟩, .string ⟨#[]⟩, .slice none 0 0, .int .i64 0, .int .i64 0, .slice none 0 0] 52)).heap[w.heap.size]? = some (.cells #[.int .i64 kind, .int .i64 0, .int .i64 0, .int .i64 0, .int .i64 0, .int .i64 0, .string ⟨#[]⟩, .string ⟨#[]⟩, .slice none 0 0, .int .i64 0, .int .i64 0, .slice none 0 0] 52 (0, 0)) from wld.alloc_same w _)
 obtain ⟨A_, c_, hrb⟩ := h.rbk
 have HRL := am_ (blk_lt hrb)
 have H0L := am_ h.b0.size
 have HT := am_ (show Trk w0 w (w.alloc (.cells #[.int .i64 kind, .int .i64 0, .int .i64 0, .int .i64 0, .int .i64 0, .int .i64 0, .string ⟨#[]⟩, .string ⟨#[]⟩, .slice none 0 0, .int .i64 0, .int .i64 0, .slice none 0 0] 52)) rb ws false from (Trk.alloc ⟨h.rd, h.b0, KeepBut.refl w rb none⟩ _))
 have HX0 := am_ h
 have HS0 := am_ hs
 have HN := am_ hn
 have HL := am_ hl
 have GB0 := am_ (show w.heap.size ≤ (w.alloc (.cells #[.int .i64 kind, .int .i64 0, .int .i64 0, .int .i64 0, .int .i64 0, .int .i64 0, .string ⟨#[]⟩, .string ⟨#[]⟩, .slice none 0 0, .int .i64 0, .int .i64 0, .slice none 0 0] 52)).heap.size from by simp)
 clear h hs hn hl hk hp hrb
 go_enter Tryz.func112, Tryz.ntmps112
 go_wp2_with fail
 refine (strikes_calls rb ws _ w0 _ HT.out.rd HT.out.b0 HX0.out.env HS0.out HN.out).mono ?_
 rintro e w2 ⟨v_, st, rest, rfl, hS, hst, hI, hB, hk⟩
 obtain ⟨As, cs, rfl⟩ := Kd.R_slice (Kd.S_R hS)
 have HT2 := am_ (HT.out.call hI hB hk)
 have HG2 := am_ ((hk.2 w.heap.size (blk_lt HG.out) (by have := HRL.out; omega) (by simp)).trans HG.out)
 have HS1 := am_ (Kd.S_R hS)
 have HST := am_ hst
 have hcz := (blk_cell HG2.out 11).trans rfl
 have hfz := blk_frozen HG2.out 11
 clear hS hst hI hB hk
 go_wp2_with fail
 have HT := am_ (HT2.out.set H0L.out HRL.out (Nat.le_refl _) 11 (.slice (As) st.length cs))
 have HG := am_ (show (w2.setCell ⟨w.heap.size, 11, none⟩ (.slice As st.length cs)).heap[w.heap.size]? = some (.cells #[.int .i64 kind, .int .i64 0, .int .i64 0, .int .i64 0, .int .i64 0, .int .i64 0, .string ⟨#[]⟩, .string ⟨#[]⟩, .slice none 0 0, .int .i64 0, .int .i64 0, .slice As st.length cs] 52 (0, 0)) from by simpa using blk_set HG2.out 11 (.slice As st.length cs))
 have HS := am_ (Kd.R_set HS1.out HG2.out (by decide) 11 (.slice As st.length cs))
 clear HT2 HG2 HS1 hcz hfz
 generalize w2.setCell ⟨w.heap.size, 11, none⟩ (.slice As st.length cs) = wc at HT HG HS ⊢
 have HX := am_ (HX0.out.step HT.out.rd HT.out.b0 HT.out.kp)
 have HNE := am_ (show some w.heap.size ≠ v3.ownBlock from fun e => by
  obtain ⟨cells, hc⟩ := HX0.out.rows.r3.typ _ e.symm
  exact Nat.lt_irrefl _ (blk_lt hc))
 have HNV := am_ (show ∀ k_, v3.ownBlock = some k_ → ¬ w.heap.size ≤ k_ from fun k_ e => by
  obtain ⟨cells, hc⟩ := HX0.out.rows.r3.typ _ e
  exact Nat.not_le.2 (blk_lt hc))
 have GB := GB0
 have HP := am_ (show k52o.M wc W.heap.size (fun k_ => w.heap.size ≤ k_) (evAt kind 0 st, (none, 0)) [.int .i64 kind, .int .i64 0, .int .i64 0, .int .i64 0, .int .i64 0, .int .i64 0, .string ⟨#[]⟩, .string ⟨#[]⟩, .slice none 0 0, .int .i64 0, .int .i64 0, .slice As st.length cs] from k52o_mkM wc W.heap.size (fun k_ => w.heap.size ≤ k_) (evAt kind 0 st, (none, 0)) (Kd.R_lower (Kd.R_mono (Kd.R_bound HS.out) (fun k_ hk => Nat.le_trans GB.out hk.2.1)) (Nat.le_trans HX0.out.bW.size GB.out)))
 have HV := am_ (VR.nil wc W.heap.size (evAt kind 0 st) rfl)
 obtain ⟨o3, ho3⟩ := HX.out.rows.r3
 have HO := am_ ho3
 clear ho3
 generalize hev : evAt kind 0 st = ev at HP HV
 have HEV := am_ hev
 clear hev
 generalize hhd : ((none, 0) : Option Addr × Nat) = hdr at HP HV
 refine start_ (n := 11) (S := fun w' => w'.cell? ⟨cb, 0, none⟩ = some (.pointer (some ⟨sb, 0, none⟩)) ∧ w'.cell? ⟨sb, 3, none⟩ = some v3 ∧ w'.cell? ⟨w.heap.size, 0, none⟩ = some (.int .i64 kind) ∧ w'.cell? ⟨w.heap.size, 1, none⟩ = some (.int .i64 0) ∧ w'.cell? ⟨w.heap.size, 2, none⟩ = some (.int .i64 0) ∧ w'.cell? ⟨w.heap.size, 3, none⟩ = some (.int .i64 0) ∧ w'.cell? ⟨w.heap.size, 4, none⟩ = some (.int .i64 0) ∧ w'.cell? ⟨w.heap.size, 5, none⟩ = some (.int .i64 0) ∧ w'.cell? ⟨w.heap.size, 6, none⟩ = some (.string ⟨#[]⟩) ∧ w'.cell? ⟨w.heap.size, 7, none⟩ = some (.string ⟨#[]⟩) ∧ w'.cell? ⟨w.heap.size, 8, none⟩ = some (.slice none 0 0) ∧ w'.cell? ⟨w.heap.size, 9, none⟩ = some (.int .i64 0) ∧ w'.cell? ⟨w.heap.size, 10, none⟩ = some (.int .i64 0) ∧ w'.cell? ⟨w.heap.size, 11, none⟩ = some (.slice As st.length cs)) (ds := [10]) (bs_ 11 0) (by kernel_rfl) rfl rfl ⟨(blk_cell HX.out.cbk 0).trans rfl, (blk_cell HX.out.sbk 3).trans rfl, c12_ HG.out⟩ (fun hHeld => ?_)
 replace HX := am_ HX.out.drew; replace HG := am_ (d2_ HG.out); replace HP := am_ (Kd.M_below HP.out (b3_ (Below.refl _ _))); replace HO := am_ HO.out.drew; replace HV := am_ (HV.out.below (b3_ (Below.refl _ _))); generalize wc.drew = w6 at HX HG HP HO HV hHeld ⊢
 refine tA_ hHeld 0 15 (bs_ 11 1) ?_
 refine tA_ hHeld 1 16 (bs_ 11 3) ?_
 refine pA_ 2 17 (bs_ 11 7) ?_
 refine pA_ 3 18 (bs_ 11 15) ?_
 refine tA_ hHeld 4 19 (bs_ 11 31) ?_
 refine tA_ hHeld 5 20 (bs_ 11 63) ?_
 refine oA_ 6 21 (bs_ 11 127) (fun K hK => ?_)
 refine vA_ ?_
 refine hK.out _ _ ⟨wld.cellA ((blk_cell HX.out.cbk 0).trans rfl) _, wld.cellA ((blk_cell HX.out.sbk 3).trans rfl) _, c12a_ HG.out⟩ (fun hHeld => ?_)
 clear hK K
 refine nA_ ?_
 refine oA_ 7 22 (bs_ 11 255) (fun K hK => ?_)
 refine Kd.R_append_step k52o (w0 := W) W.heap.size (by rfl) (.tmp 19) (.tmp 21) 27 52 (.agg #[(.int .i64 0), (.int .i64 0), (.int .i64 0), (.int .i64 0), (.int .i64 0), (.int .i64 0), (.string ⟨#[]⟩), (.string ⟨#[]⟩), (.slice none 0 0), (.int .i64 0), (.int .i64 0), (.slice none 0 0)]) 144 rfl Tryz.underlying27 info52 rfl (by decide) (by omega) v3 o3 (ev, hdr) [.int .i64 kind, .int .i64 0, .int .i64 0, .int .i64 0, .int .i64 0, .int .i64 0, .string ⟨#[]⟩, .string ⟨#[]⟩, .slice none 0 0, .int .i64 0, .int .i64 0, .slice As st.length cs] (fun _ => True) (fun k_ => w.heap.size ≤ k_) rfl rfl ?aP (fun k_ hk => ⟨trivial, fun e => HNV.out k_ e.symm hk⟩) ?aF ?aO ?aB ?aS ?aL ?_
 (case aP => exact HP.out)
 (case aF => exact (fun _ _ => trivial))
 (case aO => exact Kd.R_mono HO.out.r (fun k_ hk => trivial))
 (case aB => exact HX.out.bW)
 (case aS => exact HX.out.bW.size)
 (case aL => have := HL.out; have hm_ := congrArg List.length HO.out.m; rw [List.length_map] at hm_; omega)
 intro v9 w3 ho hb hg hat
 obtain ⟨A9, c9, rfl⟩ := Kd.R_slice ho
 have hfz := blk_frozen (grown_blk HX.out.sbk HX.out.rows.r3.typ (by decide) hg) 3
 refine hK.out _ _ ⟨(blk_cell (grown_blk HX.out.cbk HX.out.rows.r3.typ (by decide) hg) 0).trans rfl, (blk_cell (grown_blk HX.out.sbk HX.out.rows.r3.typ (by decide) hg) 3).trans rfl, c12_ (blk_grown HG.out hg HNE.out)⟩ (fun hHeld => ?_)
 clear hK K
 refine nA_ ?_
 refine pA_ 8 23 (bs_ 11 511) ?_
 refine pA_ 9 24 (bs_ 11 1023) ?_
 refine last_ (i := 10) (N := none) (bs_ 11 2047) rfl rfl (by kernel_rfl) (by decide) (fun K hK => ?_)
 refine skip_ (w1 := ?_) (by rfl) rfl ?_ ?_
 rotate_left
 · go_simp
   rfl
 refine hK.out _ _ ?_
 clear hK K
 refine done_ (by kernel_rfl) ?_
 go_end0
 refine ⟨rfl, ?_⟩
 have e := HX.out.out3 (o := (evOf kind false ws).map fun x => (l0, l1, l2, l3 ++ [x])) (HO.out.snoc hg ho HV.out) hg hb (by
  unfold evOf
  cases strikesOf ws <;> rfl) (fun s hs => by
  unfold evOf at hs
  rcases h1 : strikesOf ws with _ | s1
  · rw [h1] at hs; cases hs
  rw [h1] at hs
  rw [← HEV.out, HST.out s1 h1]
  exact Option.some.inj hs)
 simpa only [List.length_append, List.length_cons, List.length_nil, Nat.zero_add] using e
theorem event1_placed (W w0 w : World) (cb rb sb : Nat) (vl v0 v1 v2 v3 : Value) (lines : List ByteArray) (l0 : List Int) (l1 : List S70) (l2 : List Int) (l3 : List S52) (kb pb : Nat) (kind : Int) (p : ByteArray) (ws : List ByteArray) (h : Ctx W w0 w cb rb sb (p :: ws) false vl v0 v1 v2 v3 lines l0 l1 l2 l3) (hs : ∀ y ∈ p :: ws, y.size ≤ 65536) (hn : ws.length ≤ 1000000) (hl : l3.length ≤ 100000)
 (hk : w.heap[kb]? = some (.cells #[.int .i64 kind] 3 (0, 0))) (hp : w.heap[pb]? = some (.cells #[.bool true] 4 (0, 0))) :
 Calls Tryz.prog 112 #[.pointer (some ⟨rb, 0, none⟩), .pointer (some ⟨kb, 0, none⟩), .pointer (some ⟨pb, 0, none⟩), .pointer (some ⟨cb, 0, none⟩)] w fun e w' => e = .returned (.tuple #[]) ∧ LineOut W w' rb sb vl lines ((evOf kind true (p :: ws)).map fun x => (l0, l1, l2, l3 ++ [x])) := by
 have hck : w.cell? ⟨kb, 0, none⟩ = some (.int .i64 kind) := (blk_cell hk 0).trans rfl
 have hcp2 := wld.cellA (show w.cell? ⟨pb, 0, none⟩ = some (.bool true) from (blk_cell hp 0).trans rfl) (.cells #[.int .i64 kind, .int .i64 0, .int .i64 0, .int .i64 0, .int .i64 0, .int .i64 0, .string ⟨#[]⟩, .string ⟨#[]⟩, .slice none 0 0, .int .i64 0, .int .i64 0, .slice none 0 0] 52)
 have HG := am_ (show (w.alloc (.cells #[.int .i64 kind, .int .i64 0, .int .i64 0, .int .i64 0, .int .i64 0, .int .i64 0, .string ⟨#[]⟩, .string ⟨#[]⟩, .slice none 0 0, .int .i64 0, .int .i64 0, .slice none 0 0] 52)).heap[w.heap.size]? = some (.cells #[.int .i64 kind, .int .i64 0, .int .i64 0, .int .i64 0, .int .i64 0, .int .i64 0, .string ⟨#[]⟩, .string ⟨#[]⟩, .slice none 0 0, .int .i64 0, .int .i64 0, .slice none 0 0] 52 (0, 0)) from wld.alloc_same w _)
 obtain ⟨A_, c_, hrb⟩ := h.rbk
 have HRL := am_ (blk_lt hrb)
 have H0L := am_ h.b0.size
 have HT := am_ (show Trk w0 w (w.alloc (.cells #[.int .i64 kind, .int .i64 0, .int .i64 0, .int .i64 0, .int .i64 0, .int .i64 0, .string ⟨#[]⟩, .string ⟨#[]⟩, .slice none 0 0, .int .i64 0, .int .i64 0, .slice none 0 0] 52)) rb (p :: ws) false from (Trk.alloc ⟨h.rd, h.b0, KeepBut.refl w rb none⟩ _))
 have HX0 := am_ h
 have HS0 := am_ hs
 have HN := am_ hn
 have HL := am_ hl
 have GB0 := am_ (show w.heap.size ≤ (w.alloc (.cells #[.int .i64 kind, .int .i64 0, .int .i64 0, .int .i64 0, .int .i64 0, .int .i64 0, .string ⟨#[]⟩, .string ⟨#[]⟩, .slice none 0 0, .int .i64 0, .int .i64 0, .slice none 0 0] 52)).heap.size from by simp)
 clear h hs hn hl hk hp hrb
 go_enter Tryz.func112, Tryz.ntmps112
 go_wp2_with fail
 refine (number_calls rb (p :: ws) _ w0 _ HT.out.rd HT.out.b0 HX0.out.env HS0.out).mono ?_
 rintro e w1 ⟨n, rfl, hn, hm, hI, hB, hk⟩
 have HT1 := am_ (HT.out.call hI hB hk)
 have HG1 := am_ ((hk.2 w.heap.size (blk_lt HG.out) (by have := HRL.out; omega) (by simp)).trans HG.out)
 have GB1 := am_ (Nat.le_trans GB0.out hk.1)
 have HM := am_ hm
 have hcz := (blk_cell HG1.out 10).trans rfl
 have hfz := blk_frozen HG1.out 10
 clear hn hm hI hB hk HT HG GB0
 go_wp2_with fail
 have HT := am_ (HT1.out.set H0L.out HRL.out (Nat.le_refl _) 10 (.int .i64 n))
 have HG := am_ (show (w1.setCell ⟨w.heap.size, 10, none⟩ (.int .i64 n)).heap[w.heap.size]? = some (.cells #[.int .i64 kind, .int .i64 0, .int .i64 0, .int .i64 0, .int .i64 0, .int .i64 0, .string ⟨#[]⟩, .string ⟨#[]⟩, .slice none 0 0, .int .i64 0, .int .i64 n, .slice none 0 0] 52 (0, 0)) from by simpa using blk_set HG1.out 10 (.int .i64 n))
 have GB0 := am_ (show w.heap.size ≤ (w1.setCell ⟨w.heap.size, 10, none⟩ (.int .i64 n)).heap.size from by simpa using GB1.out)
 clear HT1 HG1 GB1 hcz hfz
 generalize w1.setCell ⟨w.heap.size, 10, none⟩ (.int .i64 n) = w3 at HT HG GB0 ⊢
 refine (strikes_calls rb ws _ w0 _ HT.out.rd HT.out.b0 HX0.out.env (fun y hy => HS0.out y (List.mem_cons_of_mem _ hy)) HN.out).mono ?_
 rintro e w2 ⟨v_, st, rest, rfl, hS, hst, hI, hB, hk⟩
 obtain ⟨As, cs, rfl⟩ := Kd.R_slice (Kd.S_R hS)
 have HT2 := am_ (HT.out.call hI hB hk)
 have HG2 := am_ ((hk.2 w.heap.size (blk_lt HG.out) (by have := HRL.out; omega) (by simp)).trans HG.out)
 have HS1 := am_ (Kd.S_R hS)
 have HST := am_ hst
 have hcz := (blk_cell HG2.out 11).trans rfl
 have hfz := blk_frozen HG2.out 11
 clear hS hst hI hB hk
 go_wp2_with fail
 have HT := am_ (HT2.out.set H0L.out HRL.out (Nat.le_refl _) 11 (.slice (As) st.length cs))
 have HG := am_ (show (w2.setCell ⟨w.heap.size, 11, none⟩ (.slice As st.length cs)).heap[w.heap.size]? = some (.cells #[.int .i64 kind, .int .i64 0, .int .i64 0, .int .i64 0, .int .i64 0, .int .i64 0, .string ⟨#[]⟩, .string ⟨#[]⟩, .slice none 0 0, .int .i64 0, .int .i64 n, .slice As st.length cs] 52 (0, 0)) from by simpa using blk_set HG2.out 11 (.slice As st.length cs))
 have HS := am_ (Kd.R_set HS1.out HG2.out (by decide) 11 (.slice As st.length cs))
 clear HT2 HG2 HS1 hcz hfz
 generalize w2.setCell ⟨w.heap.size, 11, none⟩ (.slice As st.length cs) = wc at HT HG HS ⊢
 have HX := am_ (HX0.out.step HT.out.rd HT.out.b0 HT.out.kp)
 have HNE := am_ (show some w.heap.size ≠ v3.ownBlock from fun e => by
  obtain ⟨cells, hc⟩ := HX0.out.rows.r3.typ _ e.symm
  exact Nat.lt_irrefl _ (blk_lt hc))
 have HNV := am_ (show ∀ k_, v3.ownBlock = some k_ → ¬ w.heap.size ≤ k_ from fun k_ e => by
  obtain ⟨cells, hc⟩ := HX0.out.rows.r3.typ _ e
  exact Nat.not_le.2 (blk_lt hc))
 have GB := GB0
 have HP := am_ (show k52o.M wc W.heap.size (fun k_ => w.heap.size ≤ k_) (evAt kind n st, (none, 0)) [.int .i64 kind, .int .i64 0, .int .i64 0, .int .i64 0, .int .i64 0, .int .i64 0, .string ⟨#[]⟩, .string ⟨#[]⟩, .slice none 0 0, .int .i64 0, .int .i64 n, .slice As st.length cs] from k52o_mkM wc W.heap.size (fun k_ => w.heap.size ≤ k_) (evAt kind n st, (none, 0)) (Kd.R_lower (Kd.R_mono (Kd.R_bound HS.out) (fun k_ hk => Nat.le_trans GB.out hk.2.1)) (Nat.le_trans HX0.out.bW.size GB.out)))
 have HV := am_ (VR.nil wc W.heap.size (evAt kind n st) rfl)
 obtain ⟨o3, ho3⟩ := HX.out.rows.r3
 have HO := am_ ho3
 clear ho3
 generalize hev : evAt kind n st = ev at HP HV
 have HEV := am_ hev
 clear hev
 generalize hhd : ((none, 0) : Option Addr × Nat) = hdr at HP HV
 refine start_ (n := 11) (S := fun w' => w'.cell? ⟨cb, 0, none⟩ = some (.pointer (some ⟨sb, 0, none⟩)) ∧ w'.cell? ⟨sb, 3, none⟩ = some v3 ∧ w'.cell? ⟨w.heap.size, 0, none⟩ = some (.int .i64 kind) ∧ w'.cell? ⟨w.heap.size, 1, none⟩ = some (.int .i64 0) ∧ w'.cell? ⟨w.heap.size, 2, none⟩ = some (.int .i64 0) ∧ w'.cell? ⟨w.heap.size, 3, none⟩ = some (.int .i64 0) ∧ w'.cell? ⟨w.heap.size, 4, none⟩ = some (.int .i64 0) ∧ w'.cell? ⟨w.heap.size, 5, none⟩ = some (.int .i64 0) ∧ w'.cell? ⟨w.heap.size, 6, none⟩ = some (.string ⟨#[]⟩) ∧ w'.cell? ⟨w.heap.size, 7, none⟩ = some (.string ⟨#[]⟩) ∧ w'.cell? ⟨w.heap.size, 8, none⟩ = some (.slice none 0 0) ∧ w'.cell? ⟨w.heap.size, 9, none⟩ = some (.int .i64 0) ∧ w'.cell? ⟨w.heap.size, 10, none⟩ = some (.int .i64 n) ∧ w'.cell? ⟨w.heap.size, 11, none⟩ = some (.slice As st.length cs)) (ds := [10]) (bs_ 11 0) (by kernel_rfl) rfl rfl ⟨(blk_cell HX.out.cbk 0).trans rfl, (blk_cell HX.out.sbk 3).trans rfl, c12_ HG.out⟩ (fun hHeld => ?_)
 replace HX := am_ HX.out.drew; replace HG := am_ (d2_ HG.out); replace HP := am_ (Kd.M_below HP.out (b3_ (Below.refl _ _))); replace HO := am_ HO.out.drew; replace HV := am_ (HV.out.below (b3_ (Below.refl _ _))); generalize wc.drew = w6 at HX HG HP HO HV hHeld ⊢
 refine tA_ hHeld 0 15 (bs_ 11 1) ?_
 refine tA_ hHeld 1 16 (bs_ 11 3) ?_
 refine pA_ 2 17 (bs_ 11 7) ?_
 refine pA_ 3 18 (bs_ 11 15) ?_
 refine tA_ hHeld 4 19 (bs_ 11 31) ?_
 refine tA_ hHeld 5 20 (bs_ 11 63) ?_
 refine oA_ 6 21 (bs_ 11 127) (fun K hK => ?_)
 refine vA_ ?_
 refine hK.out _ _ ⟨wld.cellA ((blk_cell HX.out.cbk 0).trans rfl) _, wld.cellA ((blk_cell HX.out.sbk 3).trans rfl) _, c12a_ HG.out⟩ (fun hHeld => ?_)
 clear hK K
 refine nA_ ?_
 refine oA_ 7 22 (bs_ 11 255) (fun K hK => ?_)
 refine Kd.R_append_step k52o (w0 := W) W.heap.size (by rfl) (.tmp 19) (.tmp 21) 27 52 (.agg #[(.int .i64 0), (.int .i64 0), (.int .i64 0), (.int .i64 0), (.int .i64 0), (.int .i64 0), (.string ⟨#[]⟩), (.string ⟨#[]⟩), (.slice none 0 0), (.int .i64 0), (.int .i64 0), (.slice none 0 0)]) 144 rfl Tryz.underlying27 info52 rfl (by decide) (by omega) v3 o3 (ev, hdr) [.int .i64 kind, .int .i64 0, .int .i64 0, .int .i64 0, .int .i64 0, .int .i64 0, .string ⟨#[]⟩, .string ⟨#[]⟩, .slice none 0 0, .int .i64 0, .int .i64 n, .slice As st.length cs] (fun _ => True) (fun k_ => w.heap.size ≤ k_) rfl rfl ?aP (fun k_ hk => ⟨trivial, fun e => HNV.out k_ e.symm hk⟩) ?aF ?aO ?aB ?aS ?aL ?_
 (case aP => exact HP.out)
 (case aF => exact (fun _ _ => trivial))
 (case aO => exact Kd.R_mono HO.out.r (fun k_ hk => trivial))
 (case aB => exact HX.out.bW)
 (case aS => exact HX.out.bW.size)
 (case aL => have := HL.out; have hm_ := congrArg List.length HO.out.m; rw [List.length_map] at hm_; omega)
 intro v9 w3 ho hb hg hat
 obtain ⟨A9, c9, rfl⟩ := Kd.R_slice ho
 have hfz := blk_frozen (grown_blk HX.out.sbk HX.out.rows.r3.typ (by decide) hg) 3
 refine hK.out _ _ ⟨(blk_cell (grown_blk HX.out.cbk HX.out.rows.r3.typ (by decide) hg) 0).trans rfl, (blk_cell (grown_blk HX.out.sbk HX.out.rows.r3.typ (by decide) hg) 3).trans rfl, c12_ (blk_grown HG.out hg HNE.out)⟩ (fun hHeld => ?_)
 clear hK K
 refine nA_ ?_
 refine pA_ 8 23 (bs_ 11 511) ?_
 refine pA_ 9 24 (bs_ 11 1023) ?_
 refine last_ (i := 10) (N := none) (bs_ 11 2047) rfl rfl (by kernel_rfl) (by decide) (fun K hK => ?_)
 refine skip_ (w1 := ?_) (by rfl) rfl ?_ ?_
 rotate_left
 · go_simp
   rfl
 refine hK.out _ _ ?_
 clear hK K
 refine done_ (by kernel_rfl) ?_
 go_end0
 refine ⟨rfl, ?_⟩
 have e := HX.out.out3 (o := (evOf kind true (p :: ws)).map fun x => (l0, l1, l2, l3 ++ [x])) (HO.out.snoc hg ho HV.out) hg hb (by
  show (false || false || !(sc.numOf p).isSome || (strikesOf ws).isNone) = _
  unfold evOf
  rw [if_pos rfl]
  dsimp only
  cases sc.numOf p <;> cases strikesOf ws <;> rfl) (fun s hs => by
  unfold evOf at hs
  have hm : ∀ m, sc.numOf p = some m → n = m := HM.out
  rcases h0 : sc.numOf p with _ | x
  · rw [if_pos rfl] at hs; simp only [h0] at hs; cases hs
  rcases h1 : strikesOf ws with _ | s1
  · rw [if_pos rfl] at hs; simp only [h0, h1] at hs; cases hs
  rw [if_pos rfl] at hs
  simp only [h0, h1] at hs
  rw [← HEV.out, HST.out s1 h1, hm x h0]
  exact Option.some.inj hs)
 simpa only [List.length_append, List.length_cons, List.length_nil, Nat.zero_add] using e
structure Ask (w0 w wc : World) (rb g : Nat) (ws : List ByteArray) (bad : Bool) (cells : Array Value) : Prop where
 tr : Trk w0 w wc rb ws bad
 lt : rb < w.heap.size
 h0 : w0.heap.size ≤ w.heap.size
 ge : w.heap.size ≤ g
 blk : wc.heap[g]? = some (.cells cells 52 (0, 0))
section
variable {w0 w wc w1 : World} {rb g : Nat} {ws ws1 : List ByteArray} {bad bad1 : Bool} {cells : Array Value}
theorem Trk.box {k t : Nat} {cs : Array Value} (h : Trk w0 w wc rb ws bad) (hk : w.heap[k]? = some (.cells cs t (0, 0))) (hne : k ≠ rb) : wc.heap[k]? = some (.cells cs t (0, 0)) := (h.kp.2 k (blk_lt hk) hne (by simp)).trans hk
theorem Ask.call (h : Ask w0 w wc rb g ws bad cells) (hI : IsS134 w0 w1 rb ws1 bad1) (hB : Below w0.heap.size w0 w1) (hk : KeepBut wc w1 rb none) : Ask w0 w w1 rb g ws1 bad1 cells :=
 ⟨h.tr.call hI hB hk, h.lt, h.h0, h.ge, (hk.2 g (blk_lt h.blk) (by have := h.lt; have := h.ge; omega) (by simp)).trans h.blk⟩
theorem Ask.below (h : Ask w0 w wc rb g ws bad cells) (hb : Below wc.heap.size wc w1) : Ask w0 w w1 rb g ws bad cells :=
 ⟨h.tr.below hb, h.lt, h.h0, h.ge, (hb.block g (blk_lt h.blk)).trans h.blk⟩
theorem Ask.set (h : Ask w0 w wc rb g ws bad cells) (j : Nat) (u : Value) : Ask w0 w (wc.setCell ⟨g, j, none⟩ u) rb g ws bad (cells.setIfInBounds j u) :=
 ⟨h.tr.set h.h0 h.lt h.ge j u, h.lt, h.h0, h.ge, blk_set h.blk j u⟩
theorem Trk.setCells (h0 : w0.heap.size ≤ w.heap.size) (hr : rb < w.heap.size) (hg : w.heap.size ≤ g) : ∀ (vs : List Value) (j : Nat) {wc : World}, Trk w0 w wc rb ws bad → Trk w0 w (wc.setCells g j vs) rb ws bad
 | [], j, _, h => h
 | v :: vs, j, _, h => Trk.setCells h0 hr hg vs (j + 1) (h.set h0 hr hg j v)
theorem Ask.setN (h : Ask w0 w wc rb g ws bad cells) (vs : List Value) (j : Nat) {cells' : Array Value} (hf : j + vs.length ≤ cells.size) (e : cells.toList.take j ++ vs ++ cells.toList.drop (j + vs.length) = cells'.toList) : Ask w0 w (wc.setCells g j vs) rb g ws bad cells' := by
 obtain ⟨c, h1, _, h3⟩ := setCells_row vs j wc cells h.blk hf
 have : c = cells' := Array.toList_inj.1 (h3.trans e)
 subst this
 exact ⟨Trk.setCells h.h0 h.lt h.ge vs j h.tr, h.lt, h.h0, h.ge, h1⟩
theorem Ask.put (h : Ask w0 w wc rb g ws bad cells) (j : Nat) (u : Value) {cells' : Array Value} (e : cells.toList.set j u = cells'.toList) : Ask w0 w (wc.setCell ⟨g, j, none⟩ u) rb g ws bad cells' := by
 have : cells.setIfInBounds j u = cells' := Array.toList_inj.1 (by rw [Array.toList_setIfInBounds]; exact e)
 rw [← this]
 exact h.set j u
end
section
variable {P : Program} {ops : Array Oper} {a : Act} {Q : Exit → Act → World → Prop}
theorem store_all_ {oi : Oper} {w : World} {K : Act → World → Prop} {g o : Nat} {e : TypeId} {cur : Array Value} {t : TypeId} {p x : Operand} {u : Value} (seg : List Value) (hw : Region.wanted oi (yielded ops a.tmps) = true) (hN : oi.dst = none) (ho : oi.op = .store t p x)
 (hp : a.eval p = .pointer (some ⟨g, o, none⟩)) (hx : a.eval x = u) (hh : w.heap[g]? = some (.cells cur e (0, 0))) (hu : u.cells.toList = seg) (ht : (P.info? t).map (·.size) = some seg.length)
 (hfit : o + seg.length ≤ cur.size) (h1 : ∀ q ∈ seg, q.oneCell' = true) (h : K a (w.setCells g o seg)) : if Region.wanted oi (yielded ops a.tmps) = true then Oper.wp P oi a w K Q else K (a.put none undef) w := by
 refine skip_ hw hN ?_ h
 have hrun := run_store_run (P := P) t u seg hh hu ht hfit h1
 unfold execOp
 simp only [ho, hp, hx, Sem.run_bind, Sem.run_pure, Result.andThen_ok, hrun]
end
abbrev C52 (k n kind l1 l2 pl : Int) (key to_ : ByteArray) (v : Value) (lim : Int) : Array Value := #[.int .i64 k, .int .i64 n, .int .i64 kind, .int .i64 l1, .int .i64 l2, .int .i64 pl, .string key, .string to_, v, .int .i64 lim, .int .i64 0, .slice none 0 0]
abbrev Z52 : Array Value := C52 0 0 0 0 0 0 ⟨#[]⟩ ⟨#[]⟩ (.slice none 0 0) 0
theorem neq_nil (w : World) : Sem.run Tryz.prog (binOp .neq 159 .nilFunc .nilFunc) w = .ok (.bool false) w := by kernel_rfl
theorem neq_func (f : Fn) (a c : Array Value) (w : World) : Sem.run Tryz.prog (binOp .neq 159 (.func f a c) .nilFunc) w = .ok (.bool true) w := by kernel_rfl
theorem size52 : (Tryz.prog.info? 52).map (·.size) = some 12 := by kernel_rfl
theorem size37 : (Tryz.prog.info? 37).map (·.size) = some 2 := by kernel_rfl
def askEv (n kind l1 l2 pl : Int) (key to_ : ByteArray) (v : List Int) (lim : Int) : S52 := ⟨1, n, ⟨kind, ⟨l1, l2⟩, pl, key, to_, v, lim⟩, 0, []⟩
theorem ask1_A (W w0 w : World) (cb rb sb : Nat) (vl v0 v1 v2 v3 : Value) (lines : List ByteArray) (l0 : List Int) (l1 : List S70) (l2 : List Int) (l3 : List S52) (kb qb : Nat) (a b : ByteArray) (h : Ctx W w0 w cb rb sb [a, b] false vl v0 v1 v2 v3 lines l0 l1 l2 l3) (hs : ∀ y ∈ [a, b], y.size ≤ 65536) (hl : l3.length ≤ 100000)
 (hk : w.heap[kb]? = some (.cells #[.int .i64 1] 3 (0, 0))) (hq : w.heap[qb]? = some (.cells #[.nilFunc] 159 (0, 0))) :
 Calls Tryz.prog 114 #[.pointer (some ⟨rb, 0, none⟩), .pointer (some ⟨kb, 0, none⟩), .pointer (some ⟨qb, 0, none⟩), .pointer (some ⟨cb, 0, none⟩)] w fun e w' => e = .returned (.tuple #[]) ∧ LineOut W w' rb sb vl lines (((sc.numOf a).map fun n => askEv n 1 0 0 0 ⟨#[]⟩ ⟨#[]⟩ [] 0).map fun x => (l0, l1, l2, l3 ++ [x])) := by
 obtain ⟨A_, c_, hrb⟩ := h.rbk
 have HRL := am_ (blk_lt hrb)
 have HKR := am_ (blk_ne hk hrb (by decide))
 have HQR := am_ (blk_ne hq hrb (by decide))
 have H0L := am_ h.b0.size
 have HT0 := am_ (show Trk w0 w w rb [a, b] false from ⟨h.rd, h.b0, KeepBut.refl w rb none⟩)
 have HX0 := am_ h
 have HSA := am_ hs
 have HL := am_ hl
 have HK := am_ hk
 have HQ := am_ hq
 clear h hs hl hk hq hrb
 go_enter Tryz.func114, Tryz.ntmps114
 go_wp2_with fail
 generalize hws : [a, b] = ws at HT0
 have HS0 := am_ (show ∀ y ∈ ws, y.size ≤ 65536 from hws ▸ HSA.out)
 refine start_ (n := 7) (S := fun w' => w'.cell? ⟨kb, 0, none⟩ = some (.int .i64 1)) (ds := [6]) (bs_ 7 0) (by kernel_rfl) rfl rfl ((blk_cell (Trk.box HT0.out HK.out HKR.out) 0).trans rfl) (fun hHeld => ?_)
 replace HT0 := am_ (HT0.out.below (b3_ (Below.refl _ _))); generalize w.drew = w5 at HT0 hHeld ⊢
 refine pA_ 0 6 (bs_ 7 1) ?_
 refine tA_ hHeld 2 8 (bs_ 7 5) ?_
 refine pA_ 3 9 (bs_ 7 13) ?_
 refine join_ (σ := Int × Nat) 1 #[true, true, true, true, true, true, false] (fun s => [(7, .int .i64 s.1), (10, .agg #[.int .i64 1, .int .i64 s.1, .int .i64 1, .int .i64 0, .int .i64 0, .int .i64 0, .string ⟨#[]⟩, .string ⟨#[]⟩, .slice none 0 0, .int .i64 0, .int .i64 0, .slice none 0 0]), (5, .pointer (some ⟨s.2, 0, none⟩))]) (fun s w' => Ask w0 w w' rb s.2 ws.tail (false || ws.isEmpty || !(sc.numOf (hd0 ws)).isSome) Z52 ∧ ∀ m, sc.numOf (hd0 ws) = some m → s.1 = m) ?_ ?_
 rotate_left
 · intro hCont
   refine two_ (i := 1) (j := 5) (Ni := some 7) (Nj := some 5) #[true, true, true, true, false, false, false] #[true, false, true, true, false, true, false] rfl rfl rfl rfl (by kernel_rfl) (by decide) (by decide) (fun K hK => ?_) (fun K hK => ?_)
   · skip
     refine gA_ Tryz.func88 #[.pointer (some ⟨rb, 0, none⟩)] ?_
     with_reducible refine (number_calls rb ws _ w0 _ HT0.out.rd HT0.out.b0 HX0.out.env HS0.out).mono ?_
     rintro e w1 ⟨n, rfl, hn, hm, hI, hB, hk⟩
     refine ⟨_, rfl, ?_⟩
     have HT1 := am_ (HT0.out.call hI hB hk)
     refine hK.out _ _ ((blk_cell (Trk.box HT1.out HK.out HKR.out) 0).trans rfl) (fun hHeld => ?_)
     clear hK K
     refine nA_ ?_
     refine pA_ 4 10 (bs_ 7 31) ?_
     refine oA_ 5 5 (bs_ 7 63) (fun K hK => ?_)
     refine vA_ ?_
     refine hK.out _ _ (wld.cellA ((blk_cell (Trk.box HT1.out HK.out HKR.out) 0).trans rfl) _) (fun hHeld => ?_)
     clear hK K
     refine nA_ ?_
     exact norm_ (by simp only [putAll, Act.put, List.setIfInBounds_toArray, List.set_cons_zero, List.set_cons_succ]) (hCont (n, w1.heap.size) _ ⟨⟨HT1.out.alloc _, HRL.out, H0L.out, HT1.out.kp.1, wld.alloc_same _ _⟩, hm⟩)
   skip
   refine vA_ ?_
   refine hK.out _ _ (wld.cellA ((blk_cell (Trk.box HT0.out HK.out HKR.out) 0).trans rfl) _) (fun hHeld => ?_)
   clear hK K
   refine nA_ ?_
   refine oA_ 1 7 (bs_ 7 47) (fun K hK => ?_)
   refine gA_ Tryz.func88 #[.pointer (some ⟨rb, 0, none⟩)] ?_
   with_reducible refine (number_calls rb ws _ w0 _ (HT0.out.alloc _).rd (HT0.out.alloc _).b0 HX0.out.env HS0.out).mono ?_
   rintro e w1 ⟨n, rfl, hn, hm, hI, hB, hk⟩
   refine ⟨_, rfl, ?_⟩
   have HT1 := am_ ((HT0.out.alloc _).call hI hB hk)
   have HG1 := am_ ((hk.2 w5.heap.size (blk_lt (wld.alloc_same w5 _)) (by have := HT0.out.kp.1; have := HRL.out; omega) (by simp)).trans (wld.alloc_same w5 (.cells Z52 52)))
   refine hK.out _ _ ((blk_cell (Trk.box HT1.out HK.out HKR.out) 0).trans rfl) (fun hHeld => ?_)
   clear hK K
   refine nA_ ?_
   refine pA_ 4 10 (bs_ 7 63) ?_
   exact norm_ (by simp only [putAll, Act.put, List.setIfInBounds_toArray, List.set_cons_zero, List.set_cons_succ]) (hCont (n, w5.heap.size) _ ⟨⟨HT1.out, HRL.out, H0L.out, HT0.out.kp.1, HG1.out⟩, hm⟩)
 rintro ⟨n, g⟩ w2 ⟨hA, hm⟩
 have hHeld : w2.cell? ⟨kb, 0, none⟩ = some (.int .i64 1) := (blk_cell (Trk.box hA.tr HK.out HKR.out) 0).trans rfl
 refine norm_ (a' := ?_) ?_ ?_
 rotate_left
 · simp only [putAll, Act.put, List.setIfInBounds_toArray, List.set_cons_zero, List.set_cons_succ]
   rfl
 refine last_ (i := 6) (N := none) (bs_ 7 127) rfl rfl (by kernel_rfl) (by decide) (fun K hK => ?_)
 refine store_all_ [.int .i64 1, .int .i64 n, .int .i64 1, .int .i64 0, .int .i64 0, .int .i64 0, .string ⟨#[]⟩, .string ⟨#[]⟩, .slice none 0 0, .int .i64 0, .int .i64 0, .slice none 0 0] (u := .agg #[.int .i64 1, .int .i64 n, .int .i64 1, .int .i64 0, .int .i64 0, .int .i64 0, .string ⟨#[]⟩, .string ⟨#[]⟩, .slice none 0 0, .int .i64 0, .int .i64 0, .slice none 0 0]) (by rfl) rfl rfl rfl rfl hA.blk rfl size52 (by simp) (by intro q hq; simp at hq; rcases hq with rfl | rfl | rfl | rfl | rfl | rfl | rfl | rfl | rfl | rfl | rfl | rfl <;> rfl) ?_
 refine hK.out _ _ ?_
 clear hK K
 refine done_ (by kernel_rfl) ?_
 subst hws
 have HA := am_ (hA.setN (cells' := C52 1 n 1 0 0 0 ⟨#[]⟩ ⟨#[]⟩ (.slice none 0 0) 0) [.int .i64 1, .int .i64 n, .int .i64 1, .int .i64 0, .int .i64 0, .int .i64 0, .string ⟨#[]⟩, .string ⟨#[]⟩, .slice none 0 0, .int .i64 0, .int .i64 0, .slice none 0 0] 0 (by simp) rfl)
 have HM0 := am_ hm
 clear hA hm hHeld
 generalize w2.setCells g 0 [.int .i64 1, .int .i64 n, .int .i64 1, .int .i64 0, .int .i64 0, .int .i64 0, .string ⟨#[]⟩, .string ⟨#[]⟩, .slice none 0 0, .int .i64 0, .int .i64 0, .slice none 0 0] = w3 at HA ⊢
 go_wp2_with fail
 refine (script_reader_next.calls rb _ _ _ _ _ w0 _ HA.out.tr.rd HA.out.tr.b0 (next_f _ _)).mono ?_
 rintro e w4 ⟨rfl, hI, hB, hk⟩
 have HA4 := am_ (HA.out.call hI hB hk)
 have hck := show w4.cell? ⟨kb, 0, none⟩ = some (.int .i64 1) from (blk_cell (Trk.box HA4.out.tr HK.out HKR.out) 0).trans rfl
 have hck := show w4.cell? ⟨kb, 0, none⟩ = some (.int .i64 1) from (blk_cell (Trk.box HA4.out.tr HK.out HKR.out) 0).trans rfl
 have hcq := show w4.cell? ⟨qb, 0, none⟩ = some (.nilFunc) from (blk_cell (Trk.box HA4.out.tr HQ.out HQR.out) 0).trans rfl
 have hrun := neq_nil w4
 clear hI hB hk HA
 go_wp2_with fail
 have HAZ := HA4
 have HT := am_ HAZ.out.tr
 have HG := am_ HAZ.out.blk
 have HGE := am_ HAZ.out.ge
 have HX := am_ (HX0.out.step HT.out.rd HT.out.b0 HT.out.kp)
 have HNE := am_ (show some g ≠ v3.ownBlock from fun e => by
  obtain ⟨cells, hc⟩ := HX0.out.rows.r3.typ _ e.symm
  have := blk_lt hc
  have := HGE.out
  omega)
 have HNV := am_ (show ∀ k_, v3.ownBlock = some k_ → ¬ w.heap.size ≤ k_ from fun k_ e => by
  obtain ⟨cells, hc⟩ := HX0.out.rows.r3.typ _ e
  exact Nat.not_le.2 (blk_lt hc))
 have HP := am_ (show k52o.M w4 W.heap.size (fun k_ => w.heap.size ≤ k_) (askEv n 1 0 0 0 ⟨#[]⟩ ⟨#[]⟩ [] 0, (none, 0)) [.int .i64 1, .int .i64 n, .int .i64 1, .int .i64 0, .int .i64 0, .int .i64 0, .string ⟨#[]⟩, .string ⟨#[]⟩, .slice none 0 0, .int .i64 0, .int .i64 0, .slice none 0 0] from k52o_mkM w4 W.heap.size (fun k_ => w.heap.size ≤ k_) (askEv n 1 0 0 0 ⟨#[]⟩ ⟨#[]⟩ [] 0, (none, 0)) (Kd.R_nil _ _ _ _ _))
 have HV := am_ (VR.nil w4 W.heap.size (askEv n 1 0 0 0 ⟨#[]⟩ ⟨#[]⟩ [] 0) rfl)
 obtain ⟨o3, ho3⟩ := HX.out.rows.r3
 have HO := am_ ho3
 clear ho3
 generalize hev : askEv n 1 0 0 0 ⟨#[]⟩ ⟨#[]⟩ [] 0 = ev at HP HV
 have HEV := am_ hev
 clear hev
 generalize hhd : ((none, 0) : Option Addr × Nat) = hdr at HP HV
 refine start_ (n := 11) (S := fun w' => w'.cell? ⟨cb, 0, none⟩ = some (.pointer (some ⟨sb, 0, none⟩)) ∧ w'.cell? ⟨sb, 3, none⟩ = some v3 ∧ w'.cell? ⟨g, 0, none⟩ = some (.int .i64 1) ∧ w'.cell? ⟨g, 1, none⟩ = some (.int .i64 n) ∧ w'.cell? ⟨g, 2, none⟩ = some (.int .i64 1) ∧ w'.cell? ⟨g, 3, none⟩ = some (.int .i64 0) ∧ w'.cell? ⟨g, 4, none⟩ = some (.int .i64 0) ∧ w'.cell? ⟨g, 5, none⟩ = some (.int .i64 0) ∧ w'.cell? ⟨g, 6, none⟩ = some (.string ⟨#[]⟩) ∧ w'.cell? ⟨g, 7, none⟩ = some (.string ⟨#[]⟩) ∧ w'.cell? ⟨g, 8, none⟩ = some (.slice none 0 0) ∧ w'.cell? ⟨g, 9, none⟩ = some (.int .i64 0) ∧ w'.cell? ⟨g, 10, none⟩ = some (.int .i64 0) ∧ w'.cell? ⟨g, 11, none⟩ = some (.slice none 0 0)) (ds := [10]) (bs_ 11 0) (by kernel_rfl) rfl rfl ⟨(blk_cell HX.out.cbk 0).trans rfl, (blk_cell HX.out.sbk 3).trans rfl, c12_ HG.out⟩ (fun hHeld => ?_)
 replace HX := am_ HX.out.drew; replace HG := am_ (d2_ HG.out); replace HP := am_ (Kd.M_below HP.out (b3_ (Below.refl _ _))); replace HO := am_ HO.out.drew; replace HV := am_ (HV.out.below (b3_ (Below.refl _ _))); generalize w4.drew = w6 at HX HG HP HO HV hHeld ⊢
 refine tA_ hHeld 0 36 (bs_ 11 1) ?_
 refine tA_ hHeld 1 37 (bs_ 11 3) ?_
 refine pA_ 2 38 (bs_ 11 7) ?_
 refine pA_ 3 39 (bs_ 11 15) ?_
 refine tA_ hHeld 4 40 (bs_ 11 31) ?_
 refine tA_ hHeld 5 41 (bs_ 11 63) ?_
 refine oA_ 6 42 (bs_ 11 127) (fun K hK => ?_)
 refine vA_ ?_
 refine hK.out _ _ ⟨wld.cellA ((blk_cell HX.out.cbk 0).trans rfl) _, wld.cellA ((blk_cell HX.out.sbk 3).trans rfl) _, c12a_ HG.out⟩ (fun hHeld => ?_)
 clear hK K
 refine nA_ ?_
 refine oA_ 7 43 (bs_ 11 255) (fun K hK => ?_)
 refine Kd.R_append_step k52o (w0 := W) W.heap.size (by rfl) (.tmp 40) (.tmp 42) 27 52 (.agg #[(.int .i64 0), (.int .i64 0), (.int .i64 0), (.int .i64 0), (.int .i64 0), (.int .i64 0), (.string ⟨#[]⟩), (.string ⟨#[]⟩), (.slice none 0 0), (.int .i64 0), (.int .i64 0), (.slice none 0 0)]) 144 rfl Tryz.underlying27 info52 rfl (by decide) (by omega) v3 o3 (ev, hdr) [.int .i64 1, .int .i64 n, .int .i64 1, .int .i64 0, .int .i64 0, .int .i64 0, .string ⟨#[]⟩, .string ⟨#[]⟩, .slice none 0 0, .int .i64 0, .int .i64 0, .slice none 0 0] (fun _ => True) (fun k_ => w.heap.size ≤ k_) rfl rfl ?aP (fun k_ hk => ⟨trivial, fun e => HNV.out k_ e.symm hk⟩) ?aF ?aO ?aB ?aS ?aL ?_
 (case aP => exact HP.out)
 (case aF => exact (fun _ _ => trivial))
 (case aO => exact Kd.R_mono HO.out.r (fun k_ hk => trivial))
 (case aB => exact HX.out.bW)
 (case aS => exact HX.out.bW.size)
 (case aL => have := HL.out; have hm_ := congrArg List.length HO.out.m; rw [List.length_map] at hm_; omega)
 intro v9 w3 ho hb hg hat
 obtain ⟨A9, c9, rfl⟩ := Kd.R_slice ho
 have hfz := blk_frozen (grown_blk HX.out.sbk HX.out.rows.r3.typ (by decide) hg) 3
 refine hK.out _ _ ⟨(blk_cell (grown_blk HX.out.cbk HX.out.rows.r3.typ (by decide) hg) 0).trans rfl, (blk_cell (grown_blk HX.out.sbk HX.out.rows.r3.typ (by decide) hg) 3).trans rfl, c12_ (blk_grown HG.out hg HNE.out)⟩ (fun hHeld => ?_)
 clear hK K
 refine nA_ ?_
 refine pA_ 8 44 (bs_ 11 511) ?_
 refine pA_ 9 45 (bs_ 11 1023) ?_
 refine last_ (i := 10) (N := none) (bs_ 11 2047) rfl rfl (by kernel_rfl) (by decide) (fun K hK => ?_)
 refine skip_ (w1 := ?_) (by rfl) rfl ?_ ?_
 rotate_left
 · go_simp
   rfl
 refine hK.out _ _ ?_
 clear hK K
 refine done_ (by kernel_rfl) ?_
 go_end0
 refine ⟨rfl, ?_⟩
 have e := HX.out.out3 (o := ((sc.numOf a).map fun n => askEv n 1 0 0 0 ⟨#[]⟩ ⟨#[]⟩ [] 0).map fun x => (l0, l1, l2, l3 ++ [x])) (HO.out.snoc hg ho HV.out) hg hb (by
  show (_ || _) = _
  simp only [hd0, List.headD_cons, List.isEmpty_cons, List.tail_cons]
  cases sc.numOf a <;> rfl) (fun s hs => by
  have hm := HM0.out
  simp only [hd0, List.headD_cons] at hm
  cases hx : sc.numOf a with
  | none => rw [hx] at hs; cases hs
  | some m =>
   rw [hx] at hs
   rw [← HEV.out, hm m hx]
   exact Option.some.inj hs)
 simpa only [List.length_append, List.length_cons, List.length_nil, Nat.zero_add] using e
def askB (kind : Int) (a c d : ByteArray) : Option S52 := match sc.numOf a, sc.numOf c, sc.numOf d with
 | some n, some l, some m => some (askEv n kind l m 0 ⟨#[]⟩ ⟨#[]⟩ [] 0)
 | _, _, _ => none
theorem ask1_B (W w0 w : World) (cb rb sb : Nat) (vl v0 v1 v2 v3 : Value) (lines : List ByteArray) (l0 : List Int) (l1 : List S70) (l2 : List Int) (l3 : List S52) (kb qb : Nat) (kind : Int) (hkd : kind ≠ 1) (a b c d : ByteArray) (h : Ctx W w0 w cb rb sb [a, b, c, d] false vl v0 v1 v2 v3 lines l0 l1 l2 l3) (hs : ∀ y ∈ [a, b, c, d], y.size ≤ 65536) (hl : l3.length ≤ 100000)
 (hk : w.heap[kb]? = some (.cells #[.int .i64 kind] 3 (0, 0))) (hq : w.heap[qb]? = some (.cells #[.nilFunc] 159 (0, 0))) :
 Calls Tryz.prog 114 #[.pointer (some ⟨rb, 0, none⟩), .pointer (some ⟨kb, 0, none⟩), .pointer (some ⟨qb, 0, none⟩), .pointer (some ⟨cb, 0, none⟩)] w fun e w' => e = .returned (.tuple #[]) ∧ LineOut W w' rb sb vl lines ((askB kind a c d).map fun x => (l0, l1, l2, l3 ++ [x])) := by
 obtain ⟨A_, c_, hrb⟩ := h.rbk
 have HRL := am_ (blk_lt hrb)
 have HKR := am_ (blk_ne hk hrb (by decide))
 have HQR := am_ (blk_ne hq hrb (by decide))
 have H0L := am_ h.b0.size
 have HT0 := am_ (show Trk w0 w w rb [a, b, c, d] false from ⟨h.rd, h.b0, KeepBut.refl w rb none⟩)
 have HX0 := am_ h
 have HSA := am_ hs
 have HL := am_ hl
 have HK := am_ hk
 have HQ := am_ hq
 clear h hs hl hk hq hrb
 go_enter Tryz.func114, Tryz.ntmps114
 go_wp2_with fail
 generalize hws : [a, b, c, d] = ws at HT0
 have HS0 := am_ (show ∀ y ∈ ws, y.size ≤ 65536 from hws ▸ HSA.out)
 refine start_ (n := 7) (S := fun w' => w'.cell? ⟨kb, 0, none⟩ = some (.int .i64 kind)) (ds := [6]) (bs_ 7 0) (by kernel_rfl) rfl rfl ((blk_cell (Trk.box HT0.out HK.out HKR.out) 0).trans rfl) (fun hHeld => ?_)
 replace HT0 := am_ (HT0.out.below (b3_ (Below.refl _ _))); generalize w.drew = w5 at HT0 hHeld ⊢
 refine pA_ 0 6 (bs_ 7 1) ?_
 refine tA_ hHeld 2 8 (bs_ 7 5) ?_
 refine pA_ 3 9 (bs_ 7 13) ?_
 refine join_ (σ := Int × Nat) 1 #[true, true, true, true, true, true, false] (fun s => [(7, .int .i64 s.1), (10, .agg #[.int .i64 1, .int .i64 s.1, .int .i64 kind, .int .i64 0, .int .i64 0, .int .i64 0, .string ⟨#[]⟩, .string ⟨#[]⟩, .slice none 0 0, .int .i64 0, .int .i64 0, .slice none 0 0]), (5, .pointer (some ⟨s.2, 0, none⟩))]) (fun s w' => Ask w0 w w' rb s.2 ws.tail (false || ws.isEmpty || !(sc.numOf (hd0 ws)).isSome) Z52 ∧ ∀ m, sc.numOf (hd0 ws) = some m → s.1 = m) ?_ ?_
 rotate_left
 · intro hCont
   refine two_ (i := 1) (j := 5) (Ni := some 7) (Nj := some 5) #[true, true, true, true, false, false, false] #[true, false, true, true, false, true, false] rfl rfl rfl rfl (by kernel_rfl) (by decide) (by decide) (fun K hK => ?_) (fun K hK => ?_)
   · skip
     refine gA_ Tryz.func88 #[.pointer (some ⟨rb, 0, none⟩)] ?_
     with_reducible refine (number_calls rb ws _ w0 _ HT0.out.rd HT0.out.b0 HX0.out.env HS0.out).mono ?_
     rintro e w1 ⟨n, rfl, hn, hm, hI, hB, hk⟩
     refine ⟨_, rfl, ?_⟩
     have HT1 := am_ (HT0.out.call hI hB hk)
     refine hK.out _ _ ((blk_cell (Trk.box HT1.out HK.out HKR.out) 0).trans rfl) (fun hHeld => ?_)
     clear hK K
     refine nA_ ?_
     refine pA_ 4 10 (bs_ 7 31) ?_
     refine oA_ 5 5 (bs_ 7 63) (fun K hK => ?_)
     refine vA_ ?_
     refine hK.out _ _ (wld.cellA ((blk_cell (Trk.box HT1.out HK.out HKR.out) 0).trans rfl) _) (fun hHeld => ?_)
     clear hK K
     refine nA_ ?_
     exact norm_ (by simp only [putAll, Act.put, List.setIfInBounds_toArray, List.set_cons_zero, List.set_cons_succ]) (hCont (n, w1.heap.size) _ ⟨⟨HT1.out.alloc _, HRL.out, H0L.out, HT1.out.kp.1, wld.alloc_same _ _⟩, hm⟩)
   skip
   refine vA_ ?_
   refine hK.out _ _ (wld.cellA ((blk_cell (Trk.box HT0.out HK.out HKR.out) 0).trans rfl) _) (fun hHeld => ?_)
   clear hK K
   refine nA_ ?_
   refine oA_ 1 7 (bs_ 7 47) (fun K hK => ?_)
   refine gA_ Tryz.func88 #[.pointer (some ⟨rb, 0, none⟩)] ?_
   with_reducible refine (number_calls rb ws _ w0 _ (HT0.out.alloc _).rd (HT0.out.alloc _).b0 HX0.out.env HS0.out).mono ?_
   rintro e w1 ⟨n, rfl, hn, hm, hI, hB, hk⟩
   refine ⟨_, rfl, ?_⟩
   have HT1 := am_ ((HT0.out.alloc _).call hI hB hk)
   have HG1 := am_ ((hk.2 w5.heap.size (blk_lt (wld.alloc_same w5 _)) (by have := HT0.out.kp.1; have := HRL.out; omega) (by simp)).trans (wld.alloc_same w5 (.cells Z52 52)))
   refine hK.out _ _ ((blk_cell (Trk.box HT1.out HK.out HKR.out) 0).trans rfl) (fun hHeld => ?_)
   clear hK K
   refine nA_ ?_
   refine pA_ 4 10 (bs_ 7 63) ?_
   exact norm_ (by simp only [putAll, Act.put, List.setIfInBounds_toArray, List.set_cons_zero, List.set_cons_succ]) (hCont (n, w5.heap.size) _ ⟨⟨HT1.out, HRL.out, H0L.out, HT0.out.kp.1, HG1.out⟩, hm⟩)
 rintro ⟨n, g⟩ w2 ⟨hA, hm⟩
 have hHeld : w2.cell? ⟨kb, 0, none⟩ = some (.int .i64 kind) := (blk_cell (Trk.box hA.tr HK.out HKR.out) 0).trans rfl
 refine norm_ (a' := ?_) ?_ ?_
 rotate_left
 · simp only [putAll, Act.put, List.setIfInBounds_toArray, List.set_cons_zero, List.set_cons_succ]
   rfl
 refine last_ (i := 6) (N := none) (bs_ 7 127) rfl rfl (by kernel_rfl) (by decide) (fun K hK => ?_)
 refine store_all_ [.int .i64 1, .int .i64 n, .int .i64 kind, .int .i64 0, .int .i64 0, .int .i64 0, .string ⟨#[]⟩, .string ⟨#[]⟩, .slice none 0 0, .int .i64 0, .int .i64 0, .slice none 0 0] (u := .agg #[.int .i64 1, .int .i64 n, .int .i64 kind, .int .i64 0, .int .i64 0, .int .i64 0, .string ⟨#[]⟩, .string ⟨#[]⟩, .slice none 0 0, .int .i64 0, .int .i64 0, .slice none 0 0]) (by rfl) rfl rfl rfl rfl hA.blk rfl size52 (by simp) (by intro q hq; simp at hq; rcases hq with rfl | rfl | rfl | rfl | rfl | rfl | rfl | rfl | rfl | rfl | rfl | rfl <;> rfl) ?_
 refine hK.out _ _ ?_
 clear hK K
 refine done_ (by kernel_rfl) ?_
 subst hws
 have HA := am_ (hA.setN (cells' := C52 1 n kind 0 0 0 ⟨#[]⟩ ⟨#[]⟩ (.slice none 0 0) 0) [.int .i64 1, .int .i64 n, .int .i64 kind, .int .i64 0, .int .i64 0, .int .i64 0, .string ⟨#[]⟩, .string ⟨#[]⟩, .slice none 0 0, .int .i64 0, .int .i64 0, .slice none 0 0] 0 (by simp) rfl)
 have HM0 := am_ hm
 clear hA hm hHeld
 generalize w2.setCells g 0 [.int .i64 1, .int .i64 n, .int .i64 kind, .int .i64 0, .int .i64 0, .int .i64 0, .string ⟨#[]⟩, .string ⟨#[]⟩, .slice none 0 0, .int .i64 0, .int .i64 0, .slice none 0 0] = w3 at HA ⊢
 go_wp2_with fail
 refine (script_reader_next.calls rb _ _ _ _ _ w0 _ HA.out.tr.rd HA.out.tr.b0 (next_f _ _)).mono ?_
 rintro e w4 ⟨rfl, hI, hB, hk⟩
 have HA4 := am_ (HA.out.call hI hB hk)
 have hck := show w4.cell? ⟨kb, 0, none⟩ = some (.int .i64 kind) from (blk_cell (Trk.box HA4.out.tr HK.out HKR.out) 0).trans rfl
 clear hI hB hk HA
 have hkb : (kind == 1) = false := by simpa using hkd
 go_wp2_with fail
 refine (number_calls rb [c, d] _ w0 _ HA4.out.tr.rd HA4.out.tr.b0 HX0.out.env (by have := HSA.out; simp at this ⊢; simp [this])).mono ?_
 rintro e w5 ⟨m1, rfl, hn, hm, hI, hB, hk⟩
 have HA5 := am_ (HA4.out.call hI hB hk)
 have HM1 := am_ hm
 clear hn hm hI hB hk
 go_wp2_with fail
 refine (number_calls rb [d] _ w0 _ HA5.out.tr.rd HA5.out.tr.b0 HX0.out.env (by have := HSA.out; simp at this ⊢; simp [this])).mono ?_
 rintro e w6 ⟨m2, rfl, hn, hm, hI, hB, hk⟩
 have HA6 := am_ (HA5.out.call hI hB hk)
 have HM2 := am_ hm
 clear hn hm hI hB hk
 have hc3 := (blk_cell HA6.out.blk 3).trans rfl
 have hf3 := blk_frozen HA6.out.blk 3
 have hc4 := (blk_cell HA6.out.blk 4).trans rfl
 have hf4 := blk_frozen HA6.out.blk 4
 have HA7 := am_ ((HA6.out.put 3 (.int .i64 m1) (cells' := C52 1 n kind m1 0 0 ⟨#[]⟩ ⟨#[]⟩ (.slice none 0 0) 0) rfl).put 4 (.int .i64 m2) (cells' := C52 1 n kind m1 m2 0 ⟨#[]⟩ ⟨#[]⟩ (.slice none 0 0) 0) rfl)
 have hck := show ((w6.setCell ⟨g, 3, none⟩ (.int .i64 m1)).setCell ⟨g, 4, none⟩ (.int .i64 m2)).cell? ⟨kb, 0, none⟩ = some (.int .i64 kind) from (blk_cell (Trk.box HA7.out.tr HK.out HKR.out) 0).trans rfl
 have hcq := show ((w6.setCell ⟨g, 3, none⟩ (.int .i64 m1)).setCell ⟨g, 4, none⟩ (.int .i64 m2)).cell? ⟨qb, 0, none⟩ = some (.nilFunc) from (blk_cell (Trk.box HA7.out.tr HQ.out HQR.out) 0).trans rfl
 have hrun := neq_nil ((w6.setCell ⟨g, 3, none⟩ (.int .i64 m1)).setCell ⟨g, 4, none⟩ (.int .i64 m2))
 go_wp2_with fail
 have HAZ := HA7
 clear hc3 hc4 hf3 hf4 hcq hck hrun hkb
 generalize (w6.setCell ⟨g, 3, none⟩ (.int .i64 m1)).setCell ⟨g, 4, none⟩ (.int .i64 m2) = w7 at HAZ ⊢
 have HT := am_ HAZ.out.tr
 have HG := am_ HAZ.out.blk
 have HGE := am_ HAZ.out.ge
 have HX := am_ (HX0.out.step HT.out.rd HT.out.b0 HT.out.kp)
 have HNE := am_ (show some g ≠ v3.ownBlock from fun e => by
  obtain ⟨cells, hc⟩ := HX0.out.rows.r3.typ _ e.symm
  have := blk_lt hc
  have := HGE.out
  omega)
 have HNV := am_ (show ∀ k_, v3.ownBlock = some k_ → ¬ w.heap.size ≤ k_ from fun k_ e => by
  obtain ⟨cells, hc⟩ := HX0.out.rows.r3.typ _ e
  exact Nat.not_le.2 (blk_lt hc))
 have HP := am_ (show k52o.M w7 W.heap.size (fun k_ => w.heap.size ≤ k_) (askEv n kind m1 m2 0 ⟨#[]⟩ ⟨#[]⟩ [] 0, (none, 0)) [.int .i64 1, .int .i64 n, .int .i64 kind, .int .i64 m1, .int .i64 m2, .int .i64 0, .string ⟨#[]⟩, .string ⟨#[]⟩, .slice none 0 0, .int .i64 0, .int .i64 0, .slice none 0 0] from k52o_mkM w7 W.heap.size (fun k_ => w.heap.size ≤ k_) (askEv n kind m1 m2 0 ⟨#[]⟩ ⟨#[]⟩ [] 0, (none, 0)) (Kd.R_nil _ _ _ _ _))
 have HV := am_ (VR.nil w7 W.heap.size (askEv n kind m1 m2 0 ⟨#[]⟩ ⟨#[]⟩ [] 0) rfl)
 obtain ⟨o3, ho3⟩ := HX.out.rows.r3
 have HO := am_ ho3
 clear ho3
 generalize hev : askEv n kind m1 m2 0 ⟨#[]⟩ ⟨#[]⟩ [] 0 = ev at HP HV
 have HEV := am_ hev
 clear hev
 generalize hhd : ((none, 0) : Option Addr × Nat) = hdr at HP HV
 refine start_ (n := 11) (S := fun w' => w'.cell? ⟨cb, 0, none⟩ = some (.pointer (some ⟨sb, 0, none⟩)) ∧ w'.cell? ⟨sb, 3, none⟩ = some v3 ∧ w'.cell? ⟨g, 0, none⟩ = some (.int .i64 1) ∧ w'.cell? ⟨g, 1, none⟩ = some (.int .i64 n) ∧ w'.cell? ⟨g, 2, none⟩ = some (.int .i64 kind) ∧ w'.cell? ⟨g, 3, none⟩ = some (.int .i64 m1) ∧ w'.cell? ⟨g, 4, none⟩ = some (.int .i64 m2) ∧ w'.cell? ⟨g, 5, none⟩ = some (.int .i64 0) ∧ w'.cell? ⟨g, 6, none⟩ = some (.string ⟨#[]⟩) ∧ w'.cell? ⟨g, 7, none⟩ = some (.string ⟨#[]⟩) ∧ w'.cell? ⟨g, 8, none⟩ = some (.slice none 0 0) ∧ w'.cell? ⟨g, 9, none⟩ = some (.int .i64 0) ∧ w'.cell? ⟨g, 10, none⟩ = some (.int .i64 0) ∧ w'.cell? ⟨g, 11, none⟩ = some (.slice none 0 0)) (ds := [10]) (bs_ 11 0) (by kernel_rfl) rfl rfl ⟨(blk_cell HX.out.cbk 0).trans rfl, (blk_cell HX.out.sbk 3).trans rfl, c12_ HG.out⟩ (fun hHeld => ?_)
 replace HX := am_ HX.out.drew; replace HG := am_ (d2_ HG.out); replace HP := am_ (Kd.M_below HP.out (b3_ (Below.refl _ _))); replace HO := am_ HO.out.drew; replace HV := am_ (HV.out.below (b3_ (Below.refl _ _))); generalize w7.drew = w6 at HX HG HP HO HV hHeld ⊢
 refine tA_ hHeld 0 36 (bs_ 11 1) ?_
 refine tA_ hHeld 1 37 (bs_ 11 3) ?_
 refine pA_ 2 38 (bs_ 11 7) ?_
 refine pA_ 3 39 (bs_ 11 15) ?_
 refine tA_ hHeld 4 40 (bs_ 11 31) ?_
 refine tA_ hHeld 5 41 (bs_ 11 63) ?_
 refine oA_ 6 42 (bs_ 11 127) (fun K hK => ?_)
 refine vA_ ?_
 refine hK.out _ _ ⟨wld.cellA ((blk_cell HX.out.cbk 0).trans rfl) _, wld.cellA ((blk_cell HX.out.sbk 3).trans rfl) _, c12a_ HG.out⟩ (fun hHeld => ?_)
 clear hK K
 refine nA_ ?_
 refine oA_ 7 43 (bs_ 11 255) (fun K hK => ?_)
 refine Kd.R_append_step k52o (w0 := W) W.heap.size (by rfl) (.tmp 40) (.tmp 42) 27 52 (.agg #[(.int .i64 0), (.int .i64 0), (.int .i64 0), (.int .i64 0), (.int .i64 0), (.int .i64 0), (.string ⟨#[]⟩), (.string ⟨#[]⟩), (.slice none 0 0), (.int .i64 0), (.int .i64 0), (.slice none 0 0)]) 144 rfl Tryz.underlying27 info52 rfl (by decide) (by omega) v3 o3 (ev, hdr) [.int .i64 1, .int .i64 n, .int .i64 kind, .int .i64 m1, .int .i64 m2, .int .i64 0, .string ⟨#[]⟩, .string ⟨#[]⟩, .slice none 0 0, .int .i64 0, .int .i64 0, .slice none 0 0] (fun _ => True) (fun k_ => w.heap.size ≤ k_) rfl rfl ?aP (fun k_ hk => ⟨trivial, fun e => HNV.out k_ e.symm hk⟩) ?aF ?aO ?aB ?aS ?aL ?_
 (case aP => exact HP.out)
 (case aF => exact (fun _ _ => trivial))
 (case aO => exact Kd.R_mono HO.out.r (fun k_ hk => trivial))
 (case aB => exact HX.out.bW)
 (case aS => exact HX.out.bW.size)
 (case aL => have := HL.out; have hm_ := congrArg List.length HO.out.m; rw [List.length_map] at hm_; omega)
 intro v9 w3 ho hb hg hat
 obtain ⟨A9, c9, rfl⟩ := Kd.R_slice ho
 have hfz := blk_frozen (grown_blk HX.out.sbk HX.out.rows.r3.typ (by decide) hg) 3
 refine hK.out _ _ ⟨(blk_cell (grown_blk HX.out.cbk HX.out.rows.r3.typ (by decide) hg) 0).trans rfl, (blk_cell (grown_blk HX.out.sbk HX.out.rows.r3.typ (by decide) hg) 3).trans rfl, c12_ (blk_grown HG.out hg HNE.out)⟩ (fun hHeld => ?_)
 clear hK K
 refine nA_ ?_
 refine pA_ 8 44 (bs_ 11 511) ?_
 refine pA_ 9 45 (bs_ 11 1023) ?_
 refine last_ (i := 10) (N := none) (bs_ 11 2047) rfl rfl (by kernel_rfl) (by decide) (fun K hK => ?_)
 refine skip_ (w1 := ?_) (by rfl) rfl ?_ ?_
 rotate_left
 · go_simp
   rfl
 refine hK.out _ _ ?_
 clear hK K
 refine done_ (by kernel_rfl) ?_
 go_end0
 refine ⟨rfl, ?_⟩
 have e := HX.out.out3 (o := (askB kind a c d).map fun x => (l0, l1, l2, l3 ++ [x])) (HO.out.snoc hg ho HV.out) hg hb (by
  show (_ || _) = _
  simp only [hd0, List.headD_cons, List.isEmpty_cons, List.tail_cons]
  unfold askB
  cases sc.numOf a <;> cases sc.numOf c <;> cases sc.numOf d <;> rfl) (fun s hs => by
  have hm0 := HM0.out
  have hm1 := HM1.out
  have hm2 := HM2.out
  simp only [hd0, List.headD_cons] at hm0 hm1 hm2
  unfold askB at hs
  cases h0 : sc.numOf a with
  | none => rw [h0] at hs; cases hs
  | some x0 => cases h1 : sc.numOf c with
   | none => rw [h0, h1] at hs; cases hs
   | some x1 => cases h2 : sc.numOf d with
    | none => rw [h0, h1, h2] at hs; cases hs
    | some x2 =>
     rw [h0, h1, h2] at hs
     rw [← HEV.out, hm0 x0 h0, hm1 x1 h1, hm2 x2 h2]
     exact Option.some.inj hs)
 simpa only [List.length_append, List.length_cons, List.length_nil, Nat.zero_add] using e
theorem F_conv {w : World} {b base cap : Nat} {t : ByteArray} {fz : Nat × Nat} (h : w.heap[b]? = some (.cells (bytesRow t cap) 5 fz)) (hb : base ≤ b) (hs : t.size ≤ 65536) :
 Kd.F (Kd.int .u8) w (fun k => base ≤ k ∧ ∃ cells fz, w.heap[k]? = some (.cells cells 5 fz)) (some ⟨b, 0, none⟩) (nums8 t.data.toList).length (nums8 t.data.toList) := by
 intro W' hW
 have h' := (hW b ⟨hb, _, _, h⟩ (blk_lt' h)).trans h
 have hl : (nums8 t.data.toList).length = t.size := by rw [nums8_length]; exact Array.length_toList
 refine ⟨rfl, by rw [hl]; omega, fun _ => ⟨_, rfl, fun j p hj => ⟨[.int .u8 p], rfl, rfl, fun i u hu => ?_⟩⟩⟩
 obtain ⟨hi, rfl⟩ : i = 0 ∧ u = .int .u8 p := by
  cases i with
  | zero => exact ⟨rfl, (Option.some.inj hu).symm⟩
  | succ i => simp at hu
 subst hi
 have hj' : j < t.data.size := by
  have := (List.getElem?_eq_some_iff.1 hj).1
  rw [hl] at this
  exact this
 have ha : (⟨b, 0, none⟩ : Addr).add (j * (Kd.int .u8).sz + 0) = ⟨b, j, none⟩ := by
  show Addr.add _ (j * 1 + 0) = _
  unfold Addr.add
  split
  · congr 1; omega
  simp
 rw [ha, cell_of_row W' b j _ 5 fz h']
 unfold bytesRow
 rw [Array.getElem?_append_left (by simpa using hj')]
 simp only [nums8, List.getElem?_map] at hj
 simp only [Array.getElem?_map]
 rw [← Array.getElem?_toList]
 cases hx : t.data.toList[j]? with
 | none => rw [hx] at hj; cases hj
 | some y =>
  rw [hx] at hj
  rw [← Option.some.inj hj]
  rfl
def VR0 (w : World) (base : Nat) (A : Option Addr) (c : Nat) (xs : List Int) : Prop := xs.length ≤ c ∧ Kd.F (Kd.int .u8) w (fun k => base ≤ k ∧ ∃ cells fz, w.heap[k]? = some (.cells cells 5 fz)) A xs.length xs
theorem VR0.of {w : World} {base base' : Nat} {A : Option Addr} {c : Nat} {x : S52} (h : VR0 w base A c x.f2.f5) (hb : base' ≤ base) : VR w base' (x, (A, c)) := ⟨h.1, Kd.F_mono h.2 fun k hk => ⟨Nat.le_trans hb hk.1, hk.2⟩⟩
theorem VR0.nil (w : World) (base : Nat) : VR0 w base none 0 [] := ⟨Nat.le_refl _, Kd.F_nil _ _ _⟩
theorem rest_get {w0 w wc : World} {rb g : Nat} {bad : Bool} {n kind l1 l2 pl : Int} {key : ByteArray} (f : Nat) (hf : f = 92 ∨ f = 96) (h : Ask w0 w wc rb g [] bad (C52 1 n kind l1 l2 pl key ⟨#[]⟩ (.slice none 0 0) 0)) :
 Calls Tryz.prog f #[.pointer (some ⟨rb, 0, none⟩), .pointer (some ⟨g, 2, none⟩)] wc fun e w' => e = .returned (.tuple #[]) ∧ w' = wc := by
 rcases hf with rfl | rfl
 · go_enter Tryz.func92, Tryz.ntmps92
   go_wp2_with fail
   go_end0
   exact ⟨rfl, rfl⟩
 go_enter Tryz.func96, Tryz.ntmps96
 go_wp2_with fail
 go_end0
 exact ⟨rfl, rfl⟩
theorem rest_put {w0 w wc : World} {rb g : Nat} {bad : Bool} {n kind l1 l2 pl : Int} {key x : ByteArray} (h : Ask w0 w wc rb g [x] bad (C52 1 n kind l1 l2 pl key ⟨#[]⟩ (.slice none 0 0) 0)) (hE : sc.Env w0) (hs : x.size ≤ 65536) :
 Calls Tryz.prog 95 #[.pointer (some ⟨rb, 0, none⟩), .pointer (some ⟨g, 2, none⟩)] wc fun e w' => ∃ (A : Option Addr) (c : Nat) (xs : List Int), e = .returned (.tuple #[]) ∧
  Ask w0 w w' rb g [] (bad || !(sc.unquoteL x.data.toList).isSome) (C52 1 n kind l1 l2 pl key ⟨#[]⟩ (.slice A xs.length c) 0) ∧ VR0 w' w.heap.size A c xs ∧ ∀ u, sc.unquoteL x.data.toList = some u → xs = nums8 u := by
 have HA := am_ h
 have HE := am_ hE
 have HS := am_ hs
 clear h hE hs
 go_enter Tryz.func95, Tryz.ntmps95
 go_wp2_with fail
 refine (quoted_calls rb [x] _ w0 _ HA.out.tr.rd HA.out.tr.b0 HE.out (by intro y hy; rw [List.mem_singleton.1 hy]; exact HS.out)).mono ?_
 rintro e w1 ⟨t, rfl, ht, hsz, hI, hB, hk⟩
 have HA1 := am_ (HA.out.call hI hB hk)
 have HT := am_ ht
 have HZ := am_ hsz
 clear ht hsz hI hB hk HA
 have hcv := run_bytes_of_string (P := Tryz.prog) w1 9 38 5 t Tryz.underlying9 Tryz.underlying38 Tryz.underlying5
 generalize hcap : grownCap w1 t.size 0 5 = cap at hcv
 have HC := am_ (show t.size ≤ cap from hcap ▸ grownCap_ge w1 t.size 0 5)
 have HR := am_ (show (w1.drew.alloc (.cells (bytesRow t cap) 5 ((bytesRow t cap).size, (bytesRow t cap).size + 1))).heap[w1.heap.size]? = some (.cells (bytesRow t cap) 5 ((bytesRow t cap).size, (bytesRow t cap).size + 1)) from wld.alloc_same w1.drew _)
 have HA2 := am_ (HA1.out.below (b1_ (b3_ (Below.refl _ _)) (.cells (bytesRow t cap) 5 ((bytesRow t cap).size, (bytesRow t cap).size + 1))))
 generalize w1.drew.alloc (.cells (bytesRow t cap) 5 ((bytesRow t cap).size, (bytesRow t cap).size + 1)) = w2 at hcv HA2 HR
 have hcz := (blk_cell HA2.out.blk 8).trans rfl
 have hfz := blk_frozen HA2.out.blk 8
 clear hcap
 have HG1 := am_ (show w.heap.size ≤ w1.heap.size from HA1.out.tr.kp.1)
 go_wp2_with fail
 go_end0
 have hne : w1.heap.size ≠ g := by
  have := blk_lt HA1.out.blk
  omega
 have hl : t.size = (nums8 t.data.toList).length := by rw [nums8_length]; exact Array.length_toList.symm
 refine ⟨some ⟨w1.heap.size, 0, none⟩, cap, nums8 t.data.toList, rfl, ?_, ⟨by rw [← hl]; exact HC.out, ?_⟩, ?_⟩
 · rw [← hl]
   have e := HA2.out.put 8 (.slice (some ⟨w1.heap.size, 0, none⟩) t.size cap) (cells' := C52 1 n kind l1 l2 pl key ⟨#[]⟩ (.slice (some ⟨w1.heap.size, 0, none⟩) t.size cap) 0) rfl
   simpa [hd0] using e
 · exact F_conv ((Below.heap_setCell w2 ⟨g, 8, none⟩ _ w1.heap.size hne).trans HR.out) HG1.out HZ.out
 intro u hu
 rw [HT.out u (by simpa [hd0] using hu)]
theorem rest_scan {w0 w wc : World} {rb g : Nat} {bad : Bool} {n kind l1 l2 pl : Int} {key x y : ByteArray} (h : Ask w0 w wc rb g [x, y] bad (C52 1 n kind l1 l2 pl key ⟨#[]⟩ (.slice none 0 0) 0)) (hE : sc.Env w0) (hs : ∀ z ∈ [x, y], z.size ≤ 65536) :
 Calls Tryz.prog 93 #[.pointer (some ⟨rb, 0, none⟩), .pointer (some ⟨g, 2, none⟩)] wc fun e w' => ∃ (t : ByteArray) (m : Int), e = .returned (.tuple #[]) ∧
  Ask w0 w w' rb g [] (bad || !(sc.unquoteL x.data.toList).isSome || !(sc.numOf y).isSome) (C52 1 n kind l1 l2 pl key t (.slice none 0 0) m) ∧ (∀ u, sc.unquoteL x.data.toList = some u → t = ⟨u.toArray⟩) ∧ ∀ u, sc.numOf y = some u → m = u := by
 have HA := am_ h
 have HE := am_ hE
 have HS := am_ hs
 clear h hE hs
 go_enter Tryz.func93, Tryz.ntmps93
 go_wp2_with fail
 refine (quoted_calls rb [x, y] _ w0 _ HA.out.tr.rd HA.out.tr.b0 HE.out HS.out).mono ?_
 rintro e w1 ⟨t, rfl, ht, hsz, hI, hB, hk⟩
 have HA1 := am_ (HA.out.call hI hB hk)
 have HT := am_ ht
 clear ht hsz hI hB hk HA
 go_wp2_with fail
 refine (number_calls rb [y] _ w0 _ HA1.out.tr.rd HA1.out.tr.b0 HE.out (by intro z hz; exact HS.out z (List.mem_cons_of_mem _ hz))).mono ?_
 rintro e w2 ⟨m, rfl, hn, hm, hI, hB, hk⟩
 have HA2 := am_ (HA1.out.call hI hB hk)
 have HM := am_ hm
 clear hn hm hI hB hk HA1
 have hc7 := (blk_cell HA2.out.blk 7).trans rfl
 have hf7 := blk_frozen HA2.out.blk 7
 have hc9 := (blk_cell HA2.out.blk 9).trans rfl
 have hf9 := blk_frozen HA2.out.blk 9
 go_wp2_with fail
 go_end0
 have e := (HA2.out.put 7 (.string t) (cells' := C52 1 n kind l1 l2 pl key t (.slice none 0 0) 0) rfl).put 9 (.int .i64 m) (cells' := C52 1 n kind l1 l2 pl key t (.slice none 0 0) m) rfl
 refine ⟨t, m, rfl, by simpa [hd0] using e, fun u hu => HT.out u (by simpa [hd0] using hu), fun u hu => HM.out u (by simpa [hd0] using hu)⟩
def askPut (kind : Int) (a c d p k x : ByteArray) : Option S52 := (sc.numOf a).bind fun n => (sc.numOf c).bind fun l => (sc.numOf d).bind fun m => (sc.numOf p).bind fun pl => (sc.unquoteL k.data.toList).bind fun kk => (sc.unquoteL x.data.toList).bind fun vv => some (askEv n kind l m pl ⟨kk.toArray⟩ ⟨#[]⟩ (nums8 vv) 0)
theorem ask1_put (W w0 w : World) (cb rb sb : Nat) (vl v0 v1 v2 v3 : Value) (lines : List ByteArray) (l0 : List Int) (l1 : List S70) (l2 : List Int) (l3 : List S52) (kb qb : Nat) (kind : Int) (hkd : kind ≠ 1) (a b c d p k x : ByteArray) (h : Ctx W w0 w cb rb sb [a, b, c, d, p, k, x] false vl v0 v1 v2 v3 lines l0 l1 l2 l3) (hs : ∀ y ∈ [a, b, c, d, p, k, x], y.size ≤ 65536) (hl : l3.length ≤ 100000)
 (hk : w.heap[kb]? = some (.cells #[.int .i64 kind] 3 (0, 0))) (hq : w.heap[qb]? = some (.cells #[.func (.func 95) #[] #[]] 159 (0, 0))) :
 Calls Tryz.prog 114 #[.pointer (some ⟨rb, 0, none⟩), .pointer (some ⟨kb, 0, none⟩), .pointer (some ⟨qb, 0, none⟩), .pointer (some ⟨cb, 0, none⟩)] w fun e w' => e = .returned (.tuple #[]) ∧ LineOut W w' rb sb vl lines ((askPut kind a c d p k x).map fun x => (l0, l1, l2, l3 ++ [x])) := by
 obtain ⟨A_, c_, hrb⟩ := h.rbk
 have HRL := am_ (blk_lt hrb)
 have HKR := am_ (blk_ne hk hrb (by decide))
 have HQR := am_ (blk_ne hq hrb (by decide))
 have H0L := am_ h.b0.size
 have HT0 := am_ (show Trk w0 w w rb [a, b, c, d, p, k, x] false from ⟨h.rd, h.b0, KeepBut.refl w rb none⟩)
 have HX0 := am_ h
 have HSA := am_ hs
 have HL := am_ hl
 have HK := am_ hk
 have HQ := am_ hq
 clear h hs hl hk hq hrb
 go_enter Tryz.func114, Tryz.ntmps114
 go_wp2_with fail
 generalize hws : [a, b, c, d, p, k, x] = ws at HT0
 have HS0 := am_ (show ∀ y ∈ ws, y.size ≤ 65536 from hws ▸ HSA.out)
 refine start_ (n := 7) (S := fun w' => w'.cell? ⟨kb, 0, none⟩ = some (.int .i64 kind)) (ds := [6]) (bs_ 7 0) (by kernel_rfl) rfl rfl ((blk_cell (Trk.box HT0.out HK.out HKR.out) 0).trans rfl) (fun hHeld => ?_)
 replace HT0 := am_ (HT0.out.below (b3_ (Below.refl _ _))); generalize w.drew = w5 at HT0 hHeld ⊢
 refine pA_ 0 6 (bs_ 7 1) ?_
 refine tA_ hHeld 2 8 (bs_ 7 5) ?_
 refine pA_ 3 9 (bs_ 7 13) ?_
 refine join_ (σ := Int × Nat) 1 #[true, true, true, true, true, true, false] (fun s => [(7, .int .i64 s.1), (10, .agg #[.int .i64 1, .int .i64 s.1, .int .i64 kind, .int .i64 0, .int .i64 0, .int .i64 0, .string ⟨#[]⟩, .string ⟨#[]⟩, .slice none 0 0, .int .i64 0, .int .i64 0, .slice none 0 0]), (5, .pointer (some ⟨s.2, 0, none⟩))]) (fun s w' => Ask w0 w w' rb s.2 ws.tail (false || ws.isEmpty || !(sc.numOf (hd0 ws)).isSome) Z52 ∧ ∀ m, sc.numOf (hd0 ws) = some m → s.1 = m) ?_ ?_
 rotate_left
 · intro hCont
   refine two_ (i := 1) (j := 5) (Ni := some 7) (Nj := some 5) #[true, true, true, true, false, false, false] #[true, false, true, true, false, true, false] rfl rfl rfl rfl (by kernel_rfl) (by decide) (by decide) (fun K hK => ?_) (fun K hK => ?_)
   · skip
     refine gA_ Tryz.func88 #[.pointer (some ⟨rb, 0, none⟩)] ?_
     with_reducible refine (number_calls rb ws _ w0 _ HT0.out.rd HT0.out.b0 HX0.out.env HS0.out).mono ?_
     rintro e w1 ⟨n, rfl, hn, hm, hI, hB, hk⟩
     refine ⟨_, rfl, ?_⟩
     have HT1 := am_ (HT0.out.call hI hB hk)
     refine hK.out _ _ ((blk_cell (Trk.box HT1.out HK.out HKR.out) 0).trans rfl) (fun hHeld => ?_)
     clear hK K
     refine nA_ ?_
     refine pA_ 4 10 (bs_ 7 31) ?_
     refine oA_ 5 5 (bs_ 7 63) (fun K hK => ?_)
     refine vA_ ?_
     refine hK.out _ _ (wld.cellA ((blk_cell (Trk.box HT1.out HK.out HKR.out) 0).trans rfl) _) (fun hHeld => ?_)
     clear hK K
     refine nA_ ?_
     exact norm_ (by simp only [putAll, Act.put, List.setIfInBounds_toArray, List.set_cons_zero, List.set_cons_succ]) (hCont (n, w1.heap.size) _ ⟨⟨HT1.out.alloc _, HRL.out, H0L.out, HT1.out.kp.1, wld.alloc_same _ _⟩, hm⟩)
   skip
   refine vA_ ?_
   refine hK.out _ _ (wld.cellA ((blk_cell (Trk.box HT0.out HK.out HKR.out) 0).trans rfl) _) (fun hHeld => ?_)
   clear hK K
   refine nA_ ?_
   refine oA_ 1 7 (bs_ 7 47) (fun K hK => ?_)
   refine gA_ Tryz.func88 #[.pointer (some ⟨rb, 0, none⟩)] ?_
   with_reducible refine (number_calls rb ws _ w0 _ (HT0.out.alloc _).rd (HT0.out.alloc _).b0 HX0.out.env HS0.out).mono ?_
   rintro e w1 ⟨n, rfl, hn, hm, hI, hB, hk⟩
   refine ⟨_, rfl, ?_⟩
   have HT1 := am_ ((HT0.out.alloc _).call hI hB hk)
   have HG1 := am_ ((hk.2 w5.heap.size (blk_lt (wld.alloc_same w5 _)) (by have := HT0.out.kp.1; have := HRL.out; omega) (by simp)).trans (wld.alloc_same w5 (.cells Z52 52)))
   refine hK.out _ _ ((blk_cell (Trk.box HT1.out HK.out HKR.out) 0).trans rfl) (fun hHeld => ?_)
   clear hK K
   refine nA_ ?_
   refine pA_ 4 10 (bs_ 7 63) ?_
   exact norm_ (by simp only [putAll, Act.put, List.setIfInBounds_toArray, List.set_cons_zero, List.set_cons_succ]) (hCont (n, w5.heap.size) _ ⟨⟨HT1.out, HRL.out, H0L.out, HT0.out.kp.1, HG1.out⟩, hm⟩)
 rintro ⟨n, g⟩ w2 ⟨hA, hm⟩
 have hHeld : w2.cell? ⟨kb, 0, none⟩ = some (.int .i64 kind) := (blk_cell (Trk.box hA.tr HK.out HKR.out) 0).trans rfl
 refine norm_ (a' := ?_) ?_ ?_
 rotate_left
 · simp only [putAll, Act.put, List.setIfInBounds_toArray, List.set_cons_zero, List.set_cons_succ]
   rfl
 refine last_ (i := 6) (N := none) (bs_ 7 127) rfl rfl (by kernel_rfl) (by decide) (fun K hK => ?_)
 refine store_all_ [.int .i64 1, .int .i64 n, .int .i64 kind, .int .i64 0, .int .i64 0, .int .i64 0, .string ⟨#[]⟩, .string ⟨#[]⟩, .slice none 0 0, .int .i64 0, .int .i64 0, .slice none 0 0] (u := .agg #[.int .i64 1, .int .i64 n, .int .i64 kind, .int .i64 0, .int .i64 0, .int .i64 0, .string ⟨#[]⟩, .string ⟨#[]⟩, .slice none 0 0, .int .i64 0, .int .i64 0, .slice none 0 0]) (by rfl) rfl rfl rfl rfl hA.blk rfl size52 (by simp) (by intro q hq; simp at hq; rcases hq with rfl | rfl | rfl | rfl | rfl | rfl | rfl | rfl | rfl | rfl | rfl | rfl <;> rfl) ?_
 refine hK.out _ _ ?_
 clear hK K
 refine done_ (by kernel_rfl) ?_
 subst hws
 have HA := am_ (hA.setN (cells' := C52 1 n kind 0 0 0 ⟨#[]⟩ ⟨#[]⟩ (.slice none 0 0) 0) [.int .i64 1, .int .i64 n, .int .i64 kind, .int .i64 0, .int .i64 0, .int .i64 0, .string ⟨#[]⟩, .string ⟨#[]⟩, .slice none 0 0, .int .i64 0, .int .i64 0, .slice none 0 0] 0 (by simp) rfl)
 have HM0 := am_ hm
 clear hA hm hHeld
 generalize w2.setCells g 0 [.int .i64 1, .int .i64 n, .int .i64 kind, .int .i64 0, .int .i64 0, .int .i64 0, .string ⟨#[]⟩, .string ⟨#[]⟩, .slice none 0 0, .int .i64 0, .int .i64 0, .slice none 0 0] = w3 at HA ⊢
 go_wp2_with fail
 refine (script_reader_next.calls rb _ _ _ _ _ w0 _ HA.out.tr.rd HA.out.tr.b0 (next_f _ _)).mono ?_
 rintro e w4 ⟨rfl, hI, hB, hk⟩
 have HA4 := am_ (HA.out.call hI hB hk)
 have hck := show w4.cell? ⟨kb, 0, none⟩ = some (.int .i64 kind) from (blk_cell (Trk.box HA4.out.tr HK.out HKR.out) 0).trans rfl
 clear hI hB hk HA
 have hkb : (kind == 1) = false := by simpa using hkd
 go_wp2_with fail
 refine (number_calls rb [c, d, p, k, x] _ w0 _ HA4.out.tr.rd HA4.out.tr.b0 HX0.out.env (by have := HSA.out; simp at this ⊢; simp [this])).mono ?_
 rintro e w5 ⟨m1, rfl, hn, hm, hI, hB, hk⟩
 have HA5 := am_ (HA4.out.call hI hB hk)
 have HM1 := am_ hm
 clear hn hm hI hB hk
 go_wp2_with fail
 refine (number_calls rb [d, p, k, x] _ w0 _ HA5.out.tr.rd HA5.out.tr.b0 HX0.out.env (by have := HSA.out; simp at this ⊢; simp [this])).mono ?_
 rintro e w6 ⟨m2, rfl, hn, hm, hI, hB, hk⟩
 have HA6 := am_ (HA5.out.call hI hB hk)
 have HM2 := am_ hm
 clear hn hm hI hB hk
 have hc3 := (blk_cell HA6.out.blk 3).trans rfl
 have hf3 := blk_frozen HA6.out.blk 3
 have hc4 := (blk_cell HA6.out.blk 4).trans rfl
 have hf4 := blk_frozen HA6.out.blk 4
 have HA7 := am_ ((HA6.out.put 3 (.int .i64 m1) (cells' := C52 1 n kind m1 0 0 ⟨#[]⟩ ⟨#[]⟩ (.slice none 0 0) 0) rfl).put 4 (.int .i64 m2) (cells' := C52 1 n kind m1 m2 0 ⟨#[]⟩ ⟨#[]⟩ (.slice none 0 0) 0) rfl)
 have hck := show ((w6.setCell ⟨g, 3, none⟩ (.int .i64 m1)).setCell ⟨g, 4, none⟩ (.int .i64 m2)).cell? ⟨kb, 0, none⟩ = some (.int .i64 kind) from (blk_cell (Trk.box HA7.out.tr HK.out HKR.out) 0).trans rfl
 have hcq := show ((w6.setCell ⟨g, 3, none⟩ (.int .i64 m1)).setCell ⟨g, 4, none⟩ (.int .i64 m2)).cell? ⟨qb, 0, none⟩ = some (.func (.func 95) #[] #[]) from (blk_cell (Trk.box HA7.out.tr HQ.out HQR.out) 0).trans rfl
 have hrun := neq_func (.func 95) #[] #[] ((w6.setCell ⟨g, 3, none⟩ (.int .i64 m1)).setCell ⟨g, 4, none⟩ (.int .i64 m2))
 go_wp2_with fail
 clear hc3 hc4 hf3 hf4 hcq hck hrun hkb
 generalize (w6.setCell ⟨g, 3, none⟩ (.int .i64 m1)).setCell ⟨g, 4, none⟩ (.int .i64 m2) = w7 at HA7 ⊢
 refine (number_calls rb [p, k, x] _ w0 _ HA7.out.tr.rd HA7.out.tr.b0 HX0.out.env (by have := HSA.out; simp at this ⊢; simp [this])).mono ?_
 rintro e w8 ⟨pl, rfl, hn, hm, hI, hB, hk⟩
 have HA8 := am_ (HA7.out.call hI hB hk)
 have HM3 := am_ hm
 clear hn hm hI hB hk
 have hc5 := (blk_cell HA8.out.blk 5).trans rfl
 have hf5 := blk_frozen HA8.out.blk 5
 have HA9 := am_ (HA8.out.put 5 (.int .i64 pl) (cells' := C52 1 n kind m1 m2 pl ⟨#[]⟩ ⟨#[]⟩ (.slice none 0 0) 0) rfl)
 go_wp2_with fail
 clear hc5 hf5
 generalize w8.setCell ⟨g, 5, none⟩ (.int .i64 pl) = w9 at HA9 ⊢
 refine (quoted_calls rb [k, x] _ w0 _ HA9.out.tr.rd HA9.out.tr.b0 HX0.out.env (by have := HSA.out; simp at this ⊢; simp [this])).mono ?_
 rintro e w10 ⟨kt, rfl, hm, hz, hI, hB, hk⟩
 have HA10 := am_ (HA9.out.call hI hB hk)
 have HM4 := am_ hm
 clear hz hm hI hB hk
 have hc6 := (blk_cell HA10.out.blk 6).trans rfl
 have hf6 := blk_frozen HA10.out.blk 6
 have HA11 := am_ (HA10.out.put 6 (.string kt) (cells' := C52 1 n kind m1 m2 pl kt ⟨#[]⟩ (.slice none 0 0) 0) rfl)
 have hcq := show (w10.setCell ⟨g, 6, none⟩ (.string kt)).cell? ⟨qb, 0, none⟩ = some (.func (.func 95) #[] #[]) from (blk_cell (Trk.box HA11.out.tr HQ.out HQR.out) 0).trans rfl
 go_wp2_with fail
 clear hc6 hf6 hcq
 generalize w10.setCell ⟨g, 6, none⟩ (.string kt) = w11 at HA11 ⊢
 refine (rest_put HA11.out HX0.out.env (HSA.out x (by simp))).mono ?_
 rintro e w12 ⟨Av, cv, vs, rfl, hA, hV, hv⟩
 have HAZ := am_ hA
 have HVV := am_ hV
 have HMV := am_ hv
 clear hA hV hv
 go_wp2_with fail
 have HT := am_ HAZ.out.tr
 have HG := am_ HAZ.out.blk
 have HGE := am_ HAZ.out.ge
 have HX := am_ (HX0.out.step HT.out.rd HT.out.b0 HT.out.kp)
 have HNE := am_ (show some g ≠ v3.ownBlock from fun e => by
  obtain ⟨cells, hc⟩ := HX0.out.rows.r3.typ _ e.symm
  have := blk_lt hc
  have := HGE.out
  omega)
 have HNV := am_ (show ∀ k_, v3.ownBlock = some k_ → ¬ w.heap.size ≤ k_ from fun k_ e => by
  obtain ⟨cells, hc⟩ := HX0.out.rows.r3.typ _ e
  exact Nat.not_le.2 (blk_lt hc))
 have HP := am_ (show k52o.M w12 W.heap.size (fun k_ => w.heap.size ≤ k_) (askEv n kind m1 m2 pl kt ⟨#[]⟩ vs 0, (Av, cv)) [.int .i64 1, .int .i64 n, .int .i64 kind, .int .i64 m1, .int .i64 m2, .int .i64 pl, .string kt, .string ⟨#[]⟩, .slice Av vs.length cv, .int .i64 0, .int .i64 0, .slice none 0 0] from k52o_mkM w12 W.heap.size (fun k_ => w.heap.size ≤ k_) (askEv n kind m1 m2 pl kt ⟨#[]⟩ vs 0, (Av, cv)) (Kd.R_nil _ _ _ _ _))
 have HV := am_ ((HVV.out.of (x := askEv n kind m1 m2 pl kt ⟨#[]⟩ vs 0) HX0.out.bW.size : VR w12 W.heap.size (askEv n kind m1 m2 pl kt ⟨#[]⟩ vs 0, (Av, cv))))
 obtain ⟨o3, ho3⟩ := HX.out.rows.r3
 have HO := am_ ho3
 clear ho3
 generalize hev : askEv n kind m1 m2 pl kt ⟨#[]⟩ vs 0 = ev at HP HV
 have HEV := am_ hev
 clear hev
 generalize hhd : ((Av, cv) : Option Addr × Nat) = hdr at HP HV
 refine start_ (n := 11) (S := fun w' => w'.cell? ⟨cb, 0, none⟩ = some (.pointer (some ⟨sb, 0, none⟩)) ∧ w'.cell? ⟨sb, 3, none⟩ = some v3 ∧ w'.cell? ⟨g, 0, none⟩ = some (.int .i64 1) ∧ w'.cell? ⟨g, 1, none⟩ = some (.int .i64 n) ∧ w'.cell? ⟨g, 2, none⟩ = some (.int .i64 kind) ∧ w'.cell? ⟨g, 3, none⟩ = some (.int .i64 m1) ∧ w'.cell? ⟨g, 4, none⟩ = some (.int .i64 m2) ∧ w'.cell? ⟨g, 5, none⟩ = some (.int .i64 pl) ∧ w'.cell? ⟨g, 6, none⟩ = some (.string kt) ∧ w'.cell? ⟨g, 7, none⟩ = some (.string ⟨#[]⟩) ∧ w'.cell? ⟨g, 8, none⟩ = some (.slice Av vs.length cv) ∧ w'.cell? ⟨g, 9, none⟩ = some (.int .i64 0) ∧ w'.cell? ⟨g, 10, none⟩ = some (.int .i64 0) ∧ w'.cell? ⟨g, 11, none⟩ = some (.slice none 0 0)) (ds := [10]) (bs_ 11 0) (by kernel_rfl) rfl rfl ⟨(blk_cell HX.out.cbk 0).trans rfl, (blk_cell HX.out.sbk 3).trans rfl, c12_ HG.out⟩ (fun hHeld => ?_)
 replace HX := am_ HX.out.drew; replace HG := am_ (d2_ HG.out); replace HP := am_ (Kd.M_below HP.out (b3_ (Below.refl _ _))); replace HO := am_ HO.out.drew; replace HV := am_ (HV.out.below (b3_ (Below.refl _ _))); generalize w12.drew = w6 at HX HG HP HO HV hHeld ⊢
 refine tA_ hHeld 0 36 (bs_ 11 1) ?_
 refine tA_ hHeld 1 37 (bs_ 11 3) ?_
 refine pA_ 2 38 (bs_ 11 7) ?_
 refine pA_ 3 39 (bs_ 11 15) ?_
 refine tA_ hHeld 4 40 (bs_ 11 31) ?_
 refine tA_ hHeld 5 41 (bs_ 11 63) ?_
 refine oA_ 6 42 (bs_ 11 127) (fun K hK => ?_)
 refine vA_ ?_
 refine hK.out _ _ ⟨wld.cellA ((blk_cell HX.out.cbk 0).trans rfl) _, wld.cellA ((blk_cell HX.out.sbk 3).trans rfl) _, c12a_ HG.out⟩ (fun hHeld => ?_)
 clear hK K
 refine nA_ ?_
 refine oA_ 7 43 (bs_ 11 255) (fun K hK => ?_)
 refine Kd.R_append_step k52o (w0 := W) W.heap.size (by rfl) (.tmp 40) (.tmp 42) 27 52 (.agg #[(.int .i64 0), (.int .i64 0), (.int .i64 0), (.int .i64 0), (.int .i64 0), (.int .i64 0), (.string ⟨#[]⟩), (.string ⟨#[]⟩), (.slice none 0 0), (.int .i64 0), (.int .i64 0), (.slice none 0 0)]) 144 rfl Tryz.underlying27 info52 rfl (by decide) (by omega) v3 o3 (ev, hdr) [.int .i64 1, .int .i64 n, .int .i64 kind, .int .i64 m1, .int .i64 m2, .int .i64 pl, .string kt, .string ⟨#[]⟩, .slice Av vs.length cv, .int .i64 0, .int .i64 0, .slice none 0 0] (fun _ => True) (fun k_ => w.heap.size ≤ k_) rfl rfl ?aP (fun k_ hk => ⟨trivial, fun e => HNV.out k_ e.symm hk⟩) ?aF ?aO ?aB ?aS ?aL ?_
 (case aP => exact HP.out)
 (case aF => exact (fun _ _ => trivial))
 (case aO => exact Kd.R_mono HO.out.r (fun k_ hk => trivial))
 (case aB => exact HX.out.bW)
 (case aS => exact HX.out.bW.size)
 (case aL => have := HL.out; have hm_ := congrArg List.length HO.out.m; rw [List.length_map] at hm_; omega)
 intro v9 w3 ho hb hg hat
 obtain ⟨A9, c9, rfl⟩ := Kd.R_slice ho
 have hfz := blk_frozen (grown_blk HX.out.sbk HX.out.rows.r3.typ (by decide) hg) 3
 refine hK.out _ _ ⟨(blk_cell (grown_blk HX.out.cbk HX.out.rows.r3.typ (by decide) hg) 0).trans rfl, (blk_cell (grown_blk HX.out.sbk HX.out.rows.r3.typ (by decide) hg) 3).trans rfl, c12_ (blk_grown HG.out hg HNE.out)⟩ (fun hHeld => ?_)
 clear hK K
 refine nA_ ?_
 refine pA_ 8 44 (bs_ 11 511) ?_
 refine pA_ 9 45 (bs_ 11 1023) ?_
 refine last_ (i := 10) (N := none) (bs_ 11 2047) rfl rfl (by kernel_rfl) (by decide) (fun K hK => ?_)
 refine skip_ (w1 := ?_) (by rfl) rfl ?_ ?_
 rotate_left
 · go_simp
   rfl
 refine hK.out _ _ ?_
 clear hK K
 refine done_ (by kernel_rfl) ?_
 go_end0
 refine ⟨rfl, ?_⟩
 have e := HX.out.out3 (o := (askPut kind a c d p k x).map fun x => (l0, l1, l2, l3 ++ [x])) (HO.out.snoc hg ho HV.out) hg hb (by
  show (_ || _) = _
  simp only [hd0, List.headD_cons, List.isEmpty_cons, List.tail_cons]
  unfold askPut
  cases sc.numOf a <;> cases sc.numOf c <;> cases sc.numOf d <;> cases sc.numOf p <;> cases sc.unquoteL k.data.toList <;> cases sc.unquoteL x.data.toList <;> rfl) (fun s hs => by
  have hm0 := HM0.out
  have hm1 := HM1.out
  have hm2 := HM2.out
  have hm3 := HM3.out
  have hm4 := HM4.out
  simp only [hd0, List.headD_cons] at hm0 hm1 hm2 hm3 hm4
  unfold askPut at hs
  simp only [Option.map_eq_some_iff, Option.bind_eq_some_iff] at hs
  obtain ⟨ev', ⟨n0, h0, x1, h1, x2, h2, x3, h3, x4, h4, x5, h5, he⟩, rfl⟩ := hs
  rw [← HEV.out, hm0 _ h0, hm1 _ h1, hm2 _ h2, hm3 _ h3, hm4 _ h4, HMV.out _ h5, Option.some.inj he])
 simpa only [List.length_append, List.length_cons, List.length_nil, Nat.zero_add] using e
def askScan (kind : Int) (a c d p k x z : ByteArray) : Option S52 := (sc.numOf a).bind fun n => (sc.numOf c).bind fun l => (sc.numOf d).bind fun m => (sc.numOf p).bind fun pl => (sc.unquoteL k.data.toList).bind fun kk => (sc.unquoteL x.data.toList).bind fun tt => (sc.numOf z).bind fun lm => some (askEv n kind l m pl ⟨kk.toArray⟩ ⟨tt.toArray⟩ [] lm)
theorem ask1_scan (W w0 w : World) (cb rb sb : Nat) (vl v0 v1 v2 v3 : Value) (lines : List ByteArray) (l0 : List Int) (l1 : List S70) (l2 : List Int) (l3 : List S52) (kb qb : Nat) (kind : Int) (hkd : kind ≠ 1) (a b c d p k x z : ByteArray) (h : Ctx W w0 w cb rb sb [a, b, c, d, p, k, x, z] false vl v0 v1 v2 v3 lines l0 l1 l2 l3) (hs : ∀ y ∈ [a, b, c, d, p, k, x, z], y.size ≤ 65536) (hl : l3.length ≤ 100000)
 (hk : w.heap[kb]? = some (.cells #[.int .i64 kind] 3 (0, 0))) (hq : w.heap[qb]? = some (.cells #[.func (.func 93) #[] #[]] 159 (0, 0))) :
 Calls Tryz.prog 114 #[.pointer (some ⟨rb, 0, none⟩), .pointer (some ⟨kb, 0, none⟩), .pointer (some ⟨qb, 0, none⟩), .pointer (some ⟨cb, 0, none⟩)] w fun e w' => e = .returned (.tuple #[]) ∧ LineOut W w' rb sb vl lines ((askScan kind a c d p k x z).map fun x => (l0, l1, l2, l3 ++ [x])) := by
 obtain ⟨A_, c_, hrb⟩ := h.rbk
 have HRL := am_ (blk_lt hrb)
 have HKR := am_ (blk_ne hk hrb (by decide))
 have HQR := am_ (blk_ne hq hrb (by decide))
 have H0L := am_ h.b0.size
 have HT0 := am_ (show Trk w0 w w rb [a, b, c, d, p, k, x, z] false from ⟨h.rd, h.b0, KeepBut.refl w rb none⟩)
 have HX0 := am_ h
 have HSA := am_ hs
 have HL := am_ hl
 have HK := am_ hk
 have HQ := am_ hq
 clear h hs hl hk hq hrb
 go_enter Tryz.func114, Tryz.ntmps114
 go_wp2_with fail
 generalize hws : [a, b, c, d, p, k, x, z] = ws at HT0
 have HS0 := am_ (show ∀ y ∈ ws, y.size ≤ 65536 from hws ▸ HSA.out)
 refine start_ (n := 7) (S := fun w' => w'.cell? ⟨kb, 0, none⟩ = some (.int .i64 kind)) (ds := [6]) (bs_ 7 0) (by kernel_rfl) rfl rfl ((blk_cell (Trk.box HT0.out HK.out HKR.out) 0).trans rfl) (fun hHeld => ?_)
 replace HT0 := am_ (HT0.out.below (b3_ (Below.refl _ _))); generalize w.drew = w5 at HT0 hHeld ⊢
 refine pA_ 0 6 (bs_ 7 1) ?_
 refine tA_ hHeld 2 8 (bs_ 7 5) ?_
 refine pA_ 3 9 (bs_ 7 13) ?_
 refine join_ (σ := Int × Nat) 1 #[true, true, true, true, true, true, false] (fun s => [(7, .int .i64 s.1), (10, .agg #[.int .i64 1, .int .i64 s.1, .int .i64 kind, .int .i64 0, .int .i64 0, .int .i64 0, .string ⟨#[]⟩, .string ⟨#[]⟩, .slice none 0 0, .int .i64 0, .int .i64 0, .slice none 0 0]), (5, .pointer (some ⟨s.2, 0, none⟩))]) (fun s w' => Ask w0 w w' rb s.2 ws.tail (false || ws.isEmpty || !(sc.numOf (hd0 ws)).isSome) Z52 ∧ ∀ m, sc.numOf (hd0 ws) = some m → s.1 = m) ?_ ?_
 rotate_left
 · intro hCont
   refine two_ (i := 1) (j := 5) (Ni := some 7) (Nj := some 5) #[true, true, true, true, false, false, false] #[true, false, true, true, false, true, false] rfl rfl rfl rfl (by kernel_rfl) (by decide) (by decide) (fun K hK => ?_) (fun K hK => ?_)
   · skip
     refine gA_ Tryz.func88 #[.pointer (some ⟨rb, 0, none⟩)] ?_
     with_reducible refine (number_calls rb ws _ w0 _ HT0.out.rd HT0.out.b0 HX0.out.env HS0.out).mono ?_
     rintro e w1 ⟨n, rfl, hn, hm, hI, hB, hk⟩
     refine ⟨_, rfl, ?_⟩
     have HT1 := am_ (HT0.out.call hI hB hk)
     refine hK.out _ _ ((blk_cell (Trk.box HT1.out HK.out HKR.out) 0).trans rfl) (fun hHeld => ?_)
     clear hK K
     refine nA_ ?_
     refine pA_ 4 10 (bs_ 7 31) ?_
     refine oA_ 5 5 (bs_ 7 63) (fun K hK => ?_)
     refine vA_ ?_
     refine hK.out _ _ (wld.cellA ((blk_cell (Trk.box HT1.out HK.out HKR.out) 0).trans rfl) _) (fun hHeld => ?_)
     clear hK K
     refine nA_ ?_
     exact norm_ (by simp only [putAll, Act.put, List.setIfInBounds_toArray, List.set_cons_zero, List.set_cons_succ]) (hCont (n, w1.heap.size) _ ⟨⟨HT1.out.alloc _, HRL.out, H0L.out, HT1.out.kp.1, wld.alloc_same _ _⟩, hm⟩)
   skip
   refine vA_ ?_
   refine hK.out _ _ (wld.cellA ((blk_cell (Trk.box HT0.out HK.out HKR.out) 0).trans rfl) _) (fun hHeld => ?_)
   clear hK K
   refine nA_ ?_
   refine oA_ 1 7 (bs_ 7 47) (fun K hK => ?_)
   refine gA_ Tryz.func88 #[.pointer (some ⟨rb, 0, none⟩)] ?_
   with_reducible refine (number_calls rb ws _ w0 _ (HT0.out.alloc _).rd (HT0.out.alloc _).b0 HX0.out.env HS0.out).mono ?_
   rintro e w1 ⟨n, rfl, hn, hm, hI, hB, hk⟩
   refine ⟨_, rfl, ?_⟩
   have HT1 := am_ ((HT0.out.alloc _).call hI hB hk)
   have HG1 := am_ ((hk.2 w5.heap.size (blk_lt (wld.alloc_same w5 _)) (by have := HT0.out.kp.1; have := HRL.out; omega) (by simp)).trans (wld.alloc_same w5 (.cells Z52 52)))
   refine hK.out _ _ ((blk_cell (Trk.box HT1.out HK.out HKR.out) 0).trans rfl) (fun hHeld => ?_)
   clear hK K
   refine nA_ ?_
   refine pA_ 4 10 (bs_ 7 63) ?_
   exact norm_ (by simp only [putAll, Act.put, List.setIfInBounds_toArray, List.set_cons_zero, List.set_cons_succ]) (hCont (n, w5.heap.size) _ ⟨⟨HT1.out, HRL.out, H0L.out, HT0.out.kp.1, HG1.out⟩, hm⟩)
 rintro ⟨n, g⟩ w2 ⟨hA, hm⟩
 have hHeld : w2.cell? ⟨kb, 0, none⟩ = some (.int .i64 kind) := (blk_cell (Trk.box hA.tr HK.out HKR.out) 0).trans rfl
 refine norm_ (a' := ?_) ?_ ?_
 rotate_left
 · simp only [putAll, Act.put, List.setIfInBounds_toArray, List.set_cons_zero, List.set_cons_succ]
   rfl
 refine last_ (i := 6) (N := none) (bs_ 7 127) rfl rfl (by kernel_rfl) (by decide) (fun K hK => ?_)
 refine store_all_ [.int .i64 1, .int .i64 n, .int .i64 kind, .int .i64 0, .int .i64 0, .int .i64 0, .string ⟨#[]⟩, .string ⟨#[]⟩, .slice none 0 0, .int .i64 0, .int .i64 0, .slice none 0 0] (u := .agg #[.int .i64 1, .int .i64 n, .int .i64 kind, .int .i64 0, .int .i64 0, .int .i64 0, .string ⟨#[]⟩, .string ⟨#[]⟩, .slice none 0 0, .int .i64 0, .int .i64 0, .slice none 0 0]) (by rfl) rfl rfl rfl rfl hA.blk rfl size52 (by simp) (by intro q hq; simp at hq; rcases hq with rfl | rfl | rfl | rfl | rfl | rfl | rfl | rfl | rfl | rfl | rfl | rfl <;> rfl) ?_
 refine hK.out _ _ ?_
 clear hK K
 refine done_ (by kernel_rfl) ?_
 subst hws
 have HA := am_ (hA.setN (cells' := C52 1 n kind 0 0 0 ⟨#[]⟩ ⟨#[]⟩ (.slice none 0 0) 0) [.int .i64 1, .int .i64 n, .int .i64 kind, .int .i64 0, .int .i64 0, .int .i64 0, .string ⟨#[]⟩, .string ⟨#[]⟩, .slice none 0 0, .int .i64 0, .int .i64 0, .slice none 0 0] 0 (by simp) rfl)
 have HM0 := am_ hm
 clear hA hm hHeld
 generalize w2.setCells g 0 [.int .i64 1, .int .i64 n, .int .i64 kind, .int .i64 0, .int .i64 0, .int .i64 0, .string ⟨#[]⟩, .string ⟨#[]⟩, .slice none 0 0, .int .i64 0, .int .i64 0, .slice none 0 0] = w3 at HA ⊢
 go_wp2_with fail
 refine (script_reader_next.calls rb _ _ _ _ _ w0 _ HA.out.tr.rd HA.out.tr.b0 (next_f _ _)).mono ?_
 rintro e w4 ⟨rfl, hI, hB, hk⟩
 have HA4 := am_ (HA.out.call hI hB hk)
 have hck := show w4.cell? ⟨kb, 0, none⟩ = some (.int .i64 kind) from (blk_cell (Trk.box HA4.out.tr HK.out HKR.out) 0).trans rfl
 clear hI hB hk HA
 have hkb : (kind == 1) = false := by simpa using hkd
 go_wp2_with fail
 refine (number_calls rb [c, d, p, k, x, z] _ w0 _ HA4.out.tr.rd HA4.out.tr.b0 HX0.out.env (by have := HSA.out; simp at this ⊢; simp [this])).mono ?_
 rintro e w5 ⟨m1, rfl, hn, hm, hI, hB, hk⟩
 have HA5 := am_ (HA4.out.call hI hB hk)
 have HM1 := am_ hm
 clear hn hm hI hB hk
 go_wp2_with fail
 refine (number_calls rb [d, p, k, x, z] _ w0 _ HA5.out.tr.rd HA5.out.tr.b0 HX0.out.env (by have := HSA.out; simp at this ⊢; simp [this])).mono ?_
 rintro e w6 ⟨m2, rfl, hn, hm, hI, hB, hk⟩
 have HA6 := am_ (HA5.out.call hI hB hk)
 have HM2 := am_ hm
 clear hn hm hI hB hk
 have hc3 := (blk_cell HA6.out.blk 3).trans rfl
 have hf3 := blk_frozen HA6.out.blk 3
 have hc4 := (blk_cell HA6.out.blk 4).trans rfl
 have hf4 := blk_frozen HA6.out.blk 4
 have HA7 := am_ ((HA6.out.put 3 (.int .i64 m1) (cells' := C52 1 n kind m1 0 0 ⟨#[]⟩ ⟨#[]⟩ (.slice none 0 0) 0) rfl).put 4 (.int .i64 m2) (cells' := C52 1 n kind m1 m2 0 ⟨#[]⟩ ⟨#[]⟩ (.slice none 0 0) 0) rfl)
 have hck := show ((w6.setCell ⟨g, 3, none⟩ (.int .i64 m1)).setCell ⟨g, 4, none⟩ (.int .i64 m2)).cell? ⟨kb, 0, none⟩ = some (.int .i64 kind) from (blk_cell (Trk.box HA7.out.tr HK.out HKR.out) 0).trans rfl
 have hcq := show ((w6.setCell ⟨g, 3, none⟩ (.int .i64 m1)).setCell ⟨g, 4, none⟩ (.int .i64 m2)).cell? ⟨qb, 0, none⟩ = some (.func (.func 93) #[] #[]) from (blk_cell (Trk.box HA7.out.tr HQ.out HQR.out) 0).trans rfl
 have hrun := neq_func (.func 93) #[] #[] ((w6.setCell ⟨g, 3, none⟩ (.int .i64 m1)).setCell ⟨g, 4, none⟩ (.int .i64 m2))
 go_wp2_with fail
 clear hc3 hc4 hf3 hf4 hcq hck hrun hkb
 generalize (w6.setCell ⟨g, 3, none⟩ (.int .i64 m1)).setCell ⟨g, 4, none⟩ (.int .i64 m2) = w7 at HA7 ⊢
 refine (number_calls rb [p, k, x, z] _ w0 _ HA7.out.tr.rd HA7.out.tr.b0 HX0.out.env (by have := HSA.out; simp at this ⊢; simp [this])).mono ?_
 rintro e w8 ⟨pl, rfl, hn, hm, hI, hB, hk⟩
 have HA8 := am_ (HA7.out.call hI hB hk)
 have HM3 := am_ hm
 clear hn hm hI hB hk
 have hc5 := (blk_cell HA8.out.blk 5).trans rfl
 have hf5 := blk_frozen HA8.out.blk 5
 have HA9 := am_ (HA8.out.put 5 (.int .i64 pl) (cells' := C52 1 n kind m1 m2 pl ⟨#[]⟩ ⟨#[]⟩ (.slice none 0 0) 0) rfl)
 go_wp2_with fail
 clear hc5 hf5
 generalize w8.setCell ⟨g, 5, none⟩ (.int .i64 pl) = w9 at HA9 ⊢
 refine (quoted_calls rb [k, x, z] _ w0 _ HA9.out.tr.rd HA9.out.tr.b0 HX0.out.env (by have := HSA.out; simp at this ⊢; simp [this])).mono ?_
 rintro e w10 ⟨kt, rfl, hm, hz, hI, hB, hk⟩
 have HA10 := am_ (HA9.out.call hI hB hk)
 have HM4 := am_ hm
 clear hz hm hI hB hk
 have hc6 := (blk_cell HA10.out.blk 6).trans rfl
 have hf6 := blk_frozen HA10.out.blk 6
 have HA11 := am_ (HA10.out.put 6 (.string kt) (cells' := C52 1 n kind m1 m2 pl kt ⟨#[]⟩ (.slice none 0 0) 0) rfl)
 have hcq := show (w10.setCell ⟨g, 6, none⟩ (.string kt)).cell? ⟨qb, 0, none⟩ = some (.func (.func 93) #[] #[]) from (blk_cell (Trk.box HA11.out.tr HQ.out HQR.out) 0).trans rfl
 go_wp2_with fail
 clear hc6 hf6 hcq
 generalize w10.setCell ⟨g, 6, none⟩ (.string kt) = w11 at HA11 ⊢
 refine (rest_scan HA11.out HX0.out.env (by have := HSA.out; simp at this ⊢; simp [this])).mono ?_
 rintro e w12 ⟨tt, lm, rfl, hA, hv, hl⟩
 have HAZ := am_ hA
 have HMV := am_ hv
 have HML := am_ hl
 clear hA hv hl
 go_wp2_with fail
 have HT := am_ HAZ.out.tr
 have HG := am_ HAZ.out.blk
 have HGE := am_ HAZ.out.ge
 have HX := am_ (HX0.out.step HT.out.rd HT.out.b0 HT.out.kp)
 have HNE := am_ (show some g ≠ v3.ownBlock from fun e => by
  obtain ⟨cells, hc⟩ := HX0.out.rows.r3.typ _ e.symm
  have := blk_lt hc
  have := HGE.out
  omega)
 have HNV := am_ (show ∀ k_, v3.ownBlock = some k_ → ¬ w.heap.size ≤ k_ from fun k_ e => by
  obtain ⟨cells, hc⟩ := HX0.out.rows.r3.typ _ e
  exact Nat.not_le.2 (blk_lt hc))
 have HP := am_ (show k52o.M w12 W.heap.size (fun k_ => w.heap.size ≤ k_) (askEv n kind m1 m2 pl kt tt [] lm, (none, 0)) [.int .i64 1, .int .i64 n, .int .i64 kind, .int .i64 m1, .int .i64 m2, .int .i64 pl, .string kt, .string tt, .slice none 0 0, .int .i64 lm, .int .i64 0, .slice none 0 0] from k52o_mkM w12 W.heap.size (fun k_ => w.heap.size ≤ k_) (askEv n kind m1 m2 pl kt tt [] lm, (none, 0)) (Kd.R_nil _ _ _ _ _))
 have HV := am_ (VR.nil w12 W.heap.size (askEv n kind m1 m2 pl kt tt [] lm) rfl)
 obtain ⟨o3, ho3⟩ := HX.out.rows.r3
 have HO := am_ ho3
 clear ho3
 generalize hev : askEv n kind m1 m2 pl kt tt [] lm = ev at HP HV
 have HEV := am_ hev
 clear hev
 generalize hhd : ((none, 0) : Option Addr × Nat) = hdr at HP HV
 refine start_ (n := 11) (S := fun w' => w'.cell? ⟨cb, 0, none⟩ = some (.pointer (some ⟨sb, 0, none⟩)) ∧ w'.cell? ⟨sb, 3, none⟩ = some v3 ∧ w'.cell? ⟨g, 0, none⟩ = some (.int .i64 1) ∧ w'.cell? ⟨g, 1, none⟩ = some (.int .i64 n) ∧ w'.cell? ⟨g, 2, none⟩ = some (.int .i64 kind) ∧ w'.cell? ⟨g, 3, none⟩ = some (.int .i64 m1) ∧ w'.cell? ⟨g, 4, none⟩ = some (.int .i64 m2) ∧ w'.cell? ⟨g, 5, none⟩ = some (.int .i64 pl) ∧ w'.cell? ⟨g, 6, none⟩ = some (.string kt) ∧ w'.cell? ⟨g, 7, none⟩ = some (.string tt) ∧ w'.cell? ⟨g, 8, none⟩ = some (.slice none 0 0) ∧ w'.cell? ⟨g, 9, none⟩ = some (.int .i64 lm) ∧ w'.cell? ⟨g, 10, none⟩ = some (.int .i64 0) ∧ w'.cell? ⟨g, 11, none⟩ = some (.slice none 0 0)) (ds := [10]) (bs_ 11 0) (by kernel_rfl) rfl rfl ⟨(blk_cell HX.out.cbk 0).trans rfl, (blk_cell HX.out.sbk 3).trans rfl, c12_ HG.out⟩ (fun hHeld => ?_)
 replace HX := am_ HX.out.drew; replace HG := am_ (d2_ HG.out); replace HP := am_ (Kd.M_below HP.out (b3_ (Below.refl _ _))); replace HO := am_ HO.out.drew; replace HV := am_ (HV.out.below (b3_ (Below.refl _ _))); generalize w12.drew = w6 at HX HG HP HO HV hHeld ⊢
 refine tA_ hHeld 0 36 (bs_ 11 1) ?_
 refine tA_ hHeld 1 37 (bs_ 11 3) ?_
 refine pA_ 2 38 (bs_ 11 7) ?_
 refine pA_ 3 39 (bs_ 11 15) ?_
 refine tA_ hHeld 4 40 (bs_ 11 31) ?_
 refine tA_ hHeld 5 41 (bs_ 11 63) ?_
 refine oA_ 6 42 (bs_ 11 127) (fun K hK => ?_)
 refine vA_ ?_
 refine hK.out _ _ ⟨wld.cellA ((blk_cell HX.out.cbk 0).trans rfl) _, wld.cellA ((blk_cell HX.out.sbk 3).trans rfl) _, c12a_ HG.out⟩ (fun hHeld => ?_)
 clear hK K
 refine nA_ ?_
 refine oA_ 7 43 (bs_ 11 255) (fun K hK => ?_)
 refine Kd.R_append_step k52o (w0 := W) W.heap.size (by rfl) (.tmp 40) (.tmp 42) 27 52 (.agg #[(.int .i64 0), (.int .i64 0), (.int .i64 0), (.int .i64 0), (.int .i64 0), (.int .i64 0), (.string ⟨#[]⟩), (.string ⟨#[]⟩), (.slice none 0 0), (.int .i64 0), (.int .i64 0), (.slice none 0 0)]) 144 rfl Tryz.underlying27 info52 rfl (by decide) (by omega) v3 o3 (ev, hdr) [.int .i64 1, .int .i64 n, .int .i64 kind, .int .i64 m1, .int .i64 m2, .int .i64 pl, .string kt, .string tt, .slice none 0 0, .int .i64 lm, .int .i64 0, .slice none 0 0] (fun _ => True) (fun k_ => w.heap.size ≤ k_) rfl rfl ?aP (fun k_ hk => ⟨trivial, fun e => HNV.out k_ e.symm hk⟩) ?aF ?aO ?aB ?aS ?aL ?_
 (case aP => exact HP.out)
 (case aF => exact (fun _ _ => trivial))
 (case aO => exact Kd.R_mono HO.out.r (fun k_ hk => trivial))
 (case aB => exact HX.out.bW)
 (case aS => exact HX.out.bW.size)
 (case aL => have := HL.out; have hm_ := congrArg List.length HO.out.m; rw [List.length_map] at hm_; omega)
 intro v9 w3 ho hb hg hat
 obtain ⟨A9, c9, rfl⟩ := Kd.R_slice ho
 have hfz := blk_frozen (grown_blk HX.out.sbk HX.out.rows.r3.typ (by decide) hg) 3
 refine hK.out _ _ ⟨(blk_cell (grown_blk HX.out.cbk HX.out.rows.r3.typ (by decide) hg) 0).trans rfl, (blk_cell (grown_blk HX.out.sbk HX.out.rows.r3.typ (by decide) hg) 3).trans rfl, c12_ (blk_grown HG.out hg HNE.out)⟩ (fun hHeld => ?_)
 clear hK K
 refine nA_ ?_
 refine pA_ 8 44 (bs_ 11 511) ?_
 refine pA_ 9 45 (bs_ 11 1023) ?_
 refine last_ (i := 10) (N := none) (bs_ 11 2047) rfl rfl (by kernel_rfl) (by decide) (fun K hK => ?_)
 refine skip_ (w1 := ?_) (by rfl) rfl ?_ ?_
 rotate_left
 · go_simp
   rfl
 refine hK.out _ _ ?_
 clear hK K
 refine done_ (by kernel_rfl) ?_
 go_end0
 refine ⟨rfl, ?_⟩
 have e := HX.out.out3 (o := (askScan kind a c d p k x z).map fun x => (l0, l1, l2, l3 ++ [x])) (HO.out.snoc hg ho HV.out) hg hb (by
  show (_ || _) = _
  simp only [hd0, List.headD_cons, List.isEmpty_cons, List.tail_cons]
  unfold askScan
  cases sc.numOf a <;> cases sc.numOf c <;> cases sc.numOf d <;> cases sc.numOf p <;> cases sc.unquoteL k.data.toList <;> cases sc.unquoteL x.data.toList <;> cases sc.numOf z <;> rfl) (fun s hs => by
  have hm0 := HM0.out
  have hm1 := HM1.out
  have hm2 := HM2.out
  have hm3 := HM3.out
  have hm4 := HM4.out
  simp only [hd0, List.headD_cons] at hm0 hm1 hm2 hm3 hm4
  unfold askScan at hs
  simp only [Option.map_eq_some_iff, Option.bind_eq_some_iff] at hs
  obtain ⟨ev', ⟨n0, h0, x1, h1, x2, h2, x3, h3, x4, h4, x5, h5, x6, h6, he⟩, rfl⟩ := hs
  rw [← HEV.out, hm0 _ h0, hm1 _ h1, hm2 _ h2, hm3 _ h3, hm4 _ h4, HMV.out _ h5, HML.out _ h6, Option.some.inj he])
 simpa only [List.length_append, List.length_cons, List.length_nil, Nat.zero_add] using e
def askGet (kind : Int) (a c d p k : ByteArray) : Option S52 := (sc.numOf a).bind fun n => (sc.numOf c).bind fun l => (sc.numOf d).bind fun m => (sc.numOf p).bind fun pl => (sc.unquoteL k.data.toList).bind fun kk => some (askEv n kind l m pl ⟨kk.toArray⟩ ⟨#[]⟩ [] 0)
theorem ask1_get92 (W w0 w : World) (cb rb sb : Nat) (vl v0 v1 v2 v3 : Value) (lines : List ByteArray) (l0 : List Int) (l1 : List S70) (l2 : List Int) (l3 : List S52) (kb qb : Nat) (kind : Int) (hkd : kind ≠ 1) (a b c d p k : ByteArray) (h : Ctx W w0 w cb rb sb [a, b, c, d, p, k] false vl v0 v1 v2 v3 lines l0 l1 l2 l3) (hs : ∀ y ∈ [a, b, c, d, p, k], y.size ≤ 65536) (hl : l3.length ≤ 100000)
 (hk : w.heap[kb]? = some (.cells #[.int .i64 kind] 3 (0, 0))) (hq : w.heap[qb]? = some (.cells #[.func (.func 92) #[] #[]] 159 (0, 0))) :
 Calls Tryz.prog 114 #[.pointer (some ⟨rb, 0, none⟩), .pointer (some ⟨kb, 0, none⟩), .pointer (some ⟨qb, 0, none⟩), .pointer (some ⟨cb, 0, none⟩)] w fun e w' => e = .returned (.tuple #[]) ∧ LineOut W w' rb sb vl lines ((askGet kind a c d p k).map fun x => (l0, l1, l2, l3 ++ [x])) := by
 obtain ⟨A_, c_, hrb⟩ := h.rbk
 have HRL := am_ (blk_lt hrb)
 have HKR := am_ (blk_ne hk hrb (by decide))
 have HQR := am_ (blk_ne hq hrb (by decide))
 have H0L := am_ h.b0.size
 have HT0 := am_ (show Trk w0 w w rb [a, b, c, d, p, k] false from ⟨h.rd, h.b0, KeepBut.refl w rb none⟩)
 have HX0 := am_ h
 have HSA := am_ hs
 have HL := am_ hl
 have HK := am_ hk
 have HQ := am_ hq
 clear h hs hl hk hq hrb
 go_enter Tryz.func114, Tryz.ntmps114
 go_wp2_with fail
 generalize hws : [a, b, c, d, p, k] = ws at HT0
 have HS0 := am_ (show ∀ y ∈ ws, y.size ≤ 65536 from hws ▸ HSA.out)
 refine start_ (n := 7) (S := fun w' => w'.cell? ⟨kb, 0, none⟩ = some (.int .i64 kind)) (ds := [6]) (bs_ 7 0) (by kernel_rfl) rfl rfl ((blk_cell (Trk.box HT0.out HK.out HKR.out) 0).trans rfl) (fun hHeld => ?_)
 replace HT0 := am_ (HT0.out.below (b3_ (Below.refl _ _))); generalize w.drew = w5 at HT0 hHeld ⊢
 refine pA_ 0 6 (bs_ 7 1) ?_
 refine tA_ hHeld 2 8 (bs_ 7 5) ?_
 refine pA_ 3 9 (bs_ 7 13) ?_
 refine join_ (σ := Int × Nat) 1 #[true, true, true, true, true, true, false] (fun s => [(7, .int .i64 s.1), (10, .agg #[.int .i64 1, .int .i64 s.1, .int .i64 kind, .int .i64 0, .int .i64 0, .int .i64 0, .string ⟨#[]⟩, .string ⟨#[]⟩, .slice none 0 0, .int .i64 0, .int .i64 0, .slice none 0 0]), (5, .pointer (some ⟨s.2, 0, none⟩))]) (fun s w' => Ask w0 w w' rb s.2 ws.tail (false || ws.isEmpty || !(sc.numOf (hd0 ws)).isSome) Z52 ∧ ∀ m, sc.numOf (hd0 ws) = some m → s.1 = m) ?_ ?_
 rotate_left
 · intro hCont
   refine two_ (i := 1) (j := 5) (Ni := some 7) (Nj := some 5) #[true, true, true, true, false, false, false] #[true, false, true, true, false, true, false] rfl rfl rfl rfl (by kernel_rfl) (by decide) (by decide) (fun K hK => ?_) (fun K hK => ?_)
   · skip
     refine gA_ Tryz.func88 #[.pointer (some ⟨rb, 0, none⟩)] ?_
     with_reducible refine (number_calls rb ws _ w0 _ HT0.out.rd HT0.out.b0 HX0.out.env HS0.out).mono ?_
     rintro e w1 ⟨n, rfl, hn, hm, hI, hB, hk⟩
     refine ⟨_, rfl, ?_⟩
     have HT1 := am_ (HT0.out.call hI hB hk)
     refine hK.out _ _ ((blk_cell (Trk.box HT1.out HK.out HKR.out) 0).trans rfl) (fun hHeld => ?_)
     clear hK K
     refine nA_ ?_
     refine pA_ 4 10 (bs_ 7 31) ?_
     refine oA_ 5 5 (bs_ 7 63) (fun K hK => ?_)
     refine vA_ ?_
     refine hK.out _ _ (wld.cellA ((blk_cell (Trk.box HT1.out HK.out HKR.out) 0).trans rfl) _) (fun hHeld => ?_)
     clear hK K
     refine nA_ ?_
     exact norm_ (by simp only [putAll, Act.put, List.setIfInBounds_toArray, List.set_cons_zero, List.set_cons_succ]) (hCont (n, w1.heap.size) _ ⟨⟨HT1.out.alloc _, HRL.out, H0L.out, HT1.out.kp.1, wld.alloc_same _ _⟩, hm⟩)
   skip
   refine vA_ ?_
   refine hK.out _ _ (wld.cellA ((blk_cell (Trk.box HT0.out HK.out HKR.out) 0).trans rfl) _) (fun hHeld => ?_)
   clear hK K
   refine nA_ ?_
   refine oA_ 1 7 (bs_ 7 47) (fun K hK => ?_)
   refine gA_ Tryz.func88 #[.pointer (some ⟨rb, 0, none⟩)] ?_
   with_reducible refine (number_calls rb ws _ w0 _ (HT0.out.alloc _).rd (HT0.out.alloc _).b0 HX0.out.env HS0.out).mono ?_
   rintro e w1 ⟨n, rfl, hn, hm, hI, hB, hk⟩
   refine ⟨_, rfl, ?_⟩
   have HT1 := am_ ((HT0.out.alloc _).call hI hB hk)
   have HG1 := am_ ((hk.2 w5.heap.size (blk_lt (wld.alloc_same w5 _)) (by have := HT0.out.kp.1; have := HRL.out; omega) (by simp)).trans (wld.alloc_same w5 (.cells Z52 52)))
   refine hK.out _ _ ((blk_cell (Trk.box HT1.out HK.out HKR.out) 0).trans rfl) (fun hHeld => ?_)
   clear hK K
   refine nA_ ?_
   refine pA_ 4 10 (bs_ 7 63) ?_
   exact norm_ (by simp only [putAll, Act.put, List.setIfInBounds_toArray, List.set_cons_zero, List.set_cons_succ]) (hCont (n, w5.heap.size) _ ⟨⟨HT1.out, HRL.out, H0L.out, HT0.out.kp.1, HG1.out⟩, hm⟩)
 rintro ⟨n, g⟩ w2 ⟨hA, hm⟩
 have hHeld : w2.cell? ⟨kb, 0, none⟩ = some (.int .i64 kind) := (blk_cell (Trk.box hA.tr HK.out HKR.out) 0).trans rfl
 refine norm_ (a' := ?_) ?_ ?_
 rotate_left
 · simp only [putAll, Act.put, List.setIfInBounds_toArray, List.set_cons_zero, List.set_cons_succ]
   rfl
 refine last_ (i := 6) (N := none) (bs_ 7 127) rfl rfl (by kernel_rfl) (by decide) (fun K hK => ?_)
 refine store_all_ [.int .i64 1, .int .i64 n, .int .i64 kind, .int .i64 0, .int .i64 0, .int .i64 0, .string ⟨#[]⟩, .string ⟨#[]⟩, .slice none 0 0, .int .i64 0, .int .i64 0, .slice none 0 0] (u := .agg #[.int .i64 1, .int .i64 n, .int .i64 kind, .int .i64 0, .int .i64 0, .int .i64 0, .string ⟨#[]⟩, .string ⟨#[]⟩, .slice none 0 0, .int .i64 0, .int .i64 0, .slice none 0 0]) (by rfl) rfl rfl rfl rfl hA.blk rfl size52 (by simp) (by intro q hq; simp at hq; rcases hq with rfl | rfl | rfl | rfl | rfl | rfl | rfl | rfl | rfl | rfl | rfl | rfl <;> rfl) ?_
 refine hK.out _ _ ?_
 clear hK K
 refine done_ (by kernel_rfl) ?_
 subst hws
 have HA := am_ (hA.setN (cells' := C52 1 n kind 0 0 0 ⟨#[]⟩ ⟨#[]⟩ (.slice none 0 0) 0) [.int .i64 1, .int .i64 n, .int .i64 kind, .int .i64 0, .int .i64 0, .int .i64 0, .string ⟨#[]⟩, .string ⟨#[]⟩, .slice none 0 0, .int .i64 0, .int .i64 0, .slice none 0 0] 0 (by simp) rfl)
 have HM0 := am_ hm
 clear hA hm hHeld
 generalize w2.setCells g 0 [.int .i64 1, .int .i64 n, .int .i64 kind, .int .i64 0, .int .i64 0, .int .i64 0, .string ⟨#[]⟩, .string ⟨#[]⟩, .slice none 0 0, .int .i64 0, .int .i64 0, .slice none 0 0] = w3 at HA ⊢
 go_wp2_with fail
 refine (script_reader_next.calls rb _ _ _ _ _ w0 _ HA.out.tr.rd HA.out.tr.b0 (next_f _ _)).mono ?_
 rintro e w4 ⟨rfl, hI, hB, hk⟩
 have HA4 := am_ (HA.out.call hI hB hk)
 have hck := show w4.cell? ⟨kb, 0, none⟩ = some (.int .i64 kind) from (blk_cell (Trk.box HA4.out.tr HK.out HKR.out) 0).trans rfl
 clear hI hB hk HA
 have hkb : (kind == 1) = false := by simpa using hkd
 go_wp2_with fail
 refine (number_calls rb [c, d, p, k] _ w0 _ HA4.out.tr.rd HA4.out.tr.b0 HX0.out.env (by have := HSA.out; simp at this ⊢; simp [this])).mono ?_
 rintro e w5 ⟨m1, rfl, hn, hm, hI, hB, hk⟩
 have HA5 := am_ (HA4.out.call hI hB hk)
 have HM1 := am_ hm
 clear hn hm hI hB hk
 go_wp2_with fail
 refine (number_calls rb [d, p, k] _ w0 _ HA5.out.tr.rd HA5.out.tr.b0 HX0.out.env (by have := HSA.out; simp at this ⊢; simp [this])).mono ?_
 rintro e w6 ⟨m2, rfl, hn, hm, hI, hB, hk⟩
 have HA6 := am_ (HA5.out.call hI hB hk)
 have HM2 := am_ hm
 clear hn hm hI hB hk
 have hc3 := (blk_cell HA6.out.blk 3).trans rfl
 have hf3 := blk_frozen HA6.out.blk 3
 have hc4 := (blk_cell HA6.out.blk 4).trans rfl
 have hf4 := blk_frozen HA6.out.blk 4
 have HA7 := am_ ((HA6.out.put 3 (.int .i64 m1) (cells' := C52 1 n kind m1 0 0 ⟨#[]⟩ ⟨#[]⟩ (.slice none 0 0) 0) rfl).put 4 (.int .i64 m2) (cells' := C52 1 n kind m1 m2 0 ⟨#[]⟩ ⟨#[]⟩ (.slice none 0 0) 0) rfl)
 have hck := show ((w6.setCell ⟨g, 3, none⟩ (.int .i64 m1)).setCell ⟨g, 4, none⟩ (.int .i64 m2)).cell? ⟨kb, 0, none⟩ = some (.int .i64 kind) from (blk_cell (Trk.box HA7.out.tr HK.out HKR.out) 0).trans rfl
 have hcq := show ((w6.setCell ⟨g, 3, none⟩ (.int .i64 m1)).setCell ⟨g, 4, none⟩ (.int .i64 m2)).cell? ⟨qb, 0, none⟩ = some (.func (.func 92) #[] #[]) from (blk_cell (Trk.box HA7.out.tr HQ.out HQR.out) 0).trans rfl
 have hrun := neq_func (.func 92) #[] #[] ((w6.setCell ⟨g, 3, none⟩ (.int .i64 m1)).setCell ⟨g, 4, none⟩ (.int .i64 m2))
 go_wp2_with fail
 clear hc3 hc4 hf3 hf4 hcq hck hrun hkb
 generalize (w6.setCell ⟨g, 3, none⟩ (.int .i64 m1)).setCell ⟨g, 4, none⟩ (.int .i64 m2) = w7 at HA7 ⊢
 refine (number_calls rb [p, k] _ w0 _ HA7.out.tr.rd HA7.out.tr.b0 HX0.out.env (by have := HSA.out; simp at this ⊢; simp [this])).mono ?_
 rintro e w8 ⟨pl, rfl, hn, hm, hI, hB, hk⟩
 have HA8 := am_ (HA7.out.call hI hB hk)
 have HM3 := am_ hm
 clear hn hm hI hB hk
 have hc5 := (blk_cell HA8.out.blk 5).trans rfl
 have hf5 := blk_frozen HA8.out.blk 5
 have HA9 := am_ (HA8.out.put 5 (.int .i64 pl) (cells' := C52 1 n kind m1 m2 pl ⟨#[]⟩ ⟨#[]⟩ (.slice none 0 0) 0) rfl)
 go_wp2_with fail
 clear hc5 hf5
 generalize w8.setCell ⟨g, 5, none⟩ (.int .i64 pl) = w9 at HA9 ⊢
 refine (quoted_calls rb [k] _ w0 _ HA9.out.tr.rd HA9.out.tr.b0 HX0.out.env (by have := HSA.out; simp at this ⊢; simp [this])).mono ?_
 rintro e w10 ⟨kt, rfl, hm, hz, hI, hB, hk⟩
 have HA10 := am_ (HA9.out.call hI hB hk)
 have HM4 := am_ hm
 clear hz hm hI hB hk
 have hc6 := (blk_cell HA10.out.blk 6).trans rfl
 have hf6 := blk_frozen HA10.out.blk 6
 have HA11 := am_ (HA10.out.put 6 (.string kt) (cells' := C52 1 n kind m1 m2 pl kt ⟨#[]⟩ (.slice none 0 0) 0) rfl)
 have hcq := show (w10.setCell ⟨g, 6, none⟩ (.string kt)).cell? ⟨qb, 0, none⟩ = some (.func (.func 92) #[] #[]) from (blk_cell (Trk.box HA11.out.tr HQ.out HQR.out) 0).trans rfl
 go_wp2_with fail
 clear hc6 hf6 hcq
 generalize w10.setCell ⟨g, 6, none⟩ (.string kt) = w11 at HA11 ⊢
 refine (rest_get 92 (by decide) HA11.out).mono ?_
 rintro e w12 ⟨rfl, rfl⟩
 have HAZ := HA11
 go_wp2_with fail
 have HT := am_ HAZ.out.tr
 have HG := am_ HAZ.out.blk
 have HGE := am_ HAZ.out.ge
 have HX := am_ (HX0.out.step HT.out.rd HT.out.b0 HT.out.kp)
 have HNE := am_ (show some g ≠ v3.ownBlock from fun e => by
  obtain ⟨cells, hc⟩ := HX0.out.rows.r3.typ _ e.symm
  have := blk_lt hc
  have := HGE.out
  omega)
 have HNV := am_ (show ∀ k_, v3.ownBlock = some k_ → ¬ w.heap.size ≤ k_ from fun k_ e => by
  obtain ⟨cells, hc⟩ := HX0.out.rows.r3.typ _ e
  exact Nat.not_le.2 (blk_lt hc))
 have HP := am_ (show k52o.M w12 W.heap.size (fun k_ => w.heap.size ≤ k_) (askEv n kind m1 m2 pl kt ⟨#[]⟩ [] 0, (none, 0)) [.int .i64 1, .int .i64 n, .int .i64 kind, .int .i64 m1, .int .i64 m2, .int .i64 pl, .string kt, .string ⟨#[]⟩, .slice none 0 0, .int .i64 0, .int .i64 0, .slice none 0 0] from k52o_mkM w12 W.heap.size (fun k_ => w.heap.size ≤ k_) (askEv n kind m1 m2 pl kt ⟨#[]⟩ [] 0, (none, 0)) (Kd.R_nil _ _ _ _ _))
 have HV := am_ (VR.nil w12 W.heap.size (askEv n kind m1 m2 pl kt ⟨#[]⟩ [] 0) rfl)
 obtain ⟨o3, ho3⟩ := HX.out.rows.r3
 have HO := am_ ho3
 clear ho3
 generalize hev : askEv n kind m1 m2 pl kt ⟨#[]⟩ [] 0 = ev at HP HV
 have HEV := am_ hev
 clear hev
 generalize hhd : ((none, 0) : Option Addr × Nat) = hdr at HP HV
 refine start_ (n := 11) (S := fun w' => w'.cell? ⟨cb, 0, none⟩ = some (.pointer (some ⟨sb, 0, none⟩)) ∧ w'.cell? ⟨sb, 3, none⟩ = some v3 ∧ w'.cell? ⟨g, 0, none⟩ = some (.int .i64 1) ∧ w'.cell? ⟨g, 1, none⟩ = some (.int .i64 n) ∧ w'.cell? ⟨g, 2, none⟩ = some (.int .i64 kind) ∧ w'.cell? ⟨g, 3, none⟩ = some (.int .i64 m1) ∧ w'.cell? ⟨g, 4, none⟩ = some (.int .i64 m2) ∧ w'.cell? ⟨g, 5, none⟩ = some (.int .i64 pl) ∧ w'.cell? ⟨g, 6, none⟩ = some (.string kt) ∧ w'.cell? ⟨g, 7, none⟩ = some (.string ⟨#[]⟩) ∧ w'.cell? ⟨g, 8, none⟩ = some (.slice none 0 0) ∧ w'.cell? ⟨g, 9, none⟩ = some (.int .i64 0) ∧ w'.cell? ⟨g, 10, none⟩ = some (.int .i64 0) ∧ w'.cell? ⟨g, 11, none⟩ = some (.slice none 0 0)) (ds := [10]) (bs_ 11 0) (by kernel_rfl) rfl rfl ⟨(blk_cell HX.out.cbk 0).trans rfl, (blk_cell HX.out.sbk 3).trans rfl, c12_ HG.out⟩ (fun hHeld => ?_)
 replace HX := am_ HX.out.drew; replace HG := am_ (d2_ HG.out); replace HP := am_ (Kd.M_below HP.out (b3_ (Below.refl _ _))); replace HO := am_ HO.out.drew; replace HV := am_ (HV.out.below (b3_ (Below.refl _ _))); generalize w12.drew = w6 at HX HG HP HO HV hHeld ⊢
 refine tA_ hHeld 0 36 (bs_ 11 1) ?_
 refine tA_ hHeld 1 37 (bs_ 11 3) ?_
 refine pA_ 2 38 (bs_ 11 7) ?_
 refine pA_ 3 39 (bs_ 11 15) ?_
 refine tA_ hHeld 4 40 (bs_ 11 31) ?_
 refine tA_ hHeld 5 41 (bs_ 11 63) ?_
 refine oA_ 6 42 (bs_ 11 127) (fun K hK => ?_)
 refine vA_ ?_
 refine hK.out _ _ ⟨wld.cellA ((blk_cell HX.out.cbk 0).trans rfl) _, wld.cellA ((blk_cell HX.out.sbk 3).trans rfl) _, c12a_ HG.out⟩ (fun hHeld => ?_)
 clear hK K
 refine nA_ ?_
 refine oA_ 7 43 (bs_ 11 255) (fun K hK => ?_)
 refine Kd.R_append_step k52o (w0 := W) W.heap.size (by rfl) (.tmp 40) (.tmp 42) 27 52 (.agg #[(.int .i64 0), (.int .i64 0), (.int .i64 0), (.int .i64 0), (.int .i64 0), (.int .i64 0), (.string ⟨#[]⟩), (.string ⟨#[]⟩), (.slice none 0 0), (.int .i64 0), (.int .i64 0), (.slice none 0 0)]) 144 rfl Tryz.underlying27 info52 rfl (by decide) (by omega) v3 o3 (ev, hdr) [.int .i64 1, .int .i64 n, .int .i64 kind, .int .i64 m1, .int .i64 m2, .int .i64 pl, .string kt, .string ⟨#[]⟩, .slice none 0 0, .int .i64 0, .int .i64 0, .slice none 0 0] (fun _ => True) (fun k_ => w.heap.size ≤ k_) rfl rfl ?aP (fun k_ hk => ⟨trivial, fun e => HNV.out k_ e.symm hk⟩) ?aF ?aO ?aB ?aS ?aL ?_
 (case aP => exact HP.out)
 (case aF => exact (fun _ _ => trivial))
 (case aO => exact Kd.R_mono HO.out.r (fun k_ hk => trivial))
 (case aB => exact HX.out.bW)
 (case aS => exact HX.out.bW.size)
 (case aL => have := HL.out; have hm_ := congrArg List.length HO.out.m; rw [List.length_map] at hm_; omega)
 intro v9 w3 ho hb hg hat
 obtain ⟨A9, c9, rfl⟩ := Kd.R_slice ho
 have hfz := blk_frozen (grown_blk HX.out.sbk HX.out.rows.r3.typ (by decide) hg) 3
 refine hK.out _ _ ⟨(blk_cell (grown_blk HX.out.cbk HX.out.rows.r3.typ (by decide) hg) 0).trans rfl, (blk_cell (grown_blk HX.out.sbk HX.out.rows.r3.typ (by decide) hg) 3).trans rfl, c12_ (blk_grown HG.out hg HNE.out)⟩ (fun hHeld => ?_)
 clear hK K
 refine nA_ ?_
 refine pA_ 8 44 (bs_ 11 511) ?_
 refine pA_ 9 45 (bs_ 11 1023) ?_
 refine last_ (i := 10) (N := none) (bs_ 11 2047) rfl rfl (by kernel_rfl) (by decide) (fun K hK => ?_)
 refine skip_ (w1 := ?_) (by rfl) rfl ?_ ?_
 rotate_left
 · go_simp
   rfl
 refine hK.out _ _ ?_
 clear hK K
 refine done_ (by kernel_rfl) ?_
 go_end0
 refine ⟨rfl, ?_⟩
 have e := HX.out.out3 (o := (askGet kind a c d p k).map fun x => (l0, l1, l2, l3 ++ [x])) (HO.out.snoc hg ho HV.out) hg hb (by
  show (_ || _) = _
  simp only [hd0, List.headD_cons, List.isEmpty_cons, List.tail_cons]
  unfold askGet
  cases sc.numOf a <;> cases sc.numOf c <;> cases sc.numOf d <;> cases sc.numOf p <;> cases sc.unquoteL k.data.toList <;> rfl) (fun s hs => by
  have hm0 := HM0.out
  have hm1 := HM1.out
  have hm2 := HM2.out
  have hm3 := HM3.out
  have hm4 := HM4.out
  simp only [hd0, List.headD_cons] at hm0 hm1 hm2 hm3 hm4
  unfold askGet at hs
  simp only [Option.map_eq_some_iff, Option.bind_eq_some_iff] at hs
  obtain ⟨ev', ⟨n0, h0, x1, h1, x2, h2, x3, h3, x4, h4, he⟩, rfl⟩ := hs
  rw [← HEV.out, hm0 _ h0, hm1 _ h1, hm2 _ h2, hm3 _ h3, hm4 _ h4, Option.some.inj he])
 simpa only [List.length_append, List.length_cons, List.length_nil, Nat.zero_add] using e
theorem ask1_get96 (W w0 w : World) (cb rb sb : Nat) (vl v0 v1 v2 v3 : Value) (lines : List ByteArray) (l0 : List Int) (l1 : List S70) (l2 : List Int) (l3 : List S52) (kb qb : Nat) (kind : Int) (hkd : kind ≠ 1) (a b c d p k : ByteArray) (h : Ctx W w0 w cb rb sb [a, b, c, d, p, k] false vl v0 v1 v2 v3 lines l0 l1 l2 l3) (hs : ∀ y ∈ [a, b, c, d, p, k], y.size ≤ 65536) (hl : l3.length ≤ 100000)
 (hk : w.heap[kb]? = some (.cells #[.int .i64 kind] 3 (0, 0))) (hq : w.heap[qb]? = some (.cells #[.func (.func 96) #[] #[]] 159 (0, 0))) :
 Calls Tryz.prog 114 #[.pointer (some ⟨rb, 0, none⟩), .pointer (some ⟨kb, 0, none⟩), .pointer (some ⟨qb, 0, none⟩), .pointer (some ⟨cb, 0, none⟩)] w fun e w' => e = .returned (.tuple #[]) ∧ LineOut W w' rb sb vl lines ((askGet kind a c d p k).map fun x => (l0, l1, l2, l3 ++ [x])) := by
 obtain ⟨A_, c_, hrb⟩ := h.rbk
 have HRL := am_ (blk_lt hrb)
 have HKR := am_ (blk_ne hk hrb (by decide))
 have HQR := am_ (blk_ne hq hrb (by decide))
 have H0L := am_ h.b0.size
 have HT0 := am_ (show Trk w0 w w rb [a, b, c, d, p, k] false from ⟨h.rd, h.b0, KeepBut.refl w rb none⟩)
 have HX0 := am_ h
 have HSA := am_ hs
 have HL := am_ hl
 have HK := am_ hk
 have HQ := am_ hq
 clear h hs hl hk hq hrb
 go_enter Tryz.func114, Tryz.ntmps114
 go_wp2_with fail
 generalize hws : [a, b, c, d, p, k] = ws at HT0
 have HS0 := am_ (show ∀ y ∈ ws, y.size ≤ 65536 from hws ▸ HSA.out)
 refine start_ (n := 7) (S := fun w' => w'.cell? ⟨kb, 0, none⟩ = some (.int .i64 kind)) (ds := [6]) (bs_ 7 0) (by kernel_rfl) rfl rfl ((blk_cell (Trk.box HT0.out HK.out HKR.out) 0).trans rfl) (fun hHeld => ?_)
 replace HT0 := am_ (HT0.out.below (b3_ (Below.refl _ _))); generalize w.drew = w5 at HT0 hHeld ⊢
 refine pA_ 0 6 (bs_ 7 1) ?_
 refine tA_ hHeld 2 8 (bs_ 7 5) ?_
 refine pA_ 3 9 (bs_ 7 13) ?_
 refine join_ (σ := Int × Nat) 1 #[true, true, true, true, true, true, false] (fun s => [(7, .int .i64 s.1), (10, .agg #[.int .i64 1, .int .i64 s.1, .int .i64 kind, .int .i64 0, .int .i64 0, .int .i64 0, .string ⟨#[]⟩, .string ⟨#[]⟩, .slice none 0 0, .int .i64 0, .int .i64 0, .slice none 0 0]), (5, .pointer (some ⟨s.2, 0, none⟩))]) (fun s w' => Ask w0 w w' rb s.2 ws.tail (false || ws.isEmpty || !(sc.numOf (hd0 ws)).isSome) Z52 ∧ ∀ m, sc.numOf (hd0 ws) = some m → s.1 = m) ?_ ?_
 rotate_left
 · intro hCont
   refine two_ (i := 1) (j := 5) (Ni := some 7) (Nj := some 5) #[true, true, true, true, false, false, false] #[true, false, true, true, false, true, false] rfl rfl rfl rfl (by kernel_rfl) (by decide) (by decide) (fun K hK => ?_) (fun K hK => ?_)
   · skip
     refine gA_ Tryz.func88 #[.pointer (some ⟨rb, 0, none⟩)] ?_
     with_reducible refine (number_calls rb ws _ w0 _ HT0.out.rd HT0.out.b0 HX0.out.env HS0.out).mono ?_
     rintro e w1 ⟨n, rfl, hn, hm, hI, hB, hk⟩
     refine ⟨_, rfl, ?_⟩
     have HT1 := am_ (HT0.out.call hI hB hk)
     refine hK.out _ _ ((blk_cell (Trk.box HT1.out HK.out HKR.out) 0).trans rfl) (fun hHeld => ?_)
     clear hK K
     refine nA_ ?_
     refine pA_ 4 10 (bs_ 7 31) ?_
     refine oA_ 5 5 (bs_ 7 63) (fun K hK => ?_)
     refine vA_ ?_
     refine hK.out _ _ (wld.cellA ((blk_cell (Trk.box HT1.out HK.out HKR.out) 0).trans rfl) _) (fun hHeld => ?_)
     clear hK K
     refine nA_ ?_
     exact norm_ (by simp only [putAll, Act.put, List.setIfInBounds_toArray, List.set_cons_zero, List.set_cons_succ]) (hCont (n, w1.heap.size) _ ⟨⟨HT1.out.alloc _, HRL.out, H0L.out, HT1.out.kp.1, wld.alloc_same _ _⟩, hm⟩)
   skip
   refine vA_ ?_
   refine hK.out _ _ (wld.cellA ((blk_cell (Trk.box HT0.out HK.out HKR.out) 0).trans rfl) _) (fun hHeld => ?_)
   clear hK K
   refine nA_ ?_
   refine oA_ 1 7 (bs_ 7 47) (fun K hK => ?_)
   refine gA_ Tryz.func88 #[.pointer (some ⟨rb, 0, none⟩)] ?_
   with_reducible refine (number_calls rb ws _ w0 _ (HT0.out.alloc _).rd (HT0.out.alloc _).b0 HX0.out.env HS0.out).mono ?_
   rintro e w1 ⟨n, rfl, hn, hm, hI, hB, hk⟩
   refine ⟨_, rfl, ?_⟩
   have HT1 := am_ ((HT0.out.alloc _).call hI hB hk)
   have HG1 := am_ ((hk.2 w5.heap.size (blk_lt (wld.alloc_same w5 _)) (by have := HT0.out.kp.1; have := HRL.out; omega) (by simp)).trans (wld.alloc_same w5 (.cells Z52 52)))
   refine hK.out _ _ ((blk_cell (Trk.box HT1.out HK.out HKR.out) 0).trans rfl) (fun hHeld => ?_)
   clear hK K
   refine nA_ ?_
   refine pA_ 4 10 (bs_ 7 63) ?_
   exact norm_ (by simp only [putAll, Act.put, List.setIfInBounds_toArray, List.set_cons_zero, List.set_cons_succ]) (hCont (n, w5.heap.size) _ ⟨⟨HT1.out, HRL.out, H0L.out, HT0.out.kp.1, HG1.out⟩, hm⟩)
 rintro ⟨n, g⟩ w2 ⟨hA, hm⟩
 have hHeld : w2.cell? ⟨kb, 0, none⟩ = some (.int .i64 kind) := (blk_cell (Trk.box hA.tr HK.out HKR.out) 0).trans rfl
 refine norm_ (a' := ?_) ?_ ?_
 rotate_left
 · simp only [putAll, Act.put, List.setIfInBounds_toArray, List.set_cons_zero, List.set_cons_succ]
   rfl
 refine last_ (i := 6) (N := none) (bs_ 7 127) rfl rfl (by kernel_rfl) (by decide) (fun K hK => ?_)
 refine store_all_ [.int .i64 1, .int .i64 n, .int .i64 kind, .int .i64 0, .int .i64 0, .int .i64 0, .string ⟨#[]⟩, .string ⟨#[]⟩, .slice none 0 0, .int .i64 0, .int .i64 0, .slice none 0 0] (u := .agg #[.int .i64 1, .int .i64 n, .int .i64 kind, .int .i64 0, .int .i64 0, .int .i64 0, .string ⟨#[]⟩, .string ⟨#[]⟩, .slice none 0 0, .int .i64 0, .int .i64 0, .slice none 0 0]) (by rfl) rfl rfl rfl rfl hA.blk rfl size52 (by simp) (by intro q hq; simp at hq; rcases hq with rfl | rfl | rfl | rfl | rfl | rfl | rfl | rfl | rfl | rfl | rfl | rfl <;> rfl) ?_
 refine hK.out _ _ ?_
 clear hK K
 refine done_ (by kernel_rfl) ?_
 subst hws
 have HA := am_ (hA.setN (cells' := C52 1 n kind 0 0 0 ⟨#[]⟩ ⟨#[]⟩ (.slice none 0 0) 0) [.int .i64 1, .int .i64 n, .int .i64 kind, .int .i64 0, .int .i64 0, .int .i64 0, .string ⟨#[]⟩, .string ⟨#[]⟩, .slice none 0 0, .int .i64 0, .int .i64 0, .slice none 0 0] 0 (by simp) rfl)
 have HM0 := am_ hm
 clear hA hm hHeld
 generalize w2.setCells g 0 [.int .i64 1, .int .i64 n, .int .i64 kind, .int .i64 0, .int .i64 0, .int .i64 0, .string ⟨#[]⟩, .string ⟨#[]⟩, .slice none 0 0, .int .i64 0, .int .i64 0, .slice none 0 0] = w3 at HA ⊢
 go_wp2_with fail
 refine (script_reader_next.calls rb _ _ _ _ _ w0 _ HA.out.tr.rd HA.out.tr.b0 (next_f _ _)).mono ?_
 rintro e w4 ⟨rfl, hI, hB, hk⟩
 have HA4 := am_ (HA.out.call hI hB hk)
 have hck := show w4.cell? ⟨kb, 0, none⟩ = some (.int .i64 kind) from (blk_cell (Trk.box HA4.out.tr HK.out HKR.out) 0).trans rfl
 clear hI hB hk HA
 have hkb : (kind == 1) = false := by simpa using hkd
 go_wp2_with fail
 refine (number_calls rb [c, d, p, k] _ w0 _ HA4.out.tr.rd HA4.out.tr.b0 HX0.out.env (by have := HSA.out; simp at this ⊢; simp [this])).mono ?_
 rintro e w5 ⟨m1, rfl, hn, hm, hI, hB, hk⟩
 have HA5 := am_ (HA4.out.call hI hB hk)
 have HM1 := am_ hm
 clear hn hm hI hB hk
 go_wp2_with fail
 refine (number_calls rb [d, p, k] _ w0 _ HA5.out.tr.rd HA5.out.tr.b0 HX0.out.env (by have := HSA.out; simp at this ⊢; simp [this])).mono ?_
 rintro e w6 ⟨m2, rfl, hn, hm, hI, hB, hk⟩
 have HA6 := am_ (HA5.out.call hI hB hk)
 have HM2 := am_ hm
 clear hn hm hI hB hk
 have hc3 := (blk_cell HA6.out.blk 3).trans rfl
 have hf3 := blk_frozen HA6.out.blk 3
 have hc4 := (blk_cell HA6.out.blk 4).trans rfl
 have hf4 := blk_frozen HA6.out.blk 4
 have HA7 := am_ ((HA6.out.put 3 (.int .i64 m1) (cells' := C52 1 n kind m1 0 0 ⟨#[]⟩ ⟨#[]⟩ (.slice none 0 0) 0) rfl).put 4 (.int .i64 m2) (cells' := C52 1 n kind m1 m2 0 ⟨#[]⟩ ⟨#[]⟩ (.slice none 0 0) 0) rfl)
 have hck := show ((w6.setCell ⟨g, 3, none⟩ (.int .i64 m1)).setCell ⟨g, 4, none⟩ (.int .i64 m2)).cell? ⟨kb, 0, none⟩ = some (.int .i64 kind) from (blk_cell (Trk.box HA7.out.tr HK.out HKR.out) 0).trans rfl
 have hcq := show ((w6.setCell ⟨g, 3, none⟩ (.int .i64 m1)).setCell ⟨g, 4, none⟩ (.int .i64 m2)).cell? ⟨qb, 0, none⟩ = some (.func (.func 96) #[] #[]) from (blk_cell (Trk.box HA7.out.tr HQ.out HQR.out) 0).trans rfl
 have hrun := neq_func (.func 96) #[] #[] ((w6.setCell ⟨g, 3, none⟩ (.int .i64 m1)).setCell ⟨g, 4, none⟩ (.int .i64 m2))
 go_wp2_with fail
 clear hc3 hc4 hf3 hf4 hcq hck hrun hkb
 generalize (w6.setCell ⟨g, 3, none⟩ (.int .i64 m1)).setCell ⟨g, 4, none⟩ (.int .i64 m2) = w7 at HA7 ⊢
 refine (number_calls rb [p, k] _ w0 _ HA7.out.tr.rd HA7.out.tr.b0 HX0.out.env (by have := HSA.out; simp at this ⊢; simp [this])).mono ?_
 rintro e w8 ⟨pl, rfl, hn, hm, hI, hB, hk⟩
 have HA8 := am_ (HA7.out.call hI hB hk)
 have HM3 := am_ hm
 clear hn hm hI hB hk
 have hc5 := (blk_cell HA8.out.blk 5).trans rfl
 have hf5 := blk_frozen HA8.out.blk 5
 have HA9 := am_ (HA8.out.put 5 (.int .i64 pl) (cells' := C52 1 n kind m1 m2 pl ⟨#[]⟩ ⟨#[]⟩ (.slice none 0 0) 0) rfl)
 go_wp2_with fail
 clear hc5 hf5
 generalize w8.setCell ⟨g, 5, none⟩ (.int .i64 pl) = w9 at HA9 ⊢
 refine (quoted_calls rb [k] _ w0 _ HA9.out.tr.rd HA9.out.tr.b0 HX0.out.env (by have := HSA.out; simp at this ⊢; simp [this])).mono ?_
 rintro e w10 ⟨kt, rfl, hm, hz, hI, hB, hk⟩
 have HA10 := am_ (HA9.out.call hI hB hk)
 have HM4 := am_ hm
 clear hz hm hI hB hk
 have hc6 := (blk_cell HA10.out.blk 6).trans rfl
 have hf6 := blk_frozen HA10.out.blk 6
 have HA11 := am_ (HA10.out.put 6 (.string kt) (cells' := C52 1 n kind m1 m2 pl kt ⟨#[]⟩ (.slice none 0 0) 0) rfl)
 have hcq := show (w10.setCell ⟨g, 6, none⟩ (.string kt)).cell? ⟨qb, 0, none⟩ = some (.func (.func 96) #[] #[]) from (blk_cell (Trk.box HA11.out.tr HQ.out HQR.out) 0).trans rfl
 go_wp2_with fail
 clear hc6 hf6 hcq
 generalize w10.setCell ⟨g, 6, none⟩ (.string kt) = w11 at HA11 ⊢
 refine (rest_get 96 (by decide) HA11.out).mono ?_
 rintro e w12 ⟨rfl, rfl⟩
 have HAZ := HA11
 go_wp2_with fail
 have HT := am_ HAZ.out.tr
 have HG := am_ HAZ.out.blk
 have HGE := am_ HAZ.out.ge
 have HX := am_ (HX0.out.step HT.out.rd HT.out.b0 HT.out.kp)
 have HNE := am_ (show some g ≠ v3.ownBlock from fun e => by
  obtain ⟨cells, hc⟩ := HX0.out.rows.r3.typ _ e.symm
  have := blk_lt hc
  have := HGE.out
  omega)
 have HNV := am_ (show ∀ k_, v3.ownBlock = some k_ → ¬ w.heap.size ≤ k_ from fun k_ e => by
  obtain ⟨cells, hc⟩ := HX0.out.rows.r3.typ _ e
  exact Nat.not_le.2 (blk_lt hc))
 have HP := am_ (show k52o.M w12 W.heap.size (fun k_ => w.heap.size ≤ k_) (askEv n kind m1 m2 pl kt ⟨#[]⟩ [] 0, (none, 0)) [.int .i64 1, .int .i64 n, .int .i64 kind, .int .i64 m1, .int .i64 m2, .int .i64 pl, .string kt, .string ⟨#[]⟩, .slice none 0 0, .int .i64 0, .int .i64 0, .slice none 0 0] from k52o_mkM w12 W.heap.size (fun k_ => w.heap.size ≤ k_) (askEv n kind m1 m2 pl kt ⟨#[]⟩ [] 0, (none, 0)) (Kd.R_nil _ _ _ _ _))
 have HV := am_ (VR.nil w12 W.heap.size (askEv n kind m1 m2 pl kt ⟨#[]⟩ [] 0) rfl)
 obtain ⟨o3, ho3⟩ := HX.out.rows.r3
 have HO := am_ ho3
 clear ho3
 generalize hev : askEv n kind m1 m2 pl kt ⟨#[]⟩ [] 0 = ev at HP HV
 have HEV := am_ hev
 clear hev
 generalize hhd : ((none, 0) : Option Addr × Nat) = hdr at HP HV
 refine start_ (n := 11) (S := fun w' => w'.cell? ⟨cb, 0, none⟩ = some (.pointer (some ⟨sb, 0, none⟩)) ∧ w'.cell? ⟨sb, 3, none⟩ = some v3 ∧ w'.cell? ⟨g, 0, none⟩ = some (.int .i64 1) ∧ w'.cell? ⟨g, 1, none⟩ = some (.int .i64 n) ∧ w'.cell? ⟨g, 2, none⟩ = some (.int .i64 kind) ∧ w'.cell? ⟨g, 3, none⟩ = some (.int .i64 m1) ∧ w'.cell? ⟨g, 4, none⟩ = some (.int .i64 m2) ∧ w'.cell? ⟨g, 5, none⟩ = some (.int .i64 pl) ∧ w'.cell? ⟨g, 6, none⟩ = some (.string kt) ∧ w'.cell? ⟨g, 7, none⟩ = some (.string ⟨#[]⟩) ∧ w'.cell? ⟨g, 8, none⟩ = some (.slice none 0 0) ∧ w'.cell? ⟨g, 9, none⟩ = some (.int .i64 0) ∧ w'.cell? ⟨g, 10, none⟩ = some (.int .i64 0) ∧ w'.cell? ⟨g, 11, none⟩ = some (.slice none 0 0)) (ds := [10]) (bs_ 11 0) (by kernel_rfl) rfl rfl ⟨(blk_cell HX.out.cbk 0).trans rfl, (blk_cell HX.out.sbk 3).trans rfl, c12_ HG.out⟩ (fun hHeld => ?_)
 replace HX := am_ HX.out.drew; replace HG := am_ (d2_ HG.out); replace HP := am_ (Kd.M_below HP.out (b3_ (Below.refl _ _))); replace HO := am_ HO.out.drew; replace HV := am_ (HV.out.below (b3_ (Below.refl _ _))); generalize w12.drew = w6 at HX HG HP HO HV hHeld ⊢
 refine tA_ hHeld 0 36 (bs_ 11 1) ?_
 refine tA_ hHeld 1 37 (bs_ 11 3) ?_
 refine pA_ 2 38 (bs_ 11 7) ?_
 refine pA_ 3 39 (bs_ 11 15) ?_
 refine tA_ hHeld 4 40 (bs_ 11 31) ?_
 refine tA_ hHeld 5 41 (bs_ 11 63) ?_
 refine oA_ 6 42 (bs_ 11 127) (fun K hK => ?_)
 refine vA_ ?_
 refine hK.out _ _ ⟨wld.cellA ((blk_cell HX.out.cbk 0).trans rfl) _, wld.cellA ((blk_cell HX.out.sbk 3).trans rfl) _, c12a_ HG.out⟩ (fun hHeld => ?_)
 clear hK K
 refine nA_ ?_
 refine oA_ 7 43 (bs_ 11 255) (fun K hK => ?_)
 refine Kd.R_append_step k52o (w0 := W) W.heap.size (by rfl) (.tmp 40) (.tmp 42) 27 52 (.agg #[(.int .i64 0), (.int .i64 0), (.int .i64 0), (.int .i64 0), (.int .i64 0), (.int .i64 0), (.string ⟨#[]⟩), (.string ⟨#[]⟩), (.slice none 0 0), (.int .i64 0), (.int .i64 0), (.slice none 0 0)]) 144 rfl Tryz.underlying27 info52 rfl (by decide) (by omega) v3 o3 (ev, hdr) [.int .i64 1, .int .i64 n, .int .i64 kind, .int .i64 m1, .int .i64 m2, .int .i64 pl, .string kt, .string ⟨#[]⟩, .slice none 0 0, .int .i64 0, .int .i64 0, .slice none 0 0] (fun _ => True) (fun k_ => w.heap.size ≤ k_) rfl rfl ?aP (fun k_ hk => ⟨trivial, fun e => HNV.out k_ e.symm hk⟩) ?aF ?aO ?aB ?aS ?aL ?_
 (case aP => exact HP.out)
 (case aF => exact (fun _ _ => trivial))
 (case aO => exact Kd.R_mono HO.out.r (fun k_ hk => trivial))
 (case aB => exact HX.out.bW)
 (case aS => exact HX.out.bW.size)
 (case aL => have := HL.out; have hm_ := congrArg List.length HO.out.m; rw [List.length_map] at hm_; omega)
 intro v9 w3 ho hb hg hat
 obtain ⟨A9, c9, rfl⟩ := Kd.R_slice ho
 have hfz := blk_frozen (grown_blk HX.out.sbk HX.out.rows.r3.typ (by decide) hg) 3
 refine hK.out _ _ ⟨(blk_cell (grown_blk HX.out.cbk HX.out.rows.r3.typ (by decide) hg) 0).trans rfl, (blk_cell (grown_blk HX.out.sbk HX.out.rows.r3.typ (by decide) hg) 3).trans rfl, c12_ (blk_grown HG.out hg HNE.out)⟩ (fun hHeld => ?_)
 clear hK K
 refine nA_ ?_
 refine pA_ 8 44 (bs_ 11 511) ?_
 refine pA_ 9 45 (bs_ 11 1023) ?_
 refine last_ (i := 10) (N := none) (bs_ 11 2047) rfl rfl (by kernel_rfl) (by decide) (fun K hK => ?_)
 refine skip_ (w1 := ?_) (by rfl) rfl ?_ ?_
 rotate_left
 · go_simp
   rfl
 refine hK.out _ _ ?_
 clear hK K
 refine done_ (by kernel_rfl) ?_
 go_end0
 refine ⟨rfl, ?_⟩
 have e := HX.out.out3 (o := (askGet kind a c d p k).map fun x => (l0, l1, l2, l3 ++ [x])) (HO.out.snoc hg ho HV.out) hg hb (by
  show (_ || _) = _
  simp only [hd0, List.headD_cons, List.isEmpty_cons, List.tail_cons]
  unfold askGet
  cases sc.numOf a <;> cases sc.numOf c <;> cases sc.numOf d <;> cases sc.numOf p <;> cases sc.unquoteL k.data.toList <;> rfl) (fun s hs => by
  have hm0 := HM0.out
  have hm1 := HM1.out
  have hm2 := HM2.out
  have hm3 := HM3.out
  have hm4 := HM4.out
  simp only [hd0, List.headD_cons] at hm0 hm1 hm2 hm3 hm4
  unfold askGet at hs
  simp only [Option.map_eq_some_iff, Option.bind_eq_some_iff] at hs
  obtain ⟨ev', ⟨n0, h0, x1, h1, x2, h2, x3, h3, x4, h4, he⟩, rfl⟩ := hs
  rw [← HEV.out, hm0 _ h0, hm1 _ h1, hm2 _ h2, hm3 _ h3, hm4 _ h4, Option.some.inj he])
 simpa only [List.length_append, List.length_cons, List.length_nil, Nat.zero_add] using e
end Go.Proofs.YtndbbgihpoiojaaGreatDoor.Q
namespace Go.Proofs.YtndbbgihpoiojaaGreatDoor.smap
open Go.RowKit Go.ChangeMaps Go.MapKept
open Go.Maps (Keyed string_keyed)
open Go.WideMaps (keyOf_string_mk)
def StrMap (w : World) (b : Nat) (f : ByteArray → Option Value) (n : Nat) : Prop :=
 ∃ es clock, w.heap[b]? = some (.map es clock) ∧ es.size = n ∧ (∀ e ∈ es.toList, ∃ a, e.key = .string a ∧ a.size ≤ maxLen ∧ f a = some e.val) ∧
  (∀ a v, f a = some v → ∃ e ∈ es.toList, e.key = .string a) ∧ es.toList.Pairwise (fun x y => x.key ≠ y.key)
theorem StrMap.lt {w : World} {b : Nat} {f : ByteArray → Option Value} {n : Nat} (h : StrMap w b f n) : b < w.heap.size := by
 obtain ⟨es, clock, hb, _⟩ := h
 exact (Array.getElem?_eq_some_iff.1 hb).1
theorem StrMap.of_block {w w' : World} {b : Nat} {f : ByteArray → Option Value} {n : Nat} (h : StrMap w b f n) (hb : w'.heap[b]? = w.heap[b]?) : StrMap w' b f n := by
 obtain ⟨es, clock, h1, r⟩ := h
 exact ⟨es, clock, hb.trans h1, r⟩
theorem StrMap.made (w : World) : StrMap (w.alloc (.map #[] 0)) w.heap.size (fun _ => none) 0 :=
 ⟨#[], 0, (MapKept.heap_alloc w _).1, rfl, by simp, by simp, by simp⟩
theorem found {P : Program} {k : TypeId} (K : Keyed P k) (hk : P.underlying k = some .string) (w : World) {es : Array MapEntry} {f : ByteArray → Option Value} (h1 : ∀ e ∈ es.toList, ∃ a, e.key = .string a ∧ a.size ≤ maxLen ∧ f a = some e.val)
 (h2 : ∀ a v, f a = some v → ∃ e ∈ es.toList, e.key = .string a) {a : ByteArray} (ha : a.size ≤ maxLen) :
 ((Instr.findKey k (.string a) es.toList).run P w = .ok none w ∧ f a = none ∧ ∀ e ∈ es.toList, e.key ≠ .string a) ∨
 ∃ j e, (Instr.findKey k (.string a) es.toList).run P w = .ok (some (j, e.val)) w ∧ es.toList[j]? = some e ∧ e.key = .string a ∧ f a = some e.val := by
 have hkeys : ∀ e ∈ es.toList, ∃ l, keyOf P k e.key = some l := fun e he => by
  obtain ⟨a, ha, hw, _⟩ := h1 e he
  exact ⟨_, by rw [ha]; exact keyOf_string_mk hk hw⟩
 rcases K.find w (keyOf_string_mk hk ha) es.toList hkeys with ⟨r1, r2⟩ | ⟨j, e, r1, r2, r3⟩
 · refine .inl ⟨r1, ?_, r2⟩
   cases hf : f a with
   | none => rfl
   | some v =>
    obtain ⟨e, he, hke⟩ := h2 a v hf
    exact absurd hke (r2 e he)
 refine .inr ⟨j, e, r1, r2, r3, ?_⟩
 obtain ⟨a', ha', _, hf⟩ := h1 e (List.mem_of_getElem? r2)
 rw [r3] at ha'
 cases ha'
 exact hf
section
variable {P : Program} {k t e : TypeId} {w : World} {b n : Nat} {f : ByteArray → Option Value}
theorem StrMap.look (h : StrMap w b f n) (hk : P.underlying k = some .string) (ht : P.underlying t = some (.map k e)) {z : Value} (hz : (zeroValue e).run P w = .ok z w) {a : ByteArray} (ha : a.size ≤ maxLen) :
 (Instr.lookup t (.map (some b)) (.string a) true).run P w = .ok (.tuple #[(f a).getD z, .bool (f a).isSome]) w := by
 obtain ⟨es, clock, hb, hs, h1, h2, h3⟩ := h
 have K := string_keyed hk
 rcases found K hk w h1 h2 ha with ⟨r1, r2, _⟩ | ⟨j, e0, r1, r2, r3, r4⟩
 · simp [Instr.lookup, run_underlying ht, MapKept.run_getObj_map hb, K.check w _ (keyOf_string_mk hk ha), r1, hz, Result.andThen, r2]
 simp [Instr.lookup, run_underlying ht, MapKept.run_getObj_map hb, K.check w _ (keyOf_string_mk hk ha), r1, Result.andThen, r4]
def setAt (f : ByteArray → Option Value) (a : ByteArray) (v : Option Value) : ByteArray → Option Value := fun x => if x = a then v else f x
theorem others {es : Array MapEntry} (h3 : es.toList.Pairwise (fun x y => x.key ≠ y.key)) {j i : Nat} {e0 x : MapEntry} (hj : es.toList[j]? = some e0) (hi : es.toList[i]? = some x) (hne : i ≠ j) : x.key ≠ e0.key := by
 rw [List.pairwise_iff_getElem] at h3
 obtain ⟨hj1, hj2⟩ := List.getElem?_eq_some_iff.1 hj
 obtain ⟨hi1, hi2⟩ := List.getElem?_eq_some_iff.1 hi
 rcases Nat.lt_or_gt_of_ne hne with hlt | hgt
 · have := h3 i j hi1 hj1 hlt; rw [hj2, hi2] at this; exact this
 have := h3 j i hj1 hi1 hgt; rw [hj2, hi2] at this; exact fun e => this e.symm
theorem StrMap.put (h : StrMap w b f n) (hk : P.underlying k = some .string) (ht : P.underlying t = some (.map k e)) {a : ByteArray} (ha : a.size ≤ maxLen) (v : Value) :
 ∃ es clock es' clock', w.heap[b]? = some (.map es clock) ∧ (Instr.mapUpdate t (.map (some b)) (.string a) v).run P w = .ok () (setBlock w b (.map es' clock')) ∧
  StrMap (setBlock w b (.map es' clock')) b (setAt f a (some v)) (if (f a).isSome then n else n + 1) := by
 obtain ⟨es, clock, hb, hs, h1, h2, h3⟩ := h
 have K := string_keyed hk
 rcases found K hk w h1 h2 ha with ⟨r1, r2, r5⟩ | ⟨j, e0, r1, r2, r3, r4⟩
 · refine ⟨es, clock, es.push ⟨.string a, v, clock⟩, clock + 1, hb, ?_, es.push ⟨.string a, v, clock⟩, clock + 1, heap_setBlock_same hb _, ?_, ?_, ?_, ?_⟩
   · simp [Instr.mapUpdate, run_underlying ht, MapKept.run_getObj_map hb, K.check w false (keyOf_string_mk hk ha), r1, MapKept.run_setObj_map _ hb, Result.andThen, setBlock]
   · simp [r2, hs]
   · intro x hx
     simp only [Array.toList_push, List.mem_append, List.mem_singleton] at hx
     rcases hx with hx | rfl
     · obtain ⟨a', ha', hw', hf'⟩ := h1 x hx
       refine ⟨a', ha', hw', ?_⟩
       have : a' ≠ a := fun e1 => r5 x hx (by rw [ha', e1])
       simp [setAt, this, hf']
     exact ⟨a, rfl, ha, by simp [setAt]⟩
   · intro a' v' hf'
     by_cases e1 : a' = a
     · subst e1
       exact ⟨⟨.string a', v, clock⟩, by simp, rfl⟩
     simp only [setAt, e1, if_false] at hf'
     obtain ⟨x, hx, hkx⟩ := h2 a' v' hf'
     exact ⟨x, by simp [hx], hkx⟩
   rw [Array.toList_push, List.pairwise_append]
   refine ⟨h3, by simp, ?_⟩
   intro x hx y hy
   simp only [List.mem_singleton] at hy
   subst hy
   exact r5 x hx
 have hj : es[j]? = some e0 := by simpa using r2
 have hjl : j < es.toList.length := (List.getElem?_eq_some_iff.1 r2).1
 have hlist : (es.modify j (fun e' => { e' with key := .string a, val := v })).toList = es.toList.set j { e0 with key := .string a, val := v } := by rw [Array.toList_modify, modify_eq_set _ _ _ _ r2]
 refine ⟨es, clock, es.modify j (fun e' => { e' with key := .string a, val := v }), clock, hb, ?_, es.modify j (fun e' => { e' with key := .string a, val := v }), clock, heap_setBlock_same hb _, ?_, ?_, ?_, ?_⟩
 · simp [Instr.mapUpdate, run_underlying ht, MapKept.run_getObj_map hb, K.check w false (keyOf_string_mk hk ha), r1, hj, r3, K.stays w (keyOf_string_mk hk ha), MapKept.run_setObj_map _ hb, Result.andThen, setBlock]
 · simp [r4, hs]
 · intro x hx
   rw [hlist] at hx
   obtain ⟨i, hi, ex⟩ := List.getElem_of_mem hx
   rw [List.getElem_set] at ex
   split at ex
   · subst ex; exact ⟨a, rfl, ha, by simp [setAt]⟩
   rename_i hne
   have hi' : i < es.toList.length := by simpa using hi
   obtain ⟨a', ha', hw', hf'⟩ := h1 x (ex ▸ List.getElem_mem hi')
   refine ⟨a', ha', hw', ?_⟩
   have hoth := others h3 r2 (by rw [List.getElem?_eq_getElem hi', ex] : es.toList[i]? = some x) (fun e1 => hne e1.symm)
   have : a' ≠ a := fun e1 => hoth (by rw [ha', e1, r3])
   simp [setAt, this, hf']
 · intro a' v' hf'
   rw [hlist]
   by_cases e1 : a' = a
   · subst e1
     exact ⟨{ e0 with key := .string a', val := v }, List.mem_iff_getElem.2 ⟨j, by simpa using hjl, by simp⟩, rfl⟩
   simp only [setAt, e1, if_false] at hf'
   obtain ⟨x, hx, hkx⟩ := h2 a' v' hf'
   obtain ⟨i, hi, ex⟩ := List.getElem_of_mem hx
   have hne : j ≠ i := by
    intro e2
    subst e2
    obtain ⟨_, hj2⟩ := List.getElem?_eq_some_iff.1 r2
    rw [hj2] at ex
    subst ex
    rw [r3] at hkx
    cases hkx
    exact e1 rfl
   exact ⟨x, List.mem_iff_getElem.2 ⟨i, by simpa using hi, by rw [List.getElem_set]; rw [if_neg hne]; exact ex⟩, hkx⟩
 rw [hlist, List.pairwise_iff_getElem]
 intro i l hi hl hil
 rw [List.pairwise_iff_getElem] at h3
 have hi' : i < es.toList.length := by simpa using hi
 have hl' : l < es.toList.length := by simpa using hl
 have hb3 := h3 i l hi' hl' hil
 obtain ⟨_, hj2⟩ := List.getElem?_eq_some_iff.1 r2
 rw [List.getElem_set, List.getElem_set]
 split
 · split
   · omega
   rename_i e1 _; subst e1; rw [hj2, r3] at hb3; exact hb3
 split
 · rename_i _ e1; subst e1; rw [hj2, r3] at hb3; exact hb3
 exact hb3
end
end Go.Proofs.YtndbbgihpoiojaaGreatDoor.smap
namespace Go.Proofs.YtndbbgihpoiojaaGreatDoor.Q
open Go.RowKit Go.Proofs.YtndbbgihpoiojaaGreatDoorW.PrintWords Go.Proofs.YtndbbgihpoiojaaGreatDoorW.PrintLast
open Go.Proofs.YtndbbgihpoiojaaGreatDoor.smap (StrMap)
section
variable {P : Program} {ops : Array Oper} {Q : Exit → Act → World → Prop} {md : Region.Mode}
theorem count_set {L : Array Bool} {i : Nat} (h : L.getD i true = false) : (L.setIfInBounds i true).toList.count false + 1 = L.toList.count false := by
 have hi : i < L.size := by
  rcases Nat.lt_or_ge i L.size with h' | h'
  · exact h'
  simp [Array.getElem?_eq_none h'] at h
 have hv : L.toList[i]'(by simpa using hi) = false := by simpa [hi] using h
 rw [Array.toList_setIfInBounds]
 have := List.count_set (a := true) (b := false) (l := L.toList) (i := i) (by simpa using hi)
 rw [this]
 have hp : 0 < L.toList.count false := List.count_pos_iff.2 (by rw [← hv]; exact List.getElem_mem _)
 rw [if_pos (by rw [hv]; rfl), if_neg (by decide)]
 omega
theorem wpAny_inv {I : Array Bool → Act → World → Prop} (step : ∀ L a w i, I L a w → i ∈ Region.ready md ops L → wpOp P ops Q i (I (L.setIfInBounds i true)) a w)
 (fin : ∀ L a w, I L a w → Region.ready md ops L = [] → Q .normal a w) :
 ∀ (fuel : Nat) (L : Array Bool) (a : Act) (w : World), I L a w → L.toList.count false ≤ fuel → wpAny P md ops Q fuel L a w := by
 intro fuel
 induction fuel with
 | zero =>
  intro L a w h hc
  have hr : Region.ready md ops L = [] := by
   apply List.eq_nil_iff_forall_not_mem.2
   intro i hi
   have := count_set (mem_ready.1 hi).1
   omega
  exact ⟨hr, fin _ _ _ h hr⟩
 | succ fuel ih =>
  intro L a w h hc
  refine ⟨fin _ _ _ h, fun i hi => wpOp_mono (fun a' w' h' => ih _ a' w' h' ?_) (step _ _ _ _ h hi)⟩
  have := count_set (mem_ready.1 hi).1
  omega
theorem wpOp_run {o : Oper} {i : Nat} {K : Act → World → Prop} {a : Act} {w : World} (ho : ops[i]? = some o) (hg : o.guard = none) (h : Oper.wp P o a w K Q) : wpOp P ops Q i K a w := by
 unfold wpOp
 simp only [ho]
 have hw : Region.wanted o (yielded ops a.tmps) = true := by simp [Region.wanted, hg]
 rw [if_pos hw]
 exact .inl h
theorem wp_value {o : Oper} {K : Act → World → Prop} {a : Act} {w w1 : World} {v : Value} {N : Option Tmp} (hN : o.dst = N) (hrun : (execOp a.eval o).run P w = .ok (.value v) w1) (h : K (a.put N v) w1) : Oper.wp P o a w K Q := by
 subst hN
 unfold Oper.wp
 rw [hrun]
 exact h
theorem wp_goes {o : Oper} {N : Option Tmp} {a : Act} {w : World} {K : Act → World → Prop} {f : FuncId} {fn : Func} {ar : Array Operand} {ts : Array TypeId} (hf : P.funcs[f]? = some fn) (hname : (fn.name == "runtime.NumGoroutine") = false) (hb : fn.body.isSome = true) (args : Array Value)
 (hN : o.dst = N) (hg : o.guard = none) (hop : o.op = .call { callee := .value (.func f), args := ar, argTypes := ts }) (hargs : ar.map a.eval = args)
 (h : Calls P f args w fun e w' => ∃ v, e = .returned v ∧ K (a.put N v) w') : Oper.wp P o a w K Q := by
 have hw : Region.wanted o (yielded #[] a.tmps) = true := by simp [Region.wanted, hg]
 have := goes_ (P := P) (ops := #[]) (Q := Q) (K := K) hf hname hb args hw hN hop hargs h
 rwa [if_pos hw] at this
theorem wp_insert {o : Oper} {a : Act} {w : World} {K : Act → World → Prop} {t k e : TypeId} {m x v : Operand} {b n : Nat} {f : ByteArray → Option Value} {key : ByteArray} {val : Value} (hN : o.dst = none) (hop : o.op = .insert t m x v)
 (hk : P.underlying k = some .string) (ht : P.underlying t = some (.map k e)) (hm : a.eval m = .map (some b)) (hx : a.eval x = .string key) (hv : a.eval v = val) (hkey : key.size ≤ maxLen) (h : StrMap w b f n)
 (hK : ∀ w', StrMap w' b (smap.setAt f key (some val)) (if (f key).isSome then n else n + 1) → (∀ j, j ≠ b → w'.heap[j]? = w.heap[j]?) → w'.heap.size = w.heap.size → w'.os = w.os → w'.tape = w.tape → w'.output = w.output → K a w') : Oper.wp P o a w K Q := by
 obtain ⟨es, cl, es', cl', hb, hrun, h2⟩ := h.put hk ht hkey val
 unfold Oper.wp
 simp [execOp, hop, hm, hx, hv, hrun, Result.andThen]
 show K (a.put o.dst undef) _
 rw [hN]
 refine hK _ h2 (fun j hj => ?_) (by simp [ChangeMaps.setBlock]) rfl rfl rfl
 show (w.heap.setIfInBounds b _)[j]? = _
 rw [Array.getElem?_setIfInBounds_ne (Ne.symm hj)]
end
def KC (w w1 : World) : Prop := ∀ (k : Nat) (cs : Array Value) (t : Nat) (fz : Nat × Nat), w.heap[k]? = some (.cells cs t fz) → t ≠ 128 → w1.heap[k]? = w.heap[k]?
theorem KC.of_below {w w1 : World} (h : Below w.heap.size w w1) : KC w w1 := fun k _ _ _ hk _ => h.block k (blk_lt' hk)
def EvC (w : World) (sb : Nat) (kind : Int) (placed : Bool) (v : Value) : Prop := ∃ kb pb cb, v = .func (.func 112) #[] #[.pointer (some ⟨kb, 0, none⟩), .pointer (some ⟨pb, 0, none⟩), .pointer (some ⟨cb, 0, none⟩)] ∧
 w.heap[kb]? = some (.cells #[.int .i64 kind] 3 (0, 0)) ∧ w.heap[pb]? = some (.cells #[.bool placed] 4 (0, 0)) ∧ w.heap[cb]? = some (.cells #[.pointer (some ⟨sb, 0, none⟩)] 87 (0, 0))
theorem EvC.kc {w w1 : World} {sb : Nat} {kind : Int} {placed : Bool} {v : Value} (h : EvC w sb kind placed v) (hk : KC w w1) : EvC w1 sb kind placed v := by
 obtain ⟨kb, pb, cb, rfl, h1, h2, h3⟩ := h
 exact ⟨kb, pb, cb, rfl, (hk _ _ _ _ h1 (by decide)).trans h1, (hk _ _ _ _ h2 (by decide)).trans h2, (hk _ _ _ _ h3 (by decide)).trans h3⟩
def AskC (w : World) (sb : Nat) (kind : Int) (rest : Value) (v : Value) : Prop := ∃ kb qb cb, v = .func (.func 114) #[] #[.pointer (some ⟨kb, 0, none⟩), .pointer (some ⟨qb, 0, none⟩), .pointer (some ⟨cb, 0, none⟩)] ∧
 w.heap[kb]? = some (.cells #[.int .i64 kind] 3 (0, 0)) ∧ w.heap[qb]? = some (.cells #[rest] 159 (0, 0)) ∧ w.heap[cb]? = some (.cells #[.pointer (some ⟨sb, 0, none⟩)] 87 (0, 0))
theorem AskC.kc {w w1 : World} {sb : Nat} {kind : Int} {rest : Value} {v : Value} (h : AskC w sb kind rest v) (hk : KC w w1) : AskC w1 sb kind rest v := by
 obtain ⟨kb, qb, cb, rfl, h1, h2, h3⟩ := h
 exact ⟨kb, qb, cb, rfl, (hk _ _ _ _ h1 (by decide)).trans h1, (hk _ _ _ _ h2 (by decide)).trans h2, (hk _ _ _ _ h3 (by decide)).trans h3⟩
theorem three_new (w : World) (o1 o2 o3 : Obj) : (((w.alloc o1).alloc o2).alloc o3).heap[w.heap.size]? = some o1 ∧ (((w.alloc o1).alloc o2).alloc o3).heap[w.heap.size + 1]? = some o2 ∧ (((w.alloc o1).alloc o2).alloc o3).heap[w.heap.size + 2]? = some o3 ∧ Below w.heap.size w (((w.alloc o1).alloc o2).alloc o3) := by
 have e1 : (w.alloc o1).heap.size = w.heap.size + 1 := by simp
 have e2 : ((w.alloc o1).alloc o2).heap.size = w.heap.size + 2 := by simp
 have b2 := b1_ (Below.refl (w.alloc o1).heap.size (w.alloc o1)) o2
 have b3 := b1_ (Below.refl ((w.alloc o1).alloc o2).heap.size ((w.alloc o1).alloc o2)) o3
 refine ⟨?_, ?_, ?_, b1_ (b1_ (b1_ (Below.refl _ _) o1) o2) o3⟩
 · rw [b3.block _ (by rw [e2]; omega), b2.block _ (by rw [e1]; omega)]
   exact wld.alloc_same w o1
 · rw [b3.block _ (by rw [e2]; omega), ← e1]
   exact wld.alloc_same (w.alloc o1) o2
 rw [← e2]
 exact wld.alloc_same ((w.alloc o1).alloc o2) o3
theorem event_calls (sb : Nat) (kind : Int) (placed : Bool) (w : World) :
 Calls Tryz.prog 90 #[.pointer (some ⟨sb, 0, none⟩), .int .i64 kind, .bool placed] w fun e w' => ∃ v, e = .returned v ∧ EvC w' sb kind placed v ∧ Below w.heap.size w w' := by
 go_enter Tryz.func90, Tryz.ntmps90
 go_wp2_with fail
 go_ret
 obtain ⟨h1, h2, h3, hb⟩ := three_new w (.cells #[.pointer (some ⟨sb, 0, none⟩)] 87) (.cells #[.int .i64 kind] 3) (.cells #[.bool placed] 4)
 exact ⟨_, rfl, ⟨_, _, _, rfl, h2, h3, h1⟩, hb⟩
theorem ask_calls0 (sb : Nat) (kind : Int) (w : World) :
 Calls Tryz.prog 91 #[.pointer (some ⟨sb, 0, none⟩), .int .i64 kind, .nilFunc] w fun e w' => ∃ v, e = .returned v ∧ AskC w' sb kind (.nilFunc) v ∧ Below w.heap.size w w' := by
 go_enter Tryz.func91, Tryz.ntmps91
 go_wp2_with fail
 go_ret
 obtain ⟨h1, h2, h3, hb⟩ := three_new w (.cells #[.pointer (some ⟨sb, 0, none⟩)] 87) (.cells #[.int .i64 kind] 3) (.cells #[.nilFunc] 159)
 exact ⟨_, rfl, ⟨_, _, _, rfl, h2, h3, h1⟩, hb⟩
theorem ask_calls1 (sb : Nat) (kind : Int) (q : Nat) (w : World) :
 Calls Tryz.prog 91 #[.pointer (some ⟨sb, 0, none⟩), .int .i64 kind, .func (.func q) #[] #[]] w fun e w' => ∃ v, e = .returned v ∧ AskC w' sb kind (.func (.func q) #[] #[]) v ∧ Below w.heap.size w w' := by
 go_enter Tryz.func91, Tryz.ntmps91
 go_wp2_with fail
 go_ret
 obtain ⟨h1, h2, h3, hb⟩ := three_new w (.cells #[.pointer (some ⟨sb, 0, none⟩)] 87) (.cells #[.int .i64 kind] 3) (.cells #[.func (.func q) #[] #[]] 159)
 exact ⟨_, rfl, ⟨_, _, _, rfl, h2, h3, h1⟩, hb⟩
abbrev Ent : Type := ByteArray × (World → Value → Prop)
def Ent.Stays (x : Ent) : Prop := ∀ w w1 v, KC w w1 → x.2 w v → x.2 w1 v
def AM (w : World) (m : Nat) (tab : List Ent) : Prop := ∃ f n, StrMap w m f n ∧ (∀ k v, f k = some v → ∃ x ∈ tab, x.1 = k ∧ x.2 w v) ∧ ∀ x ∈ tab, (f x.1).isSome = true
theorem AM.made (w : World) : AM (w.alloc (.map #[] 0)) w.heap.size [] := ⟨_, _, smap.StrMap.made w, (fun k v h => by cases h), fun x hx => by cases hx⟩
theorem AM.below {w w1 : World} {m : Nat} {tab : List Ent} (h : AM w m tab) (ht : ∀ x ∈ tab, Ent.Stays x) (hb : Below w.heap.size w w1) : AM w1 m tab := by
 obtain ⟨f, n, h1, h2, h3⟩ := h
 refine ⟨f, n, h1.of_block (hb.block m h1.lt), fun k v hk => ?_, h3⟩
 obtain ⟨x, hx, e, hv⟩ := h2 k v hk
 exact ⟨x, hx, e, ht x hx _ _ _ (KC.of_below hb) hv⟩
theorem AM.kc {w w1 : World} {m : Nat} {tab : List Ent} (h : AM w m tab) (hm : ∀ j, j ≠ m → w1.heap[j]? = w.heap[j]?) : KC w w1 := by
 obtain ⟨f, n, ⟨es, clock, hb, _⟩, _⟩ := h
 intro k cs t fz hk _
 exact hm k (fun e => by subst e; rw [hb] at hk; cases hk)
theorem wp_ins {P : Program} {Q : Exit → Act → World → Prop} {o : Oper} {a : Act} {w : World} {K : Act → World → Prop} {t k e : TypeId} {ma x v : Operand} {m : Nat} {tab : List Ent} {key : ByteArray} {val : Value} {p : World → Value → Prop} (hN : o.dst = none) (hop : o.op = .insert t ma x v)
 (hk : P.underlying k = some .string) (ht : P.underlying t = some (.map k e)) (hm : a.eval ma = .map (some m)) (hx : a.eval x = .string key) (hv : a.eval v = val) (hkey : key.size ≤ maxLen) (h : AM w m tab) (hs : ∀ y ∈ tab, Ent.Stays y) (hp : p w val) (hps : Ent.Stays (key, p))
 (hK : ∀ w', AM w' m ((key, p) :: tab) → KC w w' → (∀ j, j ≠ m → w'.heap[j]? = w.heap[j]?) → (∀ B, B ≤ m → Below B w w') → K a w') : Oper.wp P o a w K Q := by
 have hkc := fun w1 => AM.kc (w1 := w1) h
 obtain ⟨f, n, h1, h2, h3⟩ := h
 refine wp_insert hN hop hk ht hm hx hv hkey h1 (fun w' g1 g2 g3 g4 g5 g6 => hK w' ?_ (hkc w' g2) g2 (fun B hB => ⟨g4, g5, g6, by omega, fun j hj => g2 j (by omega)⟩))
 refine ⟨_, _, g1, fun k' v' hk' => ?_, fun y hy => ?_⟩
 · unfold smap.setAt at hk'
   split at hk'
   · rename_i e
     subst e
     cases hk'
     exact ⟨_, List.mem_cons_self .., rfl, hps _ _ _ (hkc w' g2) hp⟩
   obtain ⟨y, hy, e, hv'⟩ := h2 k' v' hk'
   exact ⟨y, List.mem_cons_of_mem _ hy, e, hs y hy _ _ _ (hkc w' g2) hv'⟩
 unfold smap.setAt
 split
 · rfl
 rename_i e
 rcases List.mem_cons.1 hy with rfl | hy
 · exact absurd rfl e
 exact h3 y hy
theorem wpList_ins {P : Program} {ops : Array Oper} {rest : List Oper} {Q : Exit → Act → World → Prop} {o : Oper} {a : Act} {w : World} {t k e : TypeId} {ma x v : Operand} {m : Nat} {tab : List Ent} {key : ByteArray} {val : Value} {p : World → Value → Prop} (hg : o.guard = none) (hN : o.dst = none) (hop : o.op = .insert t ma x v)
 (hk : P.underlying k = some .string) (ht : P.underlying t = some (.map k e)) (hm : a.eval ma = .map (some m)) (hx : a.eval x = .string key) (hv : a.eval v = val) (hkey : key.size ≤ maxLen) (h : AM w m tab) (hs : ∀ y ∈ tab, Ent.Stays y) (hp : p w val) (hps : Ent.Stays (key, p))
 (hK : ∀ w', AM w' m ((key, p) :: tab) → KC w w' → (∀ j, j ≠ m → w'.heap[j]? = w.heap[j]?) → (∀ B, B ≤ m → Below B w w') → wpList P ops Q rest a w') : wpList P ops Q (o :: rest) a w := by
 refine wpList_plain hg fun K' hK' => ?_
 exact wp_ins hN hop hk ht hm hx hv hkey h hs hp hps (fun w' g1 g2 g3 g4 => hK' _ _ (hK w' g1 g2 g3 g4))
def askP (sb : Nat) (words kind : Int) (rest : Value) (w : World) (v : Value) : Prop := ∃ c, v = .agg #[.int .i64 words, .bool false, c] ∧ AskC w sb kind rest c
theorem askP_stays (sb : Nat) (words kind : Int) (rest : Value) (key : ByteArray) : Ent.Stays (key, askP sb words kind rest) := by
 rintro w w1 v hk ⟨c, rfl, hc⟩
 exact ⟨c, rfl, hc.kc hk⟩
def askTab (sb : Nat) : List Ent := [(⟨#[97, 98, 111, 114, 116]⟩, askP sb 4 7 (.nilFunc)), (⟨#[99, 111, 109, 109, 105, 116]⟩, askP sb 4 6 (.nilFunc)), (⟨#[100, 101, 108, 101, 116, 101]⟩, askP sb 6 5 (.func (.func 96) #[] #[])), (⟨#[112, 117, 116]⟩, askP sb 7 4 (.func (.func 95) #[] #[])), (⟨#[115, 99, 97, 110]⟩, askP sb 8 3 (.func (.func 93) #[] #[])), (⟨#[103, 101, 116]⟩, askP sb 6 2 (.func (.func 92) #[] #[])), (⟨#[98, 101, 103, 105, 110]⟩, askP sb 2 1 (.nilFunc))]
theorem asks_calls (sb : Nat) (w : World) :
 Calls Tryz.prog 68 #[.pointer (some ⟨sb, 0, none⟩)] w fun e w' => ∃ m, e = .returned (.map (some m)) ∧ AM w' m (askTab sb) ∧ Below w.heap.size w w' := by
 have HM0 := am_ (AM.made w)
 have HB0 := am_ (b1_ (Below.refl w.heap.size w) (.map #[] 0))
 have HS0 := am_ (show ∀ y ∈ ([] : List Ent), Ent.Stays y from fun y hy => by cases hy)
 have hmm : Sem.run Tryz.prog (Instr.makeMap 130 none) w = .ok (.map (some w.heap.size)) (w.alloc (.map #[] 0)) := by kernel_rfl
 go_enter Tryz.func68, Tryz.ntmps68
 go_wp2_with fail
 refine (ask_calls0 sb 1 _).mono ?_
 rintro e w2 ⟨v0, rfl, hc, hb⟩
 obtain ⟨kb0, qb0, cb0, rfl, g1, g2, g3⟩ := hc
 have HC := am_ (show AskC w2 sb 1 (.nilFunc) (.func (.func 114) #[] #[.pointer (some ⟨kb0, 0, none⟩), .pointer (some ⟨qb0, 0, none⟩), .pointer (some ⟨cb0, 0, none⟩)]) from ⟨_, _, _, rfl, g1, g2, g3⟩)
 clear g1 g2 g3
 have HMa := am_ (HM0.out.below HS0.out hb)
 have HBa := am_ (below_step HB0.out hb)
 clear hb
 go_wp2_with ((with_reducible refine gate_ (.insert 130 (.tmp 3) _ _) rfl ?_); go_loud (refine wpList_ins (k := 9) (e := 128) (m := w.heap.size) rfl rfl rfl Tryz.underlying9 Tryz.underlying130 rfl rfl rfl (by decide) HMa.out HS0.out (p := askP sb 2 1 (.nilFunc)) ⟨_, rfl, HC.out⟩ (askP_stays _ _ _ _ _) ?_); intro w3 hM hkc hj hB9)
 have HM1 := am_ hM
 have HS1 := am_ (List.forall_mem_cons.2 ⟨askP_stays sb 2 1 (.nilFunc) (⟨#[98, 101, 103, 105, 110]⟩), HS0.out⟩)
 have HB1 := am_ (HBa.out.trans (hB9 _ (Nat.le_refl _)))
 clear hM hkc hj hB9 HMa HBa HC HM0 HB0
 go_wp2_with fail
 refine (ask_calls1 sb 2 92 _).mono ?_
 rintro e w4 ⟨v1, rfl, hc, hb⟩
 obtain ⟨kb1, qb1, cb1, rfl, g1, g2, g3⟩ := hc
 have HC := am_ (show AskC w4 sb 2 (.func (.func 92) #[] #[]) (.func (.func 114) #[] #[.pointer (some ⟨kb1, 0, none⟩), .pointer (some ⟨qb1, 0, none⟩), .pointer (some ⟨cb1, 0, none⟩)]) from ⟨_, _, _, rfl, g1, g2, g3⟩)
 clear g1 g2 g3
 have HMa := am_ (HM1.out.below HS1.out hb)
 have HBa := am_ (below_step HB1.out hb)
 clear hb
 go_wp2_with ((with_reducible refine gate_ (.insert 130 (.tmp 3) _ _) rfl ?_); go_loud (refine wpList_ins (k := 9) (e := 128) (m := w.heap.size) rfl rfl rfl Tryz.underlying9 Tryz.underlying130 rfl rfl rfl (by decide) HMa.out HS1.out (p := askP sb 6 2 (.func (.func 92) #[] #[])) ⟨_, rfl, HC.out⟩ (askP_stays _ _ _ _ _) ?_); intro w5 hM hkc hj hB9)
 have HM2 := am_ hM
 have HS2 := am_ (List.forall_mem_cons.2 ⟨askP_stays sb 6 2 (.func (.func 92) #[] #[]) (⟨#[103, 101, 116]⟩), HS1.out⟩)
 have HB2 := am_ (HBa.out.trans (hB9 _ (Nat.le_refl _)))
 clear hM hkc hj hB9 HMa HBa HC HM1 HB1
 go_wp2_with fail
 refine (ask_calls1 sb 3 93 _).mono ?_
 rintro e w6 ⟨v2, rfl, hc, hb⟩
 obtain ⟨kb2, qb2, cb2, rfl, g1, g2, g3⟩ := hc
 have HC := am_ (show AskC w6 sb 3 (.func (.func 93) #[] #[]) (.func (.func 114) #[] #[.pointer (some ⟨kb2, 0, none⟩), .pointer (some ⟨qb2, 0, none⟩), .pointer (some ⟨cb2, 0, none⟩)]) from ⟨_, _, _, rfl, g1, g2, g3⟩)
 clear g1 g2 g3
 have HMa := am_ (HM2.out.below HS2.out hb)
 have HBa := am_ (below_step HB2.out hb)
 clear hb
 go_wp2_with ((with_reducible refine gate_ (.insert 130 (.tmp 3) _ _) rfl ?_); go_loud (refine wpList_ins (k := 9) (e := 128) (m := w.heap.size) rfl rfl rfl Tryz.underlying9 Tryz.underlying130 rfl rfl rfl (by decide) HMa.out HS2.out (p := askP sb 8 3 (.func (.func 93) #[] #[])) ⟨_, rfl, HC.out⟩ (askP_stays _ _ _ _ _) ?_); intro w7 hM hkc hj hB9)
 have HM3 := am_ hM
 have HS3 := am_ (List.forall_mem_cons.2 ⟨askP_stays sb 8 3 (.func (.func 93) #[] #[]) (⟨#[115, 99, 97, 110]⟩), HS2.out⟩)
 have HB3 := am_ (HBa.out.trans (hB9 _ (Nat.le_refl _)))
 clear hM hkc hj hB9 HMa HBa HC HM2 HB2
 go_wp2_with fail
 refine (ask_calls1 sb 4 95 _).mono ?_
 rintro e w8 ⟨v3, rfl, hc, hb⟩
 obtain ⟨kb3, qb3, cb3, rfl, g1, g2, g3⟩ := hc
 have HC := am_ (show AskC w8 sb 4 (.func (.func 95) #[] #[]) (.func (.func 114) #[] #[.pointer (some ⟨kb3, 0, none⟩), .pointer (some ⟨qb3, 0, none⟩), .pointer (some ⟨cb3, 0, none⟩)]) from ⟨_, _, _, rfl, g1, g2, g3⟩)
 clear g1 g2 g3
 have HMa := am_ (HM3.out.below HS3.out hb)
 have HBa := am_ (below_step HB3.out hb)
 clear hb
 go_wp2_with ((with_reducible refine gate_ (.insert 130 (.tmp 3) _ _) rfl ?_); go_loud (refine wpList_ins (k := 9) (e := 128) (m := w.heap.size) rfl rfl rfl Tryz.underlying9 Tryz.underlying130 rfl rfl rfl (by decide) HMa.out HS3.out (p := askP sb 7 4 (.func (.func 95) #[] #[])) ⟨_, rfl, HC.out⟩ (askP_stays _ _ _ _ _) ?_); intro w9 hM hkc hj hB9)
 have HM4 := am_ hM
 have HS4 := am_ (List.forall_mem_cons.2 ⟨askP_stays sb 7 4 (.func (.func 95) #[] #[]) (⟨#[112, 117, 116]⟩), HS3.out⟩)
 have HB4 := am_ (HBa.out.trans (hB9 _ (Nat.le_refl _)))
 clear hM hkc hj hB9 HMa HBa HC HM3 HB3
 go_wp2_with fail
 refine (ask_calls1 sb 5 96 _).mono ?_
 rintro e w10 ⟨v4, rfl, hc, hb⟩
 obtain ⟨kb4, qb4, cb4, rfl, g1, g2, g3⟩ := hc
 have HC := am_ (show AskC w10 sb 5 (.func (.func 96) #[] #[]) (.func (.func 114) #[] #[.pointer (some ⟨kb4, 0, none⟩), .pointer (some ⟨qb4, 0, none⟩), .pointer (some ⟨cb4, 0, none⟩)]) from ⟨_, _, _, rfl, g1, g2, g3⟩)
 clear g1 g2 g3
 have HMa := am_ (HM4.out.below HS4.out hb)
 have HBa := am_ (below_step HB4.out hb)
 clear hb
 go_wp2_with ((with_reducible refine gate_ (.insert 130 (.tmp 3) _ _) rfl ?_); go_loud (refine wpList_ins (k := 9) (e := 128) (m := w.heap.size) rfl rfl rfl Tryz.underlying9 Tryz.underlying130 rfl rfl rfl (by decide) HMa.out HS4.out (p := askP sb 6 5 (.func (.func 96) #[] #[])) ⟨_, rfl, HC.out⟩ (askP_stays _ _ _ _ _) ?_); intro w11 hM hkc hj hB9)
 have HM5 := am_ hM
 have HS5 := am_ (List.forall_mem_cons.2 ⟨askP_stays sb 6 5 (.func (.func 96) #[] #[]) (⟨#[100, 101, 108, 101, 116, 101]⟩), HS4.out⟩)
 have HB5 := am_ (HBa.out.trans (hB9 _ (Nat.le_refl _)))
 clear hM hkc hj hB9 HMa HBa HC HM4 HB4
 go_wp2_with fail
 refine (ask_calls0 sb 6 _).mono ?_
 rintro e w12 ⟨v5, rfl, hc, hb⟩
 obtain ⟨kb5, qb5, cb5, rfl, g1, g2, g3⟩ := hc
 have HC := am_ (show AskC w12 sb 6 (.nilFunc) (.func (.func 114) #[] #[.pointer (some ⟨kb5, 0, none⟩), .pointer (some ⟨qb5, 0, none⟩), .pointer (some ⟨cb5, 0, none⟩)]) from ⟨_, _, _, rfl, g1, g2, g3⟩)
 clear g1 g2 g3
 have HMa := am_ (HM5.out.below HS5.out hb)
 have HBa := am_ (below_step HB5.out hb)
 clear hb
 go_wp2_with ((with_reducible refine gate_ (.insert 130 (.tmp 3) _ _) rfl ?_); go_loud (refine wpList_ins (k := 9) (e := 128) (m := w.heap.size) rfl rfl rfl Tryz.underlying9 Tryz.underlying130 rfl rfl rfl (by decide) HMa.out HS5.out (p := askP sb 4 6 (.nilFunc)) ⟨_, rfl, HC.out⟩ (askP_stays _ _ _ _ _) ?_); intro w13 hM hkc hj hB9)
 have HM6 := am_ hM
 have HS6 := am_ (List.forall_mem_cons.2 ⟨askP_stays sb 4 6 (.nilFunc) (⟨#[99, 111, 109, 109, 105, 116]⟩), HS5.out⟩)
 have HB6 := am_ (HBa.out.trans (hB9 _ (Nat.le_refl _)))
 clear hM hkc hj hB9 HMa HBa HC HM5 HB5
 go_wp2_with fail
 refine (ask_calls0 sb 7 _).mono ?_
 rintro e w14 ⟨v6, rfl, hc, hb⟩
 obtain ⟨kb6, qb6, cb6, rfl, g1, g2, g3⟩ := hc
 have HC := am_ (show AskC w14 sb 7 (.nilFunc) (.func (.func 114) #[] #[.pointer (some ⟨kb6, 0, none⟩), .pointer (some ⟨qb6, 0, none⟩), .pointer (some ⟨cb6, 0, none⟩)]) from ⟨_, _, _, rfl, g1, g2, g3⟩)
 clear g1 g2 g3
 have HMa := am_ (HM6.out.below HS6.out hb)
 have HBa := am_ (below_step HB6.out hb)
 clear hb
 go_wp2_with ((with_reducible refine gate_ (.insert 130 (.tmp 3) _ _) rfl ?_); go_loud (refine wpList_ins (k := 9) (e := 128) (m := w.heap.size) rfl rfl rfl Tryz.underlying9 Tryz.underlying130 rfl rfl rfl (by decide) HMa.out HS6.out (p := askP sb 4 7 (.nilFunc)) ⟨_, rfl, HC.out⟩ (askP_stays _ _ _ _ _) ?_); intro w15 hM hkc hj hB9)
 have HM7 := am_ hM
 have HS7 := am_ (List.forall_mem_cons.2 ⟨askP_stays sb 4 7 (.nilFunc) (⟨#[97, 98, 111, 114, 116]⟩), HS6.out⟩)
 have HB7 := am_ (HBa.out.trans (hB9 _ (Nat.le_refl _)))
 clear hM hkc hj hB9 HMa HBa HC HM6 HB6
 go_wp2_with fail
 go_ret
 exact ⟨_, rfl, HM7.out, HB7.out⟩
theorem ready_dep {md : Region.Mode} {ops : Array Oper} {L : Array Bool} {i : Nat} (e : Nat) (h : i ∈ Region.ready md ops L) (hc : ((ops[i]?).map fun o => o.after.any fun x => x.on == e && Region.binds md x) = some true) : L.getD e false = true := by
 obtain ⟨_, o, ho, hall⟩ := mem_ready.1 h
 rw [ho] at hc
 obtain ⟨x, hx, h1⟩ := Array.any_eq_true'.1 (Option.some.inj hc)
 simp only [Bool.and_eq_true, beq_iff_eq] at h1
 rw [← h1.1]
 exact hall x hx h1.2
theorem eval_tmp {a : Act} {d : Nat} {v : Value} (h : a.tmps[d]? = some v) : a.eval (.tmp d) = v := by
 simp [Act.eval, h]
def boxP (sb : Nat) (f : Nat) (w : World) (v : Value) : Prop := ∃ bx, v = .func (.func f) #[] #[.pointer (some ⟨bx, 0, none⟩)] ∧ w.heap[bx]? = some (.cells #[.pointer (some ⟨sb, 0, none⟩)] 87 (0, 0))
theorem boxP.kc {w w1 : World} {sb f : Nat} {v : Value} (h : boxP sb f w v) (hk : KC w w1) : boxP sb f w1 v := by
 obtain ⟨bx, rfl, h1⟩ := h
 exact ⟨bx, rfl, (hk _ _ _ _ h1 (by decide)).trans h1⟩
def clP (sb : Nat) (words : Int) (f : Nat) (w : World) (v : Value) : Prop := ∃ c, v = .agg #[.int .i64 words, .bool false, c] ∧ boxP sb f w c
theorem clP.kc {w w1 : World} {sb f : Nat} {words : Int} {v : Value} (h : clP sb words f w v) (hk : KC w w1) : clP sb words f w1 v := by
 obtain ⟨c, rfl, h1⟩ := h
 exact ⟨c, rfl, h1.kc hk⟩
def evP (sb : Nat) (words kind : Int) (placed : Bool) (w : World) (v : Value) : Prop := ∃ c, v = .agg #[.int .i64 words, .bool true, c] ∧ EvC w sb kind placed c
theorem evP.kc {w w1 : World} {sb : Nat} {words kind : Int} {placed : Bool} {v : Value} (h : evP sb words kind placed w v) (hk : KC w w1) : evP sb words kind placed w1 v := by
 obtain ⟨c, rfl, h1⟩ := h
 exact ⟨c, rfl, h1.kc hk⟩
def fdst (j : Nat) : Option Nat := ([some 3, some 4, some 5, none, some 6, some 7, none, some 8, some 9, none, some 10, some 11, some 12, none, some 13, some 14, some 15, none, some 16, some 17, some 18, none, some 19, some 20, some 21, none, some 22, some 2] : List (Option Nat)).getD j none
def flate (j : Nat) : Bool := ([3, 6, 9, 13, 17, 21, 25, 26, 27] : List Nat).contains j
def FV (sb m : Nat) (w : World) (j : Nat) (v : Value) : Prop := match j with
 | 0 => v = .map (some m)
 | 1 => boxP sb 85 w v
 | 2 => clP sb 1 85 w v
 | 4 => boxP sb 87 w v
 | 5 => clP sb 5 87 w v
 | 7 => boxP sb 89 w v
 | 8 => clP sb 1 89 w v
 | 10 => v = .pointer (some ⟨sb, 0, none⟩)
 | 11 => EvC w sb 2 false v
 | 12 => evP sb 0 2 false w v
 | 14 => v = .pointer (some ⟨sb, 0, none⟩)
 | 15 => EvC w sb 3 true v
 | 16 => evP sb 1 3 true w v
 | 18 => v = .pointer (some ⟨sb, 0, none⟩)
 | 19 => EvC w sb 4 true v
 | 20 => evP sb 1 4 true w v
 | 22 => v = .pointer (some ⟨sb, 0, none⟩)
 | 23 => EvC w sb 5 false v
 | 24 => evP sb 0 5 false w v
 | 26 => v = .map (some m)
 | 27 => v = .map (some m)
 | _ => True
def fins (sb : Nat) : List (Nat × Ent) := [(3, (⟨#[108, 97, 98, 101, 108]⟩, clP sb 1 85)), (6, (⟨#[97, 99, 99, 111, 117, 110, 116]⟩, clP sb 5 87)), (9, (⟨#[115, 101, 115, 115, 105, 111, 110]⟩, clP sb 1 89)), (13, (⟨#[116, 105, 99, 107]⟩, evP sb 0 2 false)), (17, (⟨#[118, 97, 99, 117, 117, 109]⟩, evP sb 1 3 true)), (21, (⟨#[99, 104, 101, 99, 107, 112, 111, 105, 110, 116]⟩, evP sb 1 4 true)), (25, (⟨#[105, 100, 108, 101]⟩, evP sb 0 5 false))]
def formTab (sb : Nat) : List Ent := (fins sb).map Prod.snd
theorem fdst_lt {j d : Nat} (h : fdst j = some d) : j < 28 := by
 rcases Nat.lt_or_ge j 28 with h1 | h1
 · exact h1
 unfold fdst at h
 rw [List.getD_eq_getElem?_getD, List.getElem?_eq_none (by simpa using h1)] at h
 cases h
theorem fdst_inj {j j' d : Nat} (h : fdst j = some d) (h' : fdst j' = some d) : j = j' := by
 have : ∀ a : Fin 28, ∀ b : Fin 28, fdst a = fdst b → (fdst a).isSome = true → a = b := by decide
 have := this ⟨j, fdst_lt h⟩ ⟨j', fdst_lt h'⟩ (h.trans h'.symm) (by show (fdst j).isSome = true; rw [h]; rfl)
 exact congrArg Fin.val this
theorem FV.kc {sb m : Nat} {w w1 : World} {v : Value} : ∀ {j : Nat}, FV sb m w j v → KC w w1 → FV sb m w1 j v := by
 intro j h hk
 unfold FV at h ⊢
 split at h <;> first | exact h | exact boxP.kc h hk | exact EvC.kc h hk | exact clP.kc h hk | exact evP.kc h hk
theorem FV.indep {sb m m' : Nat} {w : World} {v : Value} {j : Nat} (hl : flate j = false) (h0 : j ≠ 0) (h : FV sb m w j v) : FV sb m' w j v := by
 unfold FV at h ⊢
 split at h <;> first | exact h | exact absurd rfl h0 | exact absurd hl (by decide)
theorem fins_stays {sb i : Nat} {x : Ent} (h : (i, x) ∈ fins sb) : Ent.Stays x := by
 unfold fins at h
 simp only [List.mem_cons, List.not_mem_nil, or_false, Prod.mk.injEq] at h
 rcases h with ⟨rfl, rfl⟩ | ⟨rfl, rfl⟩ | ⟨rfl, rfl⟩ | ⟨rfl, rfl⟩ | ⟨rfl, rfl⟩ | ⟨rfl, rfl⟩ | ⟨rfl, rfl⟩ <;> intro w w1 v hk hv <;> first | exact clP.kc hv hk | exact evP.kc hv hk
theorem fins_dst {sb i : Nat} {x : Ent} (h : (i, x) ∈ fins sb) : fdst i = none ∧ flate i = true := by
 unfold fins at h
 simp only [List.mem_cons, List.not_mem_nil, or_false, Prod.mk.injEq] at h
 rcases h with ⟨rfl, rfl⟩ | ⟨rfl, rfl⟩ | ⟨rfl, rfl⟩ | ⟨rfl, rfl⟩ | ⟨rfl, rfl⟩ | ⟨rfl, rfl⟩ | ⟨rfl, rfl⟩ <;> decide
structure FI (W : World) (sb bx : Nat) (L : Array Bool) (a : Act) (w : World) : Prop where
 df : a.defers = []
 sz : a.tmps.size = 23
 s1 : a.tmps[1]? = some (.pointer (some ⟨bx, 0, none⟩))
 sL : L.size = 28
 bk : w.heap[bx]? = some (.cells #[.pointer (some ⟨sb, 0, none⟩)] 87 (0, 0))
 bl : Below W.heap.size W w
 ex : ∃ m tab, (∀ j d, fdst j = some d → L.getD j false = true → ∃ v, a.tmps[d]? = some v ∧ FV sb m w j v) ∧ (L.getD 0 false = true → W.heap.size ≤ m ∧ AM w m tab) ∧
  (∀ i x, (i, x) ∈ fins sb → L.getD i false = true → x ∈ tab) ∧ ∀ x ∈ tab, ∃ i, (i, x) ∈ fins sb
 nz : L.getD 0 false = false → ∀ j, flate j = true → L.getD j false = false
section
variable {W w w1 : World} {sb bx : Nat} {L : Array Bool} {a : Act}
theorem FI.put (h : FI W sb bx L a w) {i d : Nat} (hi : L.getD i true = false) (h0 : i ≠ 0) (hd : fdst i = some d) (hd1 : d ≠ 1) (hd23 : d < 23) (hb : Below w.heap.size w w1) (hz : flate i = true → L.getD 0 false = true) (v : Value)
 (hv : ∀ m, (∀ j d, fdst j = some d → L.getD j false = true → ∃ v, a.tmps[d]? = some v ∧ FV sb m w j v) → FV sb m w1 i v) : FI W sb bx (L.setIfInBounds i true) (a.put (some d) v) w1 := by
 obtain ⟨m, tab, e1, e2, e3, e4⟩ := h.ex
 refine ⟨h.df, by simp [Act.put, h.sz], ?_, by simp [h.sL], (hb.block bx (blk_lt h.bk)).trans h.bk, below_step h.bl hb, ⟨m, tab, ?_, ?_, ?_, e4⟩, ?_⟩
 · simp only [Act.put]
   rw [Array.getElem?_setIfInBounds_ne hd1]
   exact h.s1
 · intro j d' hj hL
   by_cases hji : i = j
   · subst hji
     obtain rfl : d = d' := Option.some.inj (hd.symm.trans hj)
     exact ⟨v, by simp [Act.put, h.sz, hd23], hv m e1⟩
   rw [getD_set_ne false hji] at hL
   obtain ⟨v', g1, g2⟩ := e1 j d' hj hL
   have hne : d ≠ d' := fun e => hji (fdst_inj hd (e ▸ hj))
   refine ⟨v', ?_, g2.kc (KC.of_below hb)⟩
   simp only [Act.put]
   rw [Array.getElem?_setIfInBounds_ne hne]
   exact g1
 · intro hL
   rw [getD_set_ne false h0] at hL
   obtain ⟨g1, g2⟩ := e2 hL
   exact ⟨g1, g2.below (fun x hx => by obtain ⟨i', hx⟩ := e4 x hx; exact fins_stays hx) hb⟩
 · intro i' x hx hL
   have hne : i ≠ i' := fun e => by
    have := (fins_dst hx).1
    rw [← e, hd] at this
    cases this
   rw [getD_set_ne false hne] at hL
   exact e3 i' x hx hL
 intro hL j hj
 rw [getD_set_ne false h0] at hL
 have hne : i ≠ j := fun e => by
  subst e
  rw [hz hj] at hL
  cases hL
 rw [getD_set_ne false hne]
 exact h.nz hL j hj
theorem FI.make (h : FI W sb bx L a w) (hi : L.getD 0 true = false) : FI W sb bx (L.setIfInBounds 0 true) (a.put (some 3) (.map (some w.heap.size))) (w.alloc (.map #[] 0)) := by
 obtain ⟨m, tab, e1, e2, e3, e4⟩ := h.ex
 have hL0 : L.getD 0 false = false := by
  have : 0 < L.size := by rw [h.sL]; decide
  simpa [this] using hi
 have hb := b1_ (Below.refl w.heap.size w) (.map #[] 0)
 refine ⟨h.df, by simp [Act.put, h.sz], ?_, by simp [h.sL], (hb.block bx (blk_lt h.bk)).trans h.bk, below_step h.bl hb, ⟨w.heap.size, [], ?_, fun _ => ⟨h.bl.size, AM.made w⟩, ?_, fun x hx => by cases hx⟩, ?_⟩
 · simp only [Act.put]
   rw [Array.getElem?_setIfInBounds_ne (by decide)]
   exact h.s1
 · intro j d' hj hL
   by_cases hji : 0 = j
   · subst hji
     obtain rfl : 3 = d' := Option.some.inj ((show fdst 0 = some 3 from rfl).symm.trans hj)
     exact ⟨_, by simp [Act.put, h.sz], rfl⟩
   rw [getD_set_ne false hji] at hL
   obtain ⟨v', g1, g2⟩ := e1 j d' hj hL
   have hne : 3 ≠ d' := fun e => hji (fdst_inj (show fdst 0 = some 3 from rfl) (e ▸ hj))
   have hl : flate j = false := by
    cases hf : flate j with
    | false => rfl
    | true => rw [h.nz hL0 j hf] at hL; cases hL
   refine ⟨v', ?_, (g2.indep hl (Ne.symm hji)).kc (KC.of_below hb)⟩
   simp only [Act.put]
   rw [Array.getElem?_setIfInBounds_ne hne]
   exact g1
 · intro i' x hx hL
   have hne : (0 : Nat) ≠ i' := fun e => by
    have := (fins_dst hx).1
    rw [← e] at this
    cases this
   rw [getD_set_ne false hne, h.nz hL0 _ (fins_dst hx).2] at hL
   cases hL
 intro hL j hj
 have : (L.setIfInBounds 0 true).getD 0 false = true := by
  have : 0 < L.size := by rw [h.sL]; decide
  simp [this]
 rw [this] at hL
 cases hL
theorem FI.ins (h : FI W sb bx L a w) {i m : Nat} {x : Ent} {tab : List Ent} (hx : (i, x) ∈ fins sb) (hL0 : L.getD 0 false = true)
 (e1 : ∀ j d, fdst j = some d → L.getD j false = true → ∃ v, a.tmps[d]? = some v ∧ FV sb m w j v) (hm : W.heap.size ≤ m)
 (e3 : ∀ i x, (i, x) ∈ fins sb → L.getD i false = true → x ∈ tab) (e4 : ∀ x ∈ tab, ∃ i, (i, x) ∈ fins sb)
 (g1 : AM w1 m (x :: tab)) (hk : KC w w1) (hb : ∀ B, B ≤ m → Below B w w1) : FI W sb bx (L.setIfInBounds i true) a w1 := by
 refine ⟨h.df, h.sz, h.s1, by simp [h.sL], (hk _ _ _ _ h.bk (by decide)).trans h.bk, h.bl.trans (hb _ hm), ⟨m, x :: tab, ?_, fun _ => ⟨hm, g1⟩, ?_, ?_⟩, ?_⟩
 · intro j d hj hL
   have hne : i ≠ j := fun e => by
    have := (fins_dst hx).1
    rw [e, hj] at this
    cases this
   rw [getD_set_ne false hne] at hL
   obtain ⟨v, q1, q2⟩ := e1 j d hj hL
   exact ⟨v, q1, q2.kc hk⟩
 · intro i' x' hx' hL
   by_cases hii : i = i'
   · subst hii
     rw [show x' = x from ?_]
     · exact List.mem_cons_self ..
     unfold fins at hx hx'
     simp only [List.mem_cons, List.not_mem_nil, or_false, Prod.mk.injEq] at hx hx'
     rcases hx with ⟨rfl, rfl⟩ | ⟨rfl, rfl⟩ | ⟨rfl, rfl⟩ | ⟨rfl, rfl⟩ | ⟨rfl, rfl⟩ | ⟨rfl, rfl⟩ | ⟨rfl, rfl⟩ <;> simp at hx' <;> exact hx'
   rw [getD_set_ne false hii] at hL
   exact List.mem_cons_of_mem _ (e3 i' x' hx' hL)
 · intro y hy
   rcases List.mem_cons.1 hy with rfl | hy
   · exact ⟨i, hx⟩
   exact e4 y hy
 intro hL
 rw [getD_set_true hL0] at hL
 cases hL
end
theorem all_done {md : Region.Mode} {ops : Array Oper} {L : Array Bool} (hdep : ((List.range ops.size).all fun i => match ops[i]? with | some o => o.after.all fun e => decide (e.on < i) | none => true) = true) (hs : L.size = ops.size) (hr : Region.ready md ops L = []) : ∀ (j : Nat), j < ops.size → L.getD j false = true := by
 intro j
 induction j using Nat.strongRecOn with
 | _ j ih =>
  intro hj
  cases hL : L.getD j false with
  | true => rfl
  | false =>
   exfalso
   have hjL : j < L.size := by omega
   have hLt : L.getD j true = false := by simpa [hjL] using hL
   have : j ∈ Region.ready md ops L := mem_ready.2 ⟨hLt, ops[j], by simp [hj], fun e he _ => by
    have h1 := List.all_eq_true.1 hdep j (List.mem_range.2 hj)
    rw [Array.getElem?_eq_getElem hj] at h1
    have h2 := Array.all_eq_true_iff_forall_mem.1 h1 e he
    have h3 : e.on < j := by simpa using h2
    exact ih e.on h3 (by omega)⟩
   rw [hr] at this
   cases this
theorem FI.init (W w : World) (sb bx : Nat) (a : Act) (hd : a.defers = []) (hz : a.tmps.size = 23) (h1 : a.tmps[1]? = some (.pointer (some ⟨bx, 0, none⟩))) (hb : w.heap[bx]? = some (.cells #[.pointer (some ⟨sb, 0, none⟩)] 87 (0, 0))) (hB : Below W.heap.size W w) : FI W sb bx (Array.replicate 28 false) a w := by
 have hF : ∀ j, (Array.replicate 28 false).getD j false = false := by
  intro j
  rw [Array.getD_eq_getD_getElem?, Array.getElem?_replicate]
  split <;> rfl
 refine ⟨hd, hz, h1, by simp, hb, hB, ⟨0, [], ?_, ?_, ?_, fun x hx => by cases hx⟩, fun _ j _ => hF j⟩
 · intro j d _ h; rw [hF] at h; cases h
 · intro h; rw [hF] at h; cases h
 intro i x _ h; rw [hF] at h; cases h
theorem FI.done {W w : World} {sb bx : Nat} {L : Array Bool} {a : Act} (h : FI W sb bx L a w) (hL : ∀ j, j < 28 → L.getD j false = true) : ∃ m, a.tmps[2]? = some (.map (some m)) ∧ AM w m (formTab sb) ∧ Below W.heap.size W w := by
 obtain ⟨m, tab, e1, e2, e3, e4⟩ := h.ex
 obtain ⟨v, g1, g2⟩ := e1 27 2 rfl (hL 27 (by decide))
 have g3 : v = .map (some m) := g2
 subst g3
 obtain ⟨_, f, n, h1, h2, h3⟩ := e2 (hL 0 (by decide))
 refine ⟨m, g1, ⟨f, n, h1, ?_, ?_⟩, h.bl⟩
 · intro k v hk
   obtain ⟨x, hx, q1, q2⟩ := h2 k v hk
   obtain ⟨i, hi⟩ := e4 x hx
   exact ⟨x, List.mem_map.2 ⟨_, hi, rfl⟩, q1, q2⟩
 intro x hx
 obtain ⟨⟨i, x'⟩, hi, rfl⟩ := List.mem_map.1 hx
 exact h3 _ (e3 i x' hi (hL i (by
  unfold fins at hi
  simp only [List.mem_cons, List.not_mem_nil, or_false, Prod.mk.injEq] at hi
  rcases hi with ⟨rfl, rfl⟩ | ⟨rfl, rfl⟩ | ⟨rfl, rfl⟩ | ⟨rfl, rfl⟩ | ⟨rfl, rfl⟩ | ⟨rfl, rfl⟩ | ⟨rfl, rfl⟩ <;> decide)))
theorem forms_calls (sb : Nat) (w : World) :
 Calls Tryz.prog 67 #[.pointer (some ⟨sb, 0, none⟩)] w fun e w' => ∃ m, e = .returned (.map (some m)) ∧ AM w' m (formTab sb) ∧ Below w.heap.size w w' := by
 have HB0 := am_ (b1_ (Below.refl w.heap.size w) (.cells #[.pointer (some ⟨sb, 0, none⟩)] 87))
 have HG0 := am_ (wld.alloc_same w (.cells #[.pointer (some ⟨sb, 0, none⟩)] 87))
 go_enter Tryz.func67, Tryz.ntmps67
 go_wp2_with fail
 refine wp_region_any (by kernel_rfl) ?_
 refine wpAny_inv (I := FI w sb w.heap.size) ?step ?fin _ _ _ _ (FI.init w _ sb w.heap.size _ rfl rfl rfl HG0.out (below_step HB0.out (b3_ (Below.refl _ _)))) (by decide)
 case fin =>
  intro L a w' h hr
  obtain ⟨m, g1, g2, g3⟩ := h.done (all_done (by kernel_rfl) h.sL hr)
  rename_i Kc hKc
  show Kc a w'
  refine hKc _ _ ?_
  refine wp_ret ?_
  refine bodyPost_ret (results_tmp (fn := Tryz.f67) rfl _ _ _) h.df ?_
  refine ⟨m, ?_, g2, g3⟩
  rw [Array.getD_eq_getD_getElem?, g1]
  rfl
 case step =>
  intro L a w' i h hi
  have hi0 := (mem_ready.1 hi).1
  have hlt : i < 28 := by
   rw [← h.sL]
   rcases Nat.lt_or_ge i L.size with h' | h'
   · exact h'
   simp [Array.getElem?_eq_none h'] at hi0
  have hcase : i = 0 ∨ i = 1 ∨ i = 2 ∨ i = 3 ∨ i = 4 ∨ i = 5 ∨ i = 6 ∨ i = 7 ∨ i = 8 ∨ i = 9 ∨ i = 10 ∨ i = 11 ∨ i = 12 ∨ i = 13 ∨ i = 14 ∨ i = 15 ∨ i = 16 ∨ i = 17 ∨ i = 18 ∨ i = 19 ∨ i = 20 ∨ i = 21 ∨ i = 22 ∨ i = 23 ∨ i = 24 ∨ i = 25 ∨ i = 26 ∨ i = 27 := by omega
  obtain ⟨m, tab, e1, e2, e3, e4⟩ := h.ex
  have hs1 := h.s1
  rcases hcase with rfl | rfl | rfl | rfl | rfl | rfl | rfl | rfl | rfl | rfl | rfl | rfl | rfl | rfl | rfl | rfl | rfl | rfl | rfl | rfl | rfl | rfl | rfl | rfl | rfl | rfl | rfl | rfl
  · skip
    refine wpOp_run (by rfl) rfl (wp_value (w1 := w'.alloc (.map #[] 0)) (v := .map (some w'.heap.size)) rfl (by kernel_rfl) (h.make hi0))
  · skip
    refine wpOp_run (by rfl) rfl (wp_value (w1 := w') (v := .func (.func 85) #[] #[.pointer (some ⟨w.heap.size, 0, none⟩)]) rfl (by first | (go_simp; done) | (go_simp; rfl)) (h.put hi0 (by decide) rfl (by decide) (by decide) (Below.refl _ _) (fun hh => absurd hh (by decide)) _ (fun m' e' => ⟨_, rfl, h.bk⟩)))
  · skip
    obtain ⟨u, q1, p1⟩ := e1 1 4 rfl (ready_dep 1 hi (by kernel_rfl))
    have hq := q1
    obtain ⟨bx, rfl, hbx⟩ := p1
    refine wpOp_run (by rfl) rfl (wp_value (w1 := w') (v := .agg #[.int .i64 1, .bool false, .func (.func 85) #[] #[.pointer (some ⟨bx, 0, none⟩)]]) rfl (by first | (go_simp; done) | (go_simp; rfl)) (h.put hi0 (by decide) rfl (by decide) (by decide) (Below.refl _ _) (fun hh => absurd hh (by decide)) _ (fun m' e' => ⟨_, rfl, ⟨_, rfl, hbx⟩⟩)))
  · skip
    obtain ⟨u0, q0, p0⟩ := e1 0 3 rfl (ready_dep 0 hi (by kernel_rfl))
    obtain ⟨u, q2, p2⟩ := e1 2 5 rfl (ready_dep 2 hi (by kernel_rfl))
    have hu : u0 = .map (some m) := p0
    subst hu
    have hq0 := q0
    have hq := q2
    have hL0 := ready_dep 0 hi (by kernel_rfl)
    obtain ⟨hm, hAM⟩ := e2 hL0
    refine wpOp_run (by rfl) rfl (wp_ins (k := 9) (e := 128) (m := m) (key := ⟨#[108, 97, 98, 101, 108]⟩) (p := clP sb 1 85) rfl rfl Tryz.underlying9 Tryz.underlying130 (eval_tmp hq0) rfl (eval_tmp hq) (by decide) hAM (fun y hy => by obtain ⟨i', hy⟩ := e4 y hy; exact fins_stays hy) p2 (fins_stays (i := 3) (sb := sb) (by simp [fins])) ?_)
    intro w2 g1 g2 g3 g4
    exact h.ins (by simp [fins]) hL0 e1 hm e3 e4 g1 g2 g4
  · skip
    refine wpOp_run (by rfl) rfl (wp_value (w1 := w') (v := .func (.func 87) #[] #[.pointer (some ⟨w.heap.size, 0, none⟩)]) rfl (by first | (go_simp; done) | (go_simp; rfl)) (h.put hi0 (by decide) rfl (by decide) (by decide) (Below.refl _ _) (fun hh => absurd hh (by decide)) _ (fun m' e' => ⟨_, rfl, h.bk⟩)))
  · skip
    obtain ⟨u, q4, p4⟩ := e1 4 6 rfl (ready_dep 4 hi (by kernel_rfl))
    have hq := q4
    obtain ⟨bx, rfl, hbx⟩ := p4
    refine wpOp_run (by rfl) rfl (wp_value (w1 := w') (v := .agg #[.int .i64 5, .bool false, .func (.func 87) #[] #[.pointer (some ⟨bx, 0, none⟩)]]) rfl (by first | (go_simp; done) | (go_simp; rfl)) (h.put hi0 (by decide) rfl (by decide) (by decide) (Below.refl _ _) (fun hh => absurd hh (by decide)) _ (fun m' e' => ⟨_, rfl, ⟨_, rfl, hbx⟩⟩)))
  · skip
    obtain ⟨u0, q0, p0⟩ := e1 0 3 rfl (ready_dep 0 hi (by kernel_rfl))
    obtain ⟨u, q5, p5⟩ := e1 5 7 rfl (ready_dep 5 hi (by kernel_rfl))
    have hu : u0 = .map (some m) := p0
    subst hu
    have hq0 := q0
    have hq := q5
    have hL0 := ready_dep 0 hi (by kernel_rfl)
    obtain ⟨hm, hAM⟩ := e2 hL0
    refine wpOp_run (by rfl) rfl (wp_ins (k := 9) (e := 128) (m := m) (key := ⟨#[97, 99, 99, 111, 117, 110, 116]⟩) (p := clP sb 5 87) rfl rfl Tryz.underlying9 Tryz.underlying130 (eval_tmp hq0) rfl (eval_tmp hq) (by decide) hAM (fun y hy => by obtain ⟨i', hy⟩ := e4 y hy; exact fins_stays hy) p5 (fins_stays (i := 6) (sb := sb) (by simp [fins])) ?_)
    intro w2 g1 g2 g3 g4
    exact h.ins (by simp [fins]) hL0 e1 hm e3 e4 g1 g2 g4
  · skip
    refine wpOp_run (by rfl) rfl (wp_value (w1 := w') (v := .func (.func 89) #[] #[.pointer (some ⟨w.heap.size, 0, none⟩)]) rfl (by first | (go_simp; done) | (go_simp; rfl)) (h.put hi0 (by decide) rfl (by decide) (by decide) (Below.refl _ _) (fun hh => absurd hh (by decide)) _ (fun m' e' => ⟨_, rfl, h.bk⟩)))
  · skip
    obtain ⟨u, q7, p7⟩ := e1 7 8 rfl (ready_dep 7 hi (by kernel_rfl))
    have hq := q7
    obtain ⟨bx, rfl, hbx⟩ := p7
    refine wpOp_run (by rfl) rfl (wp_value (w1 := w') (v := .agg #[.int .i64 1, .bool false, .func (.func 89) #[] #[.pointer (some ⟨bx, 0, none⟩)]]) rfl (by first | (go_simp; done) | (go_simp; rfl)) (h.put hi0 (by decide) rfl (by decide) (by decide) (Below.refl _ _) (fun hh => absurd hh (by decide)) _ (fun m' e' => ⟨_, rfl, ⟨_, rfl, hbx⟩⟩)))
  · skip
    obtain ⟨u0, q0, p0⟩ := e1 0 3 rfl (ready_dep 0 hi (by kernel_rfl))
    obtain ⟨u, q8, p8⟩ := e1 8 9 rfl (ready_dep 8 hi (by kernel_rfl))
    have hu : u0 = .map (some m) := p0
    subst hu
    have hq0 := q0
    have hq := q8
    have hL0 := ready_dep 0 hi (by kernel_rfl)
    obtain ⟨hm, hAM⟩ := e2 hL0
    refine wpOp_run (by rfl) rfl (wp_ins (k := 9) (e := 128) (m := m) (key := ⟨#[115, 101, 115, 115, 105, 111, 110]⟩) (p := clP sb 1 89) rfl rfl Tryz.underlying9 Tryz.underlying130 (eval_tmp hq0) rfl (eval_tmp hq) (by decide) hAM (fun y hy => by obtain ⟨i', hy⟩ := e4 y hy; exact fins_stays hy) p8 (fins_stays (i := 9) (sb := sb) (by simp [fins])) ?_)
    intro w2 g1 g2 g3 g4
    exact h.ins (by simp [fins]) hL0 e1 hm e3 e4 g1 g2 g4
  · skip
    have hc := show w'.cell? ⟨w.heap.size, 0, none⟩ = some (.pointer (some ⟨sb, 0, none⟩)) from (blk_cell h.bk 0).trans rfl
    have hf := blk_frozen h.bk 0
    refine wpOp_run (by rfl) rfl (wp_value (w1 := w') (v := .pointer (some ⟨sb, 0, none⟩)) rfl (by first | (go_simp; done) | (go_simp; rfl)) (h.put hi0 (by decide) rfl (by decide) (by decide) (Below.refl _ _) (fun hh => absurd hh (by decide)) _ (fun m' e' => rfl)))
  · skip
    obtain ⟨u, q10, p10⟩ := e1 10 10 rfl (ready_dep 10 hi (by kernel_rfl))
    have hu : u = .pointer (some ⟨sb, 0, none⟩) := p10
    subst hu
    have hq := q10
    refine wpOp_run (by rfl) rfl (wp_goes (f := 90) Tryz.func90 (by kernel_rfl) rfl #[.pointer (some ⟨sb, 0, none⟩), .int .i64 2, .bool false] rfl rfl (by rfl) (by simp [Act.eval, hq]) ?_)
    refine (event_calls sb 2 false w').mono ?_
    rintro e w2 ⟨v, rfl, hv, hb⟩
    exact ⟨v, rfl, h.put hi0 (by decide) rfl (by decide) (by decide) hb (fun hh => absurd hh (by decide)) _ (fun m' e' => hv)⟩
  · skip
    obtain ⟨u, q11, p11⟩ := e1 11 11 rfl (ready_dep 11 hi (by kernel_rfl))
    have hq := q11
    obtain ⟨kb, pb, cb, rfl, hv⟩ := p11
    refine wpOp_run (by rfl) rfl (wp_value (w1 := w') (v := .agg #[.int .i64 0, .bool true, .func (.func 112) #[] #[.pointer (some ⟨kb, 0, none⟩), .pointer (some ⟨pb, 0, none⟩), .pointer (some ⟨cb, 0, none⟩)]]) rfl (by first | (go_simp; done) | (go_simp; rfl)) (h.put hi0 (by decide) rfl (by decide) (by decide) (Below.refl _ _) (fun hh => absurd hh (by decide)) _ (fun m' e' => ⟨_, rfl, ⟨_, _, _, rfl, hv⟩⟩)))
  · skip
    obtain ⟨u0, q0, p0⟩ := e1 0 3 rfl (ready_dep 0 hi (by kernel_rfl))
    obtain ⟨u, q12, p12⟩ := e1 12 12 rfl (ready_dep 12 hi (by kernel_rfl))
    have hu : u0 = .map (some m) := p0
    subst hu
    have hq0 := q0
    have hq := q12
    have hL0 := ready_dep 0 hi (by kernel_rfl)
    obtain ⟨hm, hAM⟩ := e2 hL0
    refine wpOp_run (by rfl) rfl (wp_ins (k := 9) (e := 128) (m := m) (key := ⟨#[116, 105, 99, 107]⟩) (p := evP sb 0 2 false) rfl rfl Tryz.underlying9 Tryz.underlying130 (eval_tmp hq0) rfl (eval_tmp hq) (by decide) hAM (fun y hy => by obtain ⟨i', hy⟩ := e4 y hy; exact fins_stays hy) p12 (fins_stays (i := 13) (sb := sb) (by simp [fins])) ?_)
    intro w2 g1 g2 g3 g4
    exact h.ins (by simp [fins]) hL0 e1 hm e3 e4 g1 g2 g4
  · skip
    have hc := show w'.cell? ⟨w.heap.size, 0, none⟩ = some (.pointer (some ⟨sb, 0, none⟩)) from (blk_cell h.bk 0).trans rfl
    have hf := blk_frozen h.bk 0
    refine wpOp_run (by rfl) rfl (wp_value (w1 := w') (v := .pointer (some ⟨sb, 0, none⟩)) rfl (by first | (go_simp; done) | (go_simp; rfl)) (h.put hi0 (by decide) rfl (by decide) (by decide) (Below.refl _ _) (fun hh => absurd hh (by decide)) _ (fun m' e' => rfl)))
  · skip
    obtain ⟨u, q14, p14⟩ := e1 14 13 rfl (ready_dep 14 hi (by kernel_rfl))
    have hu : u = .pointer (some ⟨sb, 0, none⟩) := p14
    subst hu
    have hq := q14
    refine wpOp_run (by rfl) rfl (wp_goes (f := 90) Tryz.func90 (by kernel_rfl) rfl #[.pointer (some ⟨sb, 0, none⟩), .int .i64 3, .bool true] rfl rfl (by rfl) (by simp [Act.eval, hq]) ?_)
    refine (event_calls sb 3 true w').mono ?_
    rintro e w2 ⟨v, rfl, hv, hb⟩
    exact ⟨v, rfl, h.put hi0 (by decide) rfl (by decide) (by decide) hb (fun hh => absurd hh (by decide)) _ (fun m' e' => hv)⟩
  · skip
    obtain ⟨u, q15, p15⟩ := e1 15 14 rfl (ready_dep 15 hi (by kernel_rfl))
    have hq := q15
    obtain ⟨kb, pb, cb, rfl, hv⟩ := p15
    refine wpOp_run (by rfl) rfl (wp_value (w1 := w') (v := .agg #[.int .i64 1, .bool true, .func (.func 112) #[] #[.pointer (some ⟨kb, 0, none⟩), .pointer (some ⟨pb, 0, none⟩), .pointer (some ⟨cb, 0, none⟩)]]) rfl (by first | (go_simp; done) | (go_simp; rfl)) (h.put hi0 (by decide) rfl (by decide) (by decide) (Below.refl _ _) (fun hh => absurd hh (by decide)) _ (fun m' e' => ⟨_, rfl, ⟨_, _, _, rfl, hv⟩⟩)))
  · skip
    obtain ⟨u0, q0, p0⟩ := e1 0 3 rfl (ready_dep 0 hi (by kernel_rfl))
    obtain ⟨u, q16, p16⟩ := e1 16 15 rfl (ready_dep 16 hi (by kernel_rfl))
    have hu : u0 = .map (some m) := p0
    subst hu
    have hq0 := q0
    have hq := q16
    have hL0 := ready_dep 0 hi (by kernel_rfl)
    obtain ⟨hm, hAM⟩ := e2 hL0
    refine wpOp_run (by rfl) rfl (wp_ins (k := 9) (e := 128) (m := m) (key := ⟨#[118, 97, 99, 117, 117, 109]⟩) (p := evP sb 1 3 true) rfl rfl Tryz.underlying9 Tryz.underlying130 (eval_tmp hq0) rfl (eval_tmp hq) (by decide) hAM (fun y hy => by obtain ⟨i', hy⟩ := e4 y hy; exact fins_stays hy) p16 (fins_stays (i := 17) (sb := sb) (by simp [fins])) ?_)
    intro w2 g1 g2 g3 g4
    exact h.ins (by simp [fins]) hL0 e1 hm e3 e4 g1 g2 g4
  · skip
    have hc := show w'.cell? ⟨w.heap.size, 0, none⟩ = some (.pointer (some ⟨sb, 0, none⟩)) from (blk_cell h.bk 0).trans rfl
    have hf := blk_frozen h.bk 0
    refine wpOp_run (by rfl) rfl (wp_value (w1 := w') (v := .pointer (some ⟨sb, 0, none⟩)) rfl (by first | (go_simp; done) | (go_simp; rfl)) (h.put hi0 (by decide) rfl (by decide) (by decide) (Below.refl _ _) (fun hh => absurd hh (by decide)) _ (fun m' e' => rfl)))
  · skip
    obtain ⟨u, q18, p18⟩ := e1 18 16 rfl (ready_dep 18 hi (by kernel_rfl))
    have hu : u = .pointer (some ⟨sb, 0, none⟩) := p18
    subst hu
    have hq := q18
    refine wpOp_run (by rfl) rfl (wp_goes (f := 90) Tryz.func90 (by kernel_rfl) rfl #[.pointer (some ⟨sb, 0, none⟩), .int .i64 4, .bool true] rfl rfl (by rfl) (by simp [Act.eval, hq]) ?_)
    refine (event_calls sb 4 true w').mono ?_
    rintro e w2 ⟨v, rfl, hv, hb⟩
    exact ⟨v, rfl, h.put hi0 (by decide) rfl (by decide) (by decide) hb (fun hh => absurd hh (by decide)) _ (fun m' e' => hv)⟩
  · skip
    obtain ⟨u, q19, p19⟩ := e1 19 17 rfl (ready_dep 19 hi (by kernel_rfl))
    have hq := q19
    obtain ⟨kb, pb, cb, rfl, hv⟩ := p19
    refine wpOp_run (by rfl) rfl (wp_value (w1 := w') (v := .agg #[.int .i64 1, .bool true, .func (.func 112) #[] #[.pointer (some ⟨kb, 0, none⟩), .pointer (some ⟨pb, 0, none⟩), .pointer (some ⟨cb, 0, none⟩)]]) rfl (by first | (go_simp; done) | (go_simp; rfl)) (h.put hi0 (by decide) rfl (by decide) (by decide) (Below.refl _ _) (fun hh => absurd hh (by decide)) _ (fun m' e' => ⟨_, rfl, ⟨_, _, _, rfl, hv⟩⟩)))
  · skip
    obtain ⟨u0, q0, p0⟩ := e1 0 3 rfl (ready_dep 0 hi (by kernel_rfl))
    obtain ⟨u, q20, p20⟩ := e1 20 18 rfl (ready_dep 20 hi (by kernel_rfl))
    have hu : u0 = .map (some m) := p0
    subst hu
    have hq0 := q0
    have hq := q20
    have hL0 := ready_dep 0 hi (by kernel_rfl)
    obtain ⟨hm, hAM⟩ := e2 hL0
    refine wpOp_run (by rfl) rfl (wp_ins (k := 9) (e := 128) (m := m) (key := ⟨#[99, 104, 101, 99, 107, 112, 111, 105, 110, 116]⟩) (p := evP sb 1 4 true) rfl rfl Tryz.underlying9 Tryz.underlying130 (eval_tmp hq0) rfl (eval_tmp hq) (by decide) hAM (fun y hy => by obtain ⟨i', hy⟩ := e4 y hy; exact fins_stays hy) p20 (fins_stays (i := 21) (sb := sb) (by simp [fins])) ?_)
    intro w2 g1 g2 g3 g4
    exact h.ins (by simp [fins]) hL0 e1 hm e3 e4 g1 g2 g4
  · skip
    have hc := show w'.cell? ⟨w.heap.size, 0, none⟩ = some (.pointer (some ⟨sb, 0, none⟩)) from (blk_cell h.bk 0).trans rfl
    have hf := blk_frozen h.bk 0
    refine wpOp_run (by rfl) rfl (wp_value (w1 := w') (v := .pointer (some ⟨sb, 0, none⟩)) rfl (by first | (go_simp; done) | (go_simp; rfl)) (h.put hi0 (by decide) rfl (by decide) (by decide) (Below.refl _ _) (fun hh => absurd hh (by decide)) _ (fun m' e' => rfl)))
  · skip
    obtain ⟨u, q22, p22⟩ := e1 22 19 rfl (ready_dep 22 hi (by kernel_rfl))
    have hu : u = .pointer (some ⟨sb, 0, none⟩) := p22
    subst hu
    have hq := q22
    refine wpOp_run (by rfl) rfl (wp_goes (f := 90) Tryz.func90 (by kernel_rfl) rfl #[.pointer (some ⟨sb, 0, none⟩), .int .i64 5, .bool false] rfl rfl (by rfl) (by simp [Act.eval, hq]) ?_)
    refine (event_calls sb 5 false w').mono ?_
    rintro e w2 ⟨v, rfl, hv, hb⟩
    exact ⟨v, rfl, h.put hi0 (by decide) rfl (by decide) (by decide) hb (fun hh => absurd hh (by decide)) _ (fun m' e' => hv)⟩
  · skip
    obtain ⟨u, q23, p23⟩ := e1 23 20 rfl (ready_dep 23 hi (by kernel_rfl))
    have hq := q23
    obtain ⟨kb, pb, cb, rfl, hv⟩ := p23
    refine wpOp_run (by rfl) rfl (wp_value (w1 := w') (v := .agg #[.int .i64 0, .bool true, .func (.func 112) #[] #[.pointer (some ⟨kb, 0, none⟩), .pointer (some ⟨pb, 0, none⟩), .pointer (some ⟨cb, 0, none⟩)]]) rfl (by first | (go_simp; done) | (go_simp; rfl)) (h.put hi0 (by decide) rfl (by decide) (by decide) (Below.refl _ _) (fun hh => absurd hh (by decide)) _ (fun m' e' => ⟨_, rfl, ⟨_, _, _, rfl, hv⟩⟩)))
  · skip
    obtain ⟨u0, q0, p0⟩ := e1 0 3 rfl (ready_dep 0 hi (by kernel_rfl))
    obtain ⟨u, q24, p24⟩ := e1 24 21 rfl (ready_dep 24 hi (by kernel_rfl))
    have hu : u0 = .map (some m) := p0
    subst hu
    have hq0 := q0
    have hq := q24
    have hL0 := ready_dep 0 hi (by kernel_rfl)
    obtain ⟨hm, hAM⟩ := e2 hL0
    refine wpOp_run (by rfl) rfl (wp_ins (k := 9) (e := 128) (m := m) (key := ⟨#[105, 100, 108, 101]⟩) (p := evP sb 0 5 false) rfl rfl Tryz.underlying9 Tryz.underlying130 (eval_tmp hq0) rfl (eval_tmp hq) (by decide) hAM (fun y hy => by obtain ⟨i', hy⟩ := e4 y hy; exact fins_stays hy) p24 (fins_stays (i := 25) (sb := sb) (by simp [fins])) ?_)
    intro w2 g1 g2 g3 g4
    exact h.ins (by simp [fins]) hL0 e1 hm e3 e4 g1 g2 g4
  · skip
    obtain ⟨u, q0, p0⟩ := e1 0 3 rfl (ready_dep 0 hi (by kernel_rfl))
    have hu : u = .map (some m) := p0
    subst hu
    have hq := q0
    refine wpOp_run (by rfl) rfl (wp_value (w1 := w') (v := .map (some m)) rfl (by first | (go_simp; done) | (go_simp; rfl)) (h.put hi0 (by decide) rfl (by decide) (by decide) (Below.refl _ _) (fun _ => ready_dep 0 hi (by kernel_rfl)) _ (fun m' e' => ?_)))
    obtain ⟨v', q', p'⟩ := e' 0 3 rfl (ready_dep 0 hi (by kernel_rfl))
    rw [q0] at q'
    rw [Option.some.inj q']
    exact p'
  skip
  obtain ⟨u, q26, p26⟩ := e1 26 22 rfl (ready_dep 26 hi (by kernel_rfl))
  have hu : u = .map (some m) := p26
  subst hu
  have hq := q26
  refine wpOp_run (by rfl) rfl (wp_value (w1 := w') (v := .map (some m)) rfl (by first | (go_simp; done) | (go_simp; rfl)) (h.put hi0 (by decide) rfl (by decide) (by decide) (Below.refl _ _) (fun _ => ready_dep 0 hi (by kernel_rfl)) _ (fun m' e' => ?_)))
  obtain ⟨v', q', p'⟩ := e' 26 22 rfl (ready_dep 26 hi (by kernel_rfl))
  rw [q26] at q'
  rw [Option.some.inj q']
  exact p'
abbrev Rd : Type := List ByteArray → Stt → Option Stt
def rdLabel : Rd := fun ws s => match ws with | [x] => (sc.labelOf x).map fun (n : Nat) => (s.1 ++ [(n : Int)], s.2.1, s.2.2.1, s.2.2.2) | _ => none
def rdAccount : Rd := fun ws s => match ws with | [a, b, c, d, f] => (accOf a b c d f).map fun n => (s.1, s.2.1 ++ [n], s.2.2.1, s.2.2.2) | _ => none
def rdSession : Rd := fun ws s => match ws with | [x] => (sc.numOf x).map fun n => (s.1, s.2.1, s.2.2.1 ++ [n], s.2.2.2) | _ => none
def addEv (s : Stt) (x : S52) : Stt := (s.1, s.2.1, s.2.2.1, s.2.2.2 ++ [x])
def rdEvent (kind : Int) (placed : Bool) : Rd := fun ws s => (evOf kind placed ws).map (addEv s)
def rdAsk : Rd := fun ws s => match ws with | [a, _] => ((sc.numOf a).map fun n => askEv n 1 0 0 0 ⟨#[]⟩ ⟨#[]⟩ [] 0).map (addEv s) | _ => none
def rdAskB (kind : Int) : Rd := fun ws s => match ws with | [a, _, c, d] => (askB kind a c d).map (addEv s) | _ => none
def rdGet (kind : Int) : Rd := fun ws s => match ws with | [a, _, c, d, p, k] => (askGet kind a c d p k).map (addEv s) | _ => none
def rdPut (kind : Int) : Rd := fun ws s => match ws with | [a, _, c, d, p, k, x] => (askPut kind a c d p k x).map (addEv s) | _ => none
def rdScan (kind : Int) : Rd := fun ws s => match ws with | [a, _, c, d, p, k, x, z] => (askScan kind a c d p k x z).map (addEv s) | _ => none
def formOf (k : ByteArray) : Option (Int × Bool × Rd) :=
 if k = (⟨#[108, 97, 98, 101, 108]⟩ : ByteArray) then some (1, false, rdLabel) else if k = (⟨#[97, 99, 99, 111, 117, 110, 116]⟩ : ByteArray) then some (5, false, rdAccount) else if k = (⟨#[115, 101, 115, 115, 105, 111, 110]⟩ : ByteArray) then some (1, false, rdSession) else if k = (⟨#[116, 105, 99, 107]⟩ : ByteArray) then some (0, true, rdEvent 2 false) else if k = (⟨#[118, 97, 99, 117, 117, 109]⟩ : ByteArray) then some (1, true, rdEvent 3 true) else if k = (⟨#[99, 104, 101, 99, 107, 112, 111, 105, 110, 116]⟩ : ByteArray) then some (1, true, rdEvent 4 true) else if k = (⟨#[105, 100, 108, 101]⟩ : ByteArray) then some (0, true, rdEvent 5 false) else none
def askOf (k : ByteArray) : Option (Int × Bool × Rd) :=
 if k = (⟨#[98, 101, 103, 105, 110]⟩ : ByteArray) then some (2, false, rdAsk) else if k = (⟨#[103, 101, 116]⟩ : ByteArray) then some (6, false, rdGet 2) else if k = (⟨#[115, 99, 97, 110]⟩ : ByteArray) then some (8, false, rdScan 3) else if k = (⟨#[112, 117, 116]⟩ : ByteArray) then some (7, false, rdPut 4) else if k = (⟨#[100, 101, 108, 101, 116, 101]⟩ : ByteArray) then some (6, false, rdGet 5) else if k = (⟨#[99, 111, 109, 109, 105, 116]⟩ : ByteArray) then some (4, false, rdAskB 6) else if k = (⟨#[97, 98, 111, 114, 116]⟩ : ByteArray) then some (4, false, rdAskB 7) else none
def lineOf (ws : List ByteArray) (s : Stt) : Int × Option Stt :=
 match (if hd0 ws = (⟨#[97, 115, 107]⟩ : ByteArray) ∧ 2 < ws.length then askOf (ws.getD 2 ⟨#[]⟩) else formOf (hd0 ws)) with
 | none => (260, none)
 | some (n, more, rd) => if (ws.tail.length : Int) < n ∨ ((ws.tail.length : Int) > n ∧ more = false) then (260, none) else match rd ws.tail s with
  | none => (261, none)
  | some s' => (0, some s')
inductive RD (sb : Nat) (w : World) : Value → Int → Bool → Rd → Prop where
 | label (c : Value) (h : boxP sb 85 w c) : RD sb w c 1 false rdLabel
 | account (c : Value) (h : boxP sb 87 w c) : RD sb w c 5 false rdAccount
 | session (c : Value) (h : boxP sb 89 w c) : RD sb w c 1 false rdSession
 | plain (c : Value) (kind : Int) (h : EvC w sb kind false c) : RD sb w c 0 true (rdEvent kind false)
 | placed (c : Value) (kind : Int) (h : EvC w sb kind true c) : RD sb w c 1 true (rdEvent kind true)
 | ask (c : Value) (h : AskC w sb 1 .nilFunc c) : RD sb w c 2 false rdAsk
 | askB (c : Value) (kind : Int) (hk : kind ≠ 1) (h : AskC w sb kind .nilFunc c) : RD sb w c 4 false (rdAskB kind)
 | get (c : Value) (kind : Int) (q : Nat) (hq : q = 92 ∨ q = 96) (hk : kind ≠ 1) (h : AskC w sb kind (.func (.func q) #[] #[]) c) : RD sb w c 6 false (rdGet kind)
 | put (c : Value) (kind : Int) (hk : kind ≠ 1) (h : AskC w sb kind (.func (.func 95) #[] #[]) c) : RD sb w c 7 false (rdPut kind)
 | scan (c : Value) (kind : Int) (hk : kind ≠ 1) (h : AskC w sb kind (.func (.func 93) #[] #[]) c) : RD sb w c 8 false (rdScan kind)
theorem RD.kc {sb : Nat} {w w1 : World} {c : Value} {n : Int} {more : Bool} {rd : Rd} (h : RD sb w c n more rd) (hk : KC w w1) : RD sb w1 c n more rd := by
 cases h with
 | label h => exact .label _ (h.kc hk)
 | account h => exact .account _ (h.kc hk)
 | session h => exact .session _ (h.kc hk)
 | plain kind h => exact .plain _ _ (h.kc hk)
 | placed kind h => exact .placed _ _ (h.kc hk)
 | ask h => exact .ask _ (h.kc hk)
 | askB kind hq h => exact .askB _ _ hq (h.kc hk)
 | get kind q hq hk' h => exact .get _ _ q hq hk' (h.kc hk)
 | put kind hq h => exact .put _ _ hq (h.kc hk)
 | scan kind hq h => exact .scan _ _ hq (h.kc hk)
def Look (sb : Nat) (w : World) (o : Option (Int × Bool × Rd)) (v : Value) (is : Bool) : Prop := match o with
 | none => v = .agg #[.int .i64 0, .bool false, .nilFunc] ∧ is = false
 | some (n, more, rd) => (∃ c, v = .agg #[.int .i64 n, .bool more, c] ∧ RD sb w c n more rd) ∧ is = true
theorem form_look {sb m : Nat} {w : World} (h : AM w m (formTab sb)) (k : ByteArray) (hk : k.size ≤ maxLen) : ∃ v is, (Instr.lookup 130 (.map (some m)) (.string k) true).run Tryz.prog w = .ok (.tuple #[v, .bool is]) w ∧ Look sb w (formOf k) v is := by
 obtain ⟨f, n, h1, h2, h3⟩ := h
 have hz : (zeroValue 128).run Tryz.prog w = .ok (.agg #[.int .i64 0, .bool false, .nilFunc]) w := by kernel_rfl
 refine ⟨_, _, h1.look (k := 9) (e := 128) Tryz.underlying9 Tryz.underlying130 hz hk, ?_⟩
 cases hf : f k with
 | none =>
  have hn : ∀ x ∈ formTab sb, k ≠ x.1 := fun x hx e => by
   have := h3 x hx
   rw [← e, hf] at this
   cases this
  have : formOf k = none := by
   unfold formOf
   simp only [formTab, fins, List.map_cons, List.map_nil, List.mem_cons, List.not_mem_nil, or_false, forall_eq_or_imp, forall_eq] at hn
   obtain ⟨n0, n1, n2, n3, n4, n5, n6⟩ := hn
   simp only [n0, n1, n2, n3, n4, n5, n6, if_false]
  rw [this]
  exact ⟨rfl, rfl⟩
 | some v =>
  obtain ⟨x, hx, e, hv⟩ := h2 k v hf
  simp only [formTab, fins, List.map_cons, List.map_nil, List.mem_cons, List.not_mem_nil, or_false] at hx
  rcases hx with rfl | rfl | rfl | rfl | rfl | rfl | rfl
  · obtain ⟨c, rfl, hc⟩ := hv
    rw [← e, show formOf (⟨#[108, 97, 98, 101, 108]⟩ : ByteArray) = some (1, false, rdLabel) from rfl]
    exact ⟨⟨c, rfl, .label _ hc⟩, rfl⟩
  · obtain ⟨c, rfl, hc⟩ := hv
    rw [← e, show formOf (⟨#[97, 99, 99, 111, 117, 110, 116]⟩ : ByteArray) = some (5, false, rdAccount) from rfl]
    exact ⟨⟨c, rfl, .account _ hc⟩, rfl⟩
  · obtain ⟨c, rfl, hc⟩ := hv
    rw [← e, show formOf (⟨#[115, 101, 115, 115, 105, 111, 110]⟩ : ByteArray) = some (1, false, rdSession) from rfl]
    exact ⟨⟨c, rfl, .session _ hc⟩, rfl⟩
  · obtain ⟨c, rfl, hc⟩ := hv
    rw [← e, show formOf (⟨#[116, 105, 99, 107]⟩ : ByteArray) = some (0, true, rdEvent 2 false) from rfl]
    exact ⟨⟨c, rfl, .plain _ _ hc⟩, rfl⟩
  · obtain ⟨c, rfl, hc⟩ := hv
    rw [← e, show formOf (⟨#[118, 97, 99, 117, 117, 109]⟩ : ByteArray) = some (1, true, rdEvent 3 true) from rfl]
    exact ⟨⟨c, rfl, .placed _ _ hc⟩, rfl⟩
  · obtain ⟨c, rfl, hc⟩ := hv
    rw [← e, show formOf (⟨#[99, 104, 101, 99, 107, 112, 111, 105, 110, 116]⟩ : ByteArray) = some (1, true, rdEvent 4 true) from rfl]
    exact ⟨⟨c, rfl, .placed _ _ hc⟩, rfl⟩
  obtain ⟨c, rfl, hc⟩ := hv
  rw [← e, show formOf (⟨#[105, 100, 108, 101]⟩ : ByteArray) = some (0, true, rdEvent 5 false) from rfl]
  exact ⟨⟨c, rfl, .plain _ _ hc⟩, rfl⟩
theorem ask_look {sb m : Nat} {w : World} (h : AM w m (askTab sb)) (k : ByteArray) (hk : k.size ≤ maxLen) : ∃ v is, (Instr.lookup 130 (.map (some m)) (.string k) true).run Tryz.prog w = .ok (.tuple #[v, .bool is]) w ∧ Look sb w (askOf k) v is := by
 obtain ⟨f, n, h1, h2, h3⟩ := h
 have hz : (zeroValue 128).run Tryz.prog w = .ok (.agg #[.int .i64 0, .bool false, .nilFunc]) w := by kernel_rfl
 refine ⟨_, _, h1.look (k := 9) (e := 128) Tryz.underlying9 Tryz.underlying130 hz hk, ?_⟩
 cases hf : f k with
 | none =>
  have hn : ∀ x ∈ askTab sb, k ≠ x.1 := fun x hx e => by
   have := h3 x hx
   rw [← e, hf] at this
   cases this
  have : askOf k = none := by
   unfold askOf
   simp only [askTab, List.mem_cons, List.not_mem_nil, or_false, forall_eq_or_imp, forall_eq] at hn
   obtain ⟨n0, n1, n2, n3, n4, n5, n6⟩ := hn
   simp only [n0, n1, n2, n3, n4, n5, n6, if_false]
  rw [this]
  exact ⟨rfl, rfl⟩
 | some v =>
  obtain ⟨x, hx, e, hv⟩ := h2 k v hf
  simp only [askTab, List.mem_cons, List.not_mem_nil, or_false] at hx
  rcases hx with rfl | rfl | rfl | rfl | rfl | rfl | rfl
  · obtain ⟨c, rfl, hc⟩ := hv
    rw [← e, show askOf (⟨#[97, 98, 111, 114, 116]⟩ : ByteArray) = some (4, false, rdAskB 7) from rfl]
    exact ⟨⟨c, rfl, .askB _ _ (by decide) hc⟩, rfl⟩
  · obtain ⟨c, rfl, hc⟩ := hv
    rw [← e, show askOf (⟨#[99, 111, 109, 109, 105, 116]⟩ : ByteArray) = some (4, false, rdAskB 6) from rfl]
    exact ⟨⟨c, rfl, .askB _ _ (by decide) hc⟩, rfl⟩
  · obtain ⟨c, rfl, hc⟩ := hv
    rw [← e, show askOf (⟨#[100, 101, 108, 101, 116, 101]⟩ : ByteArray) = some (6, false, rdGet 5) from rfl]
    exact ⟨⟨c, rfl, .get _ _ _ (by decide) (by decide) hc⟩, rfl⟩
  · obtain ⟨c, rfl, hc⟩ := hv
    rw [← e, show askOf (⟨#[112, 117, 116]⟩ : ByteArray) = some (7, false, rdPut 4) from rfl]
    exact ⟨⟨c, rfl, .put _ _ (by decide) hc⟩, rfl⟩
  · obtain ⟨c, rfl, hc⟩ := hv
    rw [← e, show askOf (⟨#[115, 99, 97, 110]⟩ : ByteArray) = some (8, false, rdScan 3) from rfl]
    exact ⟨⟨c, rfl, .scan _ _ (by decide) hc⟩, rfl⟩
  · obtain ⟨c, rfl, hc⟩ := hv
    rw [← e, show askOf (⟨#[103, 101, 116]⟩ : ByteArray) = some (6, false, rdGet 2) from rfl]
    exact ⟨⟨c, rfl, .get _ _ _ (by decide) (by decide) hc⟩, rfl⟩
  obtain ⟨c, rfl, hc⟩ := hv
  rw [← e, show askOf (⟨#[98, 101, 103, 105, 110]⟩ : ByteArray) = some (2, false, rdAsk) from rfl]
  exact ⟨⟨c, rfl, .ask _ hc⟩, rfl⟩
theorem len1 (ws : List ByteArray) (h : ws.length = 1) : ∃ x0, ws = [x0] := by
 match ws, h with
 | [x0], _ => exact ⟨x0, rfl⟩
theorem len2 (ws : List ByteArray) (h : ws.length = 2) : ∃ x0 x1, ws = [x0, x1] := by
 match ws, h with
 | [x0, x1], _ => exact ⟨x0, x1, rfl⟩
theorem len4 (ws : List ByteArray) (h : ws.length = 4) : ∃ x0 x1 x2 x3, ws = [x0, x1, x2, x3] := by
 match ws, h with
 | [x0, x1, x2, x3], _ => exact ⟨x0, x1, x2, x3, rfl⟩
theorem len5 (ws : List ByteArray) (h : ws.length = 5) : ∃ x0 x1 x2 x3 x4, ws = [x0, x1, x2, x3, x4] := by
 match ws, h with
 | [x0, x1, x2, x3, x4], _ => exact ⟨x0, x1, x2, x3, x4, rfl⟩
theorem len6 (ws : List ByteArray) (h : ws.length = 6) : ∃ x0 x1 x2 x3 x4 x5, ws = [x0, x1, x2, x3, x4, x5] := by
 match ws, h with
 | [x0, x1, x2, x3, x4, x5], _ => exact ⟨x0, x1, x2, x3, x4, x5, rfl⟩
theorem len7 (ws : List ByteArray) (h : ws.length = 7) : ∃ x0 x1 x2 x3 x4 x5 x6, ws = [x0, x1, x2, x3, x4, x5, x6] := by
 match ws, h with
 | [x0, x1, x2, x3, x4, x5, x6], _ => exact ⟨x0, x1, x2, x3, x4, x5, x6, rfl⟩
theorem len8 (ws : List ByteArray) (h : ws.length = 8) : ∃ x0 x1 x2 x3 x4 x5 x6 x7, ws = [x0, x1, x2, x3, x4, x5, x6, x7] := by
 match ws, h with
 | [x0, x1, x2, x3, x4, x5, x6, x7], _ => exact ⟨x0, x1, x2, x3, x4, x5, x6, x7, rfl⟩
def RDShape (f : Nat) (caps : List Value) : Prop := (∃ cb, (f = 85 ∨ f = 87 ∨ f = 89) ∧ caps = [.pointer (some ⟨cb, 0, none⟩)]) ∨ ∃ a b d, (f = 112 ∨ f = 114) ∧ caps = [.pointer (some ⟨a, 0, none⟩), .pointer (some ⟨b, 0, none⟩), .pointer (some ⟨d, 0, none⟩)]
theorem RD.calls {W w0 w : World} {rb sb : Nat} {vl v0 v1 v2 v3 c : Value} {lines ws : List ByteArray} {s : Stt} {n : Int} {more : Bool} {rd : Rd} (h : RD sb w c n more rd)
 (hctx : ∀ cb, w.heap[cb]? = some (.cells #[.pointer (some ⟨sb, 0, none⟩)] 87 (0, 0)) → Ctx W w0 w cb rb sb ws false vl v0 v1 v2 v3 lines s.1 s.2.1 s.2.2.1 s.2.2.2) (hs : ∀ y ∈ ws, y.size ≤ 65536) (hn : ws.length ≤ 1000000)
 (hl : s.1.length ≤ 100000 ∧ s.2.1.length ≤ 100000 ∧ s.2.2.1.length ≤ 100000 ∧ s.2.2.2.length ≤ 100000) (hlen : ¬ ((ws.length : Int) < n ∨ ((ws.length : Int) > n ∧ more = false))) :
 ∃ f caps, c = .func (.func f) #[] caps.toArray ∧ RDShape f caps ∧ Calls Tryz.prog f (.pointer (some ⟨rb, 0, none⟩) :: caps).toArray w fun e w' => e = .returned (.tuple #[]) ∧ LineOut W w' rb sb vl lines (rd ws s) := by
 obtain ⟨hl0, hl1, hl2, hl3⟩ := hl
 cases h with
 | label h =>
  obtain ⟨x0, rfl⟩ := len1 ws (by simp at hlen; omega)
  obtain ⟨cb, rfl, hb⟩ := h
  exact ⟨_, [_], rfl, .inl ⟨cb, by decide, rfl⟩, forms1_calls W w0 w cb rb sb vl v0 v1 v2 v3 lines s.1 s.2.1 s.2.2.1 s.2.2.2 _ (hctx cb hb) (hs _ (List.mem_singleton.2 rfl)) hl0⟩
 | account h =>
  obtain ⟨x0, x1, x2, x3, x4, rfl⟩ := len5 ws (by simp at hlen; omega)
  obtain ⟨cb, rfl, hb⟩ := h
  exact ⟨_, [_], rfl, .inl ⟨cb, by decide, rfl⟩, forms2_calls W w0 w cb rb sb vl v0 v1 v2 v3 lines s.1 s.2.1 s.2.2.1 s.2.2.2 _ _ _ _ _ (hctx cb hb) hs hl1⟩
 | session h =>
  obtain ⟨x0, rfl⟩ := len1 ws (by simp at hlen; omega)
  obtain ⟨cb, rfl, hb⟩ := h
  exact ⟨_, [_], rfl, .inl ⟨cb, by decide, rfl⟩, forms3_calls W w0 w cb rb sb vl v0 v1 v2 v3 lines s.1 s.2.1 s.2.2.1 s.2.2.2 _ (hctx cb hb) (hs _ (List.mem_singleton.2 rfl)) hl2⟩
 | plain kind h =>
  obtain ⟨kb, pb, cb, rfl, h1, h2, h3⟩ := h
  exact ⟨_, [_, _, _], rfl, .inr ⟨kb, pb, cb, by decide, rfl⟩, event1_plain W w0 w cb rb sb vl v0 v1 v2 v3 lines s.1 s.2.1 s.2.2.1 s.2.2.2 kb pb kind ws (hctx cb h3) hs hn hl3 h1 h2⟩
 | placed kind h =>
  obtain ⟨kb, pb, cb, rfl, h1, h2, h3⟩ := h
  cases ws with
  | nil => exact absurd (Or.inl (by simp)) hlen
  | cons p ws => exact ⟨_, [_, _, _], rfl, .inr ⟨kb, pb, cb, by decide, rfl⟩, event1_placed W w0 w cb rb sb vl v0 v1 v2 v3 lines s.1 s.2.1 s.2.2.1 s.2.2.2 kb pb kind p ws (hctx cb h3) hs (by simp at hn; omega) hl3 h1 h2⟩
 | ask h =>
  obtain ⟨x0, x1, rfl⟩ := len2 ws (by simp at hlen; omega)
  obtain ⟨kb, qb, cb, rfl, h1, h2, h3⟩ := h
  exact ⟨_, [_, _, _], rfl, .inr ⟨kb, qb, cb, by decide, rfl⟩, ask1_A W w0 w cb rb sb vl v0 v1 v2 v3 lines s.1 s.2.1 s.2.2.1 s.2.2.2 kb qb _ _ (hctx cb h3) hs hl3 h1 h2⟩
 | askB kind hk h =>
  obtain ⟨x0, x1, x2, x3, rfl⟩ := len4 ws (by simp at hlen; omega)
  obtain ⟨kb, qb, cb, rfl, h1, h2, h3⟩ := h
  exact ⟨_, [_, _, _], rfl, .inr ⟨kb, qb, cb, by decide, rfl⟩, ask1_B W w0 w cb rb sb vl v0 v1 v2 v3 lines s.1 s.2.1 s.2.2.1 s.2.2.2 kb qb kind hk _ _ _ _ (hctx cb h3) hs hl3 h1 h2⟩
 | get kind q hq hk h =>
  obtain ⟨x0, x1, x2, x3, x4, x5, rfl⟩ := len6 ws (by simp at hlen; omega)
  obtain ⟨kb, qb, cb, rfl, h1, h2, h3⟩ := h
  rcases hq with rfl | rfl
  · exact ⟨_, [_, _, _], rfl, .inr ⟨kb, qb, cb, by decide, rfl⟩, ask1_get92 W w0 w cb rb sb vl v0 v1 v2 v3 lines s.1 s.2.1 s.2.2.1 s.2.2.2 kb qb kind hk _ _ _ _ _ _ (hctx cb h3) hs hl3 h1 h2⟩
  exact ⟨_, [_, _, _], rfl, .inr ⟨kb, qb, cb, by decide, rfl⟩, ask1_get96 W w0 w cb rb sb vl v0 v1 v2 v3 lines s.1 s.2.1 s.2.2.1 s.2.2.2 kb qb kind hk _ _ _ _ _ _ (hctx cb h3) hs hl3 h1 h2⟩
 | put kind hk h =>
  obtain ⟨x0, x1, x2, x3, x4, x5, x6, rfl⟩ := len7 ws (by simp at hlen; omega)
  obtain ⟨kb, qb, cb, rfl, h1, h2, h3⟩ := h
  exact ⟨_, [_, _, _], rfl, .inr ⟨kb, qb, cb, by decide, rfl⟩, ask1_put W w0 w cb rb sb vl v0 v1 v2 v3 lines s.1 s.2.1 s.2.2.1 s.2.2.2 kb qb kind hk _ _ _ _ _ _ _ (hctx cb h3) hs hl3 h1 h2⟩
 | scan kind hk h =>
  obtain ⟨x0, x1, x2, x3, x4, x5, x6, x7, rfl⟩ := len8 ws (by simp at hlen; omega)
  obtain ⟨kb, qb, cb, rfl, h1, h2, h3⟩ := h
  exact ⟨_, [_, _, _], rfl, .inr ⟨kb, qb, cb, by decide, rfl⟩, ask1_scan W w0 w cb rb sb vl v0 v1 v2 v3 lines s.1 s.2.1 s.2.2.1 s.2.2.2 kb qb kind hk _ _ _ _ _ _ _ _ (hctx cb h3) hs hl3 h1 h2⟩
def FormAt (sb : Nat) (w : World) (o : Option (Int × Bool × Rd)) (n : Int) (more : Bool) (c : Value) (is : Bool) : Prop := c.oneCell' = true ∧ match o with
 | none => is = false
 | some (n', more', rd) => n = n' ∧ more = more' ∧ RD sb w c n more rd ∧ is = true
theorem FormAt.kc {sb : Nat} {w w1 : World} {o : Option (Int × Bool × Rd)} {n : Int} {more : Bool} {c : Value} {is : Bool} (h : FormAt sb w o n more c is) (hk : KC w w1) : FormAt sb w1 o n more c is := by
 refine ⟨h.1, ?_⟩
 have h2 := h.2
 cases o with
 | none => exact h2
 | some x => exact ⟨h2.1, h2.2.1, h2.2.2.1.kc hk, h2.2.2.2⟩
theorem RD.one {sb : Nat} {w : World} {c : Value} {n : Int} {more : Bool} {rd : Rd} (h : RD sb w c n more rd) : c.oneCell' = true := by
 cases h with
 | label h => obtain ⟨_, rfl, _⟩ := h; rfl
 | account h => obtain ⟨_, rfl, _⟩ := h; rfl
 | session h => obtain ⟨_, rfl, _⟩ := h; rfl
 | plain kind h => obtain ⟨_, _, _, rfl, _⟩ := h; rfl
 | placed kind h => obtain ⟨_, _, _, rfl, _⟩ := h; rfl
 | ask h => obtain ⟨_, _, _, rfl, _⟩ := h; rfl
 | askB kind hq h => obtain ⟨_, _, _, rfl, _⟩ := h; rfl
 | get kind q hq hk' h => obtain ⟨_, _, _, rfl, _⟩ := h; rfl
 | put kind hq h => obtain ⟨_, _, _, rfl, _⟩ := h; rfl
 | scan kind hq h => obtain ⟨_, _, _, rfl, _⟩ := h; rfl
theorem Look.form {sb : Nat} {w : World} {o : Option (Int × Bool × Rd)} {v : Value} {is : Bool} (h : Look sb w o v is) : ∃ n more c, v = .agg #[.int .i64 n, .bool more, c] ∧ FormAt sb w o n more c is := by
 cases o with
 | none => exact ⟨0, false, .nilFunc, h.1, rfl, h.2⟩
 | some x =>
  obtain ⟨n, more, rd⟩ := x
  obtain ⟨⟨c, rfl, hr⟩, h2⟩ := h
  exact ⟨n, more, c, rfl, hr.one, rfl, rfl, hr, h2⟩
theorem form_at {sb m : Nat} {w : World} (h : AM w m (formTab sb)) (k : ByteArray) (hk : k.size ≤ maxLen) : ∃ n more c is, (Instr.lookup 130 (.map (some m)) (.string k) true).run Tryz.prog w = .ok (.tuple #[.agg #[.int .i64 n, .bool more, c], .bool is]) w ∧ FormAt sb w (formOf k) n more c is := by
 obtain ⟨v, is, h1, h2⟩ := form_look h k hk
 obtain ⟨n, more, c, rfl, h3⟩ := h2.form
 exact ⟨n, more, c, is, h1, h3⟩
theorem ask_at {sb m : Nat} {w : World} (h : AM w m (askTab sb)) (k : ByteArray) (hk : k.size ≤ maxLen) : ∃ n more c is, (Instr.lookup 130 (.map (some m)) (.string k) true).run Tryz.prog w = .ok (.tuple #[.agg #[.int .i64 n, .bool more, c], .bool is]) w ∧ FormAt sb w (askOf k) n more c is := by
 obtain ⟨v, is, h1, h2⟩ := ask_look h k hk
 obtain ⟨n, more, c, rfl, h3⟩ := h2.form
 exact ⟨n, more, c, is, h1, h3⟩
theorem formTab_stays {sb : Nat} : ∀ x ∈ formTab sb, Ent.Stays x := fun x hx => by
 obtain ⟨⟨i, x'⟩, hi, rfl⟩ := List.mem_map.1 hx
 exact fins_stays hi
theorem size128 : (Tryz.prog.info? 128).map (·.size) = some 3 := by kernel_rfl
abbrev Z128 : Obj := .cells #[.int .i64 0, .bool false, .nilFunc] 128
theorem ln_set {w : World} {g : Nat} {x y z a b c : Value} (h : w.heap[g]? = some (.cells #[x, y, z] 128 (0, 0))) : (w.setCells g 0 [a, b, c]).heap[g]? = some (.cells #[a, b, c] 128 (0, 0)) := by
 obtain ⟨cur, h1, _, h3⟩ := setCells_row [a, b, c] 0 w _ h (by simp)
 have : cur = #[a, b, c] := Array.toList_inj.1 (h3.trans rfl)
 rw [h1, this]
theorem ln_kc {w : World} {g : Nat} {cur : Array Value} (h : w.heap[g]? = some (.cells cur 128 (0, 0))) (vs : List Value) : KC w (w.setCells g 0 vs) := fun k cs t fz hk ht => by
 by_cases e : k = g
 · subst e
   rw [h] at hk
   injection hk with hk
   injection hk with _ hk
   exact absurd hk.symm ht
 exact setCells_far vs 0 k e
theorem ln_below {w w1 : World} {g : Nat} (h : Below w.heap.size w w1) (hg : w.heap.size ≤ g) (vs : List Value) : Below w.heap.size w (w1.setCells g 0 vs) := by
 obtain ⟨h1, h2, h3, h4⟩ := setCells_same g vs 0 w1
 exact ⟨h1.trans h.os, h2.trans h.tape, h3.trans h.output, by rw [h4]; exact h.size, fun k hk => (setCells_far vs 0 k (by omega)).trans (h.block k hk)⟩
def LineRet (W w' : World) (sb : Nat) (vl : Value) (lines : List ByteArray) (o : Option Stt) : Prop :=
 ∃ (v0 v1 v2 v3 : Value) (s : Stt), w'.heap[sb]? = some (.cells #[v0, v1, v2, v3] 89 (0, 0)) ∧ Rows5 w' W.heap.size vl v0 v1 v2 v3 lines s.1 s.2.1 s.2.2.1 s.2.2.2 ∧ (∀ s', o = some s' → s = s') ∧ Below W.heap.size W w'
theorem RD.shape {sb : Nat} {w : World} {c : Value} {n : Int} {more : Bool} {rd : Rd} (h : RD sb w c n more rd) : ∃ f caps, c = .func (.func f) #[] caps.toArray ∧ RDShape f caps := by
 cases h with
 | label h => obtain ⟨_, rfl, _⟩ := h; exact ⟨_, [_], rfl, .inl ⟨_, by decide, rfl⟩⟩
 | account h => obtain ⟨_, rfl, _⟩ := h; exact ⟨_, [_], rfl, .inl ⟨_, by decide, rfl⟩⟩
 | session h => obtain ⟨_, rfl, _⟩ := h; exact ⟨_, [_], rfl, .inl ⟨_, by decide, rfl⟩⟩
 | plain kind h => obtain ⟨_, _, _, rfl, _⟩ := h; exact ⟨_, [_, _, _], rfl, .inr ⟨_, _, _, by decide, rfl⟩⟩
 | placed kind h => obtain ⟨_, _, _, rfl, _⟩ := h; exact ⟨_, [_, _, _], rfl, .inr ⟨_, _, _, by decide, rfl⟩⟩
 | ask h => obtain ⟨_, _, _, rfl, _⟩ := h; exact ⟨_, [_, _, _], rfl, .inr ⟨_, _, _, by decide, rfl⟩⟩
 | askB kind hq h => obtain ⟨_, _, _, rfl, _⟩ := h; exact ⟨_, [_, _, _], rfl, .inr ⟨_, _, _, by decide, rfl⟩⟩
 | get kind q hq hk' h => obtain ⟨_, _, _, rfl, _⟩ := h; exact ⟨_, [_, _, _], rfl, .inr ⟨_, _, _, by decide, rfl⟩⟩
 | put kind hq h => obtain ⟨_, _, _, rfl, _⟩ := h; exact ⟨_, [_, _, _], rfl, .inr ⟨_, _, _, by decide, rfl⟩⟩
 | scan kind hq h => obtain ⟨_, _, _, rfl, _⟩ := h; exact ⟨_, [_, _, _], rfl, .inr ⟨_, _, _, by decide, rfl⟩⟩
theorem shape_fn {f : Nat} {caps : List Value} (h : RDShape f caps) : ∃ fn, Tryz.prog.funcs[f]? = some fn ∧ (fn.name == "runtime.NumGoroutine") = false ∧ fn.body.isSome = true := by
 rcases h with ⟨_, rfl | rfl | rfl, _⟩ | ⟨_, _, _, rfl | rfl, _⟩
 · exact ⟨_, Tryz.func85, by kernel_rfl, rfl⟩
 · exact ⟨_, Tryz.func87, by kernel_rfl, rfl⟩
 · exact ⟨_, Tryz.func89, by kernel_rfl, rfl⟩
 · exact ⟨_, Tryz.func112, by kernel_rfl, rfl⟩
 exact ⟨_, Tryz.func114, by kernel_rfl, rfl⟩
theorem dyn_ {ops : Array Oper} {Q : Exit → Act → World → Prop} {rest : List Oper} {oi : Oper} {a : Act} {w : World} (N : Option Tmp) (hd : oi.dst = N) (hg : oi.guard = none) {f t : Nat} {caps : List Value} {x : Value} {ar : Array Operand} {ts : Array TypeId} (hop : oi.op = .call { callee := .value (.tmp t), args := ar, argTypes := ts })
 (hc : a.eval (.tmp t) = .func (.func f) #[] caps.toArray) (hargs : ar.map a.eval = #[x]) (hsh : RDShape f caps)
 (h : Calls Tryz.prog f (x :: caps).toArray w fun e w' => ∃ v, e = .returned v ∧ wpList Tryz.prog ops Q rest (a.put N v) w') : wpList Tryz.prog ops Q (oi :: rest) a w := by
 refine wpList_plain hg fun K hK => ?_
 obtain ⟨fn, hf, hname, hb⟩ := shape_fn hsh
 have he := enters_ hf hname hb (x :: caps).toArray w
 have hrun : (execOp a.eval oi).run Tryz.prog w = .ok (.enter f (x :: caps).toArray) w := by
  unfold execOp
  simp [hop, resolve, Deferred.ofValue, hc, invoke, hargs, he]
 unfold Oper.wp
 rw [hrun, Oper.upon_enter]
 refine h.mono fun e w'' hh => ?_
 obtain ⟨v, rfl, hk⟩ := hh
 subst hd
 exact hK _ _ hk
def selOf (ws : List ByteArray) : Option (Int × Bool × Rd) := if hd0 ws = (⟨#[97, 115, 107]⟩ : ByteArray) ∧ 2 < ws.length then askOf (ws.getD 2 ⟨#[]⟩) else formOf (hd0 ws)
theorem lineOf_none {ws : List ByteArray} {s : Stt} (h : selOf ws = none) : lineOf ws s = (260, none) := by
 unfold lineOf
 rw [show (if hd0 ws = (⟨#[97, 115, 107]⟩ : ByteArray) ∧ 2 < ws.length then askOf (ws.getD 2 ⟨#[]⟩) else formOf (hd0 ws)) = none from h]
theorem lineOf_bad {ws : List ByteArray} {s : Stt} {n : Int} {more : Bool} {rd : Rd} (h : selOf ws = some (n, more, rd)) (hc : (ws.tail.length : Int) < n ∨ ((ws.tail.length : Int) > n ∧ more = false)) : lineOf ws s = (260, none) := by
 unfold lineOf
 rw [show (if hd0 ws = (⟨#[97, 115, 107]⟩ : ByteArray) ∧ 2 < ws.length then askOf (ws.getD 2 ⟨#[]⟩) else formOf (hd0 ws)) = some (n, more, rd) from h]
 exact if_pos hc
theorem lineOf_rd {ws : List ByteArray} {s : Stt} {n : Int} {more : Bool} {rd : Rd} (h : selOf ws = some (n, more, rd)) (hc : ¬ ((ws.tail.length : Int) < n ∨ ((ws.tail.length : Int) > n ∧ more = false))) : lineOf ws s = match rd ws.tail s with
 | none => (261, none)
 | some s' => (0, some s') := by
 unfold lineOf
 rw [show (if hd0 ws = (⟨#[97, 115, 107]⟩ : ByteArray) ∧ 2 < ws.length then askOf (ws.getD 2 ⟨#[]⟩) else formOf (hd0 ws)) = some (n, more, rd) from h]
 exact if_neg hc
theorem cut_event {P : Program} {ops : Array Oper} {rest : List Oper} {o : Oper} {a : Act} {Q : Exit → Act → World → Prop} {W : World} (hgd : o.guard = none) {N : Tmp} (hN : o.dst = some N) (p : Option Addr → Nat → Prop) (n : Nat)
 (hrun : ∃ A c, p A c ∧ (execOp a.eval o).run P W = .ok (.value (.slice A n c)) W) (h : ∀ A c, p A c → wpList P ops Q rest (a.put (some N) (.slice A n c)) W) : wpList P ops Q (o :: rest) a W := by
 obtain ⟨A, c, hp, hr⟩ := hrun
 refine wpList_plain hgd fun K hK => ?_
 exact wp_value hN hr (hK _ _ (h A c hp))
theorem tail_C {w : World} {gw : Nat} {ws : List ByteArray} (h : ∀ (j : Nat) (p : ByteArray), ws[j]? = some p → w.cell? ⟨gw, j, none⟩ = some (.string p)) (hl : ws.length ≤ 65536) : Kd.string.C w (some ⟨gw, 1, none⟩) ws.tail.length ws.tail := by
 refine ⟨rfl, by simp; omega, fun _ => ⟨_, rfl, fun j p hj => ⟨[.string p], rfl, rfl, fun i u hu => ?_⟩⟩⟩
 obtain ⟨rfl, rfl⟩ : i = 0 ∧ u = .string p := by
  cases i with
  | zero => exact ⟨rfl, (Option.some.inj hu).symm⟩
  | succ i => simp at hu
 have ha : (⟨gw, 1, none⟩ : Addr).add (j * Kd.string.sz + 0) = ⟨gw, j + 1, none⟩ := by
  show Addr.add _ (j * 1 + 0) = _
  unfold Addr.add
  split
  · rename_i e
    have : j = 0 := by omega
    subst this
    rfl
  simp; omega
 rw [ha]
 refine h (j + 1) p ?_
 cases ws with
 | nil => simp at hj
 | cons x l => simpa using hj
theorem nil_C {w : World} {A : Option Addr} : Kd.string.C w A ([] : List ByteArray).length [] := ⟨rfl, by decide, fun h => absurd h (by decide)⟩
theorem line_calls (W w : World) (sb gw cw : Nat) (ws : List ByteArray) (vl v0 v1 v2 v3 : Value) (lines : List ByteArray) (s : Stt) (hsb : w.heap[sb]? = some (.cells #[v0, v1, v2, v3] 89 (0, 0))) (hgs : W.heap.size ≤ sb)
 (hrows : Rows5 w W.heap.size vl v0 v1 v2 v3 lines s.1 s.2.1 s.2.2.1 s.2.2.2) (hbW : Below W.heap.size W w) (hE : sc.Env w) (hws : Kd.string.C w (some ⟨gw, 0, none⟩) ws.length ws) (hcw : ws.length ≤ cw) (hne : 0 < ws.length) (hsz : ∀ y ∈ ws, y.size ≤ 65536) (hlen : ws.length ≤ 65536)
 (hl : s.1.length ≤ 100000 ∧ s.2.1.length ≤ 100000 ∧ s.2.2.1.length ≤ 100000 ∧ s.2.2.2.length ≤ 100000) :
 Calls Tryz.prog 39 #[.pointer (some ⟨sb, 0, none⟩), .slice (some ⟨gw, 0, none⟩) ws.length cw] w fun e w' => e = .returned (.int .i64 (lineOf ws s).1) ∧ LineRet W w' sb vl lines (lineOf ws s).2 := by
 have hcells : ∀ (w1 : World), Below w.heap.size w w1 → ∀ (j : Nat) (p : ByteArray), ws[j]? = some p → w1.cell? ⟨gw, j, none⟩ = some (.string p) := fun w1 hb j p hj => by
  obtain ⟨ad, he, hc⟩ := (Kd.C_below hws hb).2.2 hne
  cases he
  obtain ⟨c, _, rfl, hcl⟩ := hc j p hj
  have := hcl 0 _ rfl
  have ha : (⟨gw, 0, none⟩ : Addr).add (j * Kd.string.sz + 0) = ⟨gw, j, none⟩ := by
   show Addr.add _ (j * 1 + 0) = _
   unfold Addr.add
   split
   · congr 1; omega
   simp
  rwa [ha] at this
 obtain ⟨tl, htl⟩ : ∃ tl, tl = ws.tail.length := ⟨_, rfl⟩
 have HTL := am_ htl
 clear htl
 have HCL := am_ hcells
 have hk0 : (hd0 ws).size ≤ maxLen := Nat.le_trans (hd0_size hsz) (by decide)
 have hh : ws[0]? = some (hd0 ws) := by
  cases ws with
  | nil => simp at hne
  | cons x l => rfl
 have HH := am_ hh
 have HK0 := am_ hk0
 have HSB := am_ hsb
 have HSZ := am_ hsz
 have HWS := am_ hws
 have HRO := am_ hrows
 have HBW := am_ hbW
 have HE := am_ hE
 have HGS := am_ hgs
 have HLS := am_ hl
 have HB0 := am_ (Below.refl w.heap.size w)
 clear hcells hh hk0 hsb hsz hws hrows hbW hE hgs hl
 go_enter Tryz.func39, Tryz.ntmps39
 go_wp2_with fail
 refine start_ (n := 12) (S := fun w' => w'.cell? ⟨gw, 0, none⟩ = some (.string (hd0 ws))) (ds := [10]) (bs_ 12 0) (by kernel_rfl) rfl rfl (HCL.out _ (b3_ HB0.out) 0 _ HH.out) (fun hHeld => ?_)
 have HB5 := am_ (b3_ HB0.out); generalize w.drew = w5 at HB5 hHeld ⊢
 refine pA_ 0 10 (bs_ 12 1) ?_
 refine pA_ 2 12 (bs_ 12 5) ?_
 refine pA_ 3 13 (bs_ 12 13) ?_
 refine tA_ hHeld 4 14 (bs_ 12 29) ?_
 refine join_ (σ := Nat × Int × Bool × Value × Bool × Nat) 2 #[true, true, true, true, true, true, true, true, true, true, false, false] (fun s => [(11, .map (some s.1)), (15, .tuple #[.agg #[.int .i64 s.2.1, .bool s.2.2.1, s.2.2.2.1], .bool s.2.2.2.2.1]), (9, .tuple #[.agg #[.int .i64 s.2.1, .bool s.2.2.1, s.2.2.2.1], .bool s.2.2.2.2.1]), (16, .agg #[.int .i64 s.2.1, .bool s.2.2.1, s.2.2.2.1]), (17, .bool s.2.2.2.2.1), (5, .pointer (some ⟨s.2.2.2.2.2, 0, none⟩))]) (fun s w' => FormAt sb w' (formOf (hd0 ws)) s.2.1 s.2.2.1 s.2.2.2.1 s.2.2.2.2.1 ∧ w'.heap[s.2.2.2.2.2]? = some Z128 ∧ Below w.heap.size w w' ∧ w.heap.size ≤ s.2.2.2.2.2) ?_ ?_
 rotate_left
 · intro hCont
   refine two_ (i := 1) (j := 9) (Ni := some 11) (Nj := some 5) #[true, true, true, true, true, false, false, false, false, false, false, false] #[true, false, true, true, true, false, false, false, false, true, false, false] rfl rfl rfl rfl (by kernel_rfl) (by decide) (by decide) (fun K hK => ?_) (fun K hK => ?_)
   · skip
     refine gA_ Tryz.func67 #[.pointer (some ⟨sb, 0, none⟩)] ?_
     with_reducible refine (forms_calls sb _).mono ?_
     rintro e w1 ⟨m, rfl, hAM, hb⟩
     refine ⟨_, rfl, ?_⟩
     have HAM := am_ hAM
     have HB1 := am_ (below_step (HB5.out) hb)
     refine hK.out _ _ (HCL.out _ (HB1.out) 0 _ HH.out) (fun hHeld => ?_)
     clear hK K
     refine nA_ ?_
     refine two_ (i := 5) (j := 9) (Ni := some 15) (Nj := some 5) #[true, true, true, true, true, true, false, false, false, false, false, false] #[true, true, true, true, true, false, false, false, false, true, false, false] rfl rfl rfl rfl (by kernel_rfl) (by decide) (by decide) (fun K hK => ?_) (fun K hK => ?_)
     · skip
       obtain ⟨n, more, c, is, hlk, hF⟩ := form_at HAM.out (hd0 ws) HK0.out
       refine vA_ ?_
       refine hK.out _ _ (HCL.out _ (HB1.out) 0 _ HH.out) (fun hHeld => ?_)
       clear hK K
       refine nA_ ?_
       refine pA_ 6 9 (bs_ 12 127) ?_
       refine pA_ 7 16 (bs_ 12 255) ?_
       refine pA_ 8 17 (bs_ 12 511) ?_
       refine oA_ 9 5 (bs_ 12 1023) (fun K hK => ?_)
       refine vA_ ?_
       refine hK.out _ _ (HCL.out _ (b1_ HB1.out Z128) 0 _ HH.out) (fun hHeld => ?_)
       clear hK K
       refine nA_ ?_
       exact norm_ (by simp only [putAll, Act.put, List.setIfInBounds_toArray, List.set_cons_zero, List.set_cons_succ]) (hCont (m, n, more, c, is, w1.heap.size) _ ⟨hF.kc (KC.of_below (b1_ (Below.refl _ _) Z128)), wld.alloc_same w1 Z128, b1_ HB1.out Z128, HB1.out.size⟩)
     skip
     refine vA_ ?_
     refine hK.out _ _ (HCL.out _ (b1_ HB1.out Z128) 0 _ HH.out) (fun hHeld => ?_)
     clear hK K
     refine nA_ ?_
     refine oA_ 5 15 (bs_ 12 575) (fun K hK => ?_)
     obtain ⟨n, more, c, is, hlk, hF⟩ := form_at (HAM.out.below formTab_stays (b1_ (Below.refl _ _) Z128)) (hd0 ws) HK0.out
     refine vA_ ?_
     refine hK.out _ _ (HCL.out _ (b1_ HB1.out Z128) 0 _ HH.out) (fun hHeld => ?_)
     clear hK K
     refine nA_ ?_
     refine pA_ 6 9 (bs_ 12 639) ?_
     refine pA_ 7 16 (bs_ 12 767) ?_
     refine pA_ 8 17 (bs_ 12 1023) ?_
     exact norm_ (by simp only [putAll, Act.put, List.setIfInBounds_toArray, List.set_cons_zero, List.set_cons_succ]) (hCont (m, n, more, c, is, w1.heap.size) _ ⟨hF, wld.alloc_same w1 Z128, b1_ HB1.out Z128, HB1.out.size⟩)
   skip
   refine vA_ ?_
   refine hK.out _ _ (HCL.out _ (b1_ HB5.out Z128) 0 _ HH.out) (fun hHeld => ?_)
   clear hK K
   refine nA_ ?_
   refine oA_ 1 11 (bs_ 12 543) (fun K hK => ?_)
   refine gA_ Tryz.func67 #[.pointer (some ⟨sb, 0, none⟩)] ?_
   with_reducible refine (forms_calls sb _).mono ?_
   rintro e w1 ⟨m, rfl, hAM, hb⟩
   refine ⟨_, rfl, ?_⟩
   have HAM := am_ hAM
   have HB1 := am_ (below_step (b1_ HB5.out Z128) hb)
   have HG1 := am_ ((hb.block w5.heap.size (blk_lt (wld.alloc_same w5 Z128))).trans (wld.alloc_same w5 Z128))
   refine hK.out _ _ (HCL.out _ (HB1.out) 0 _ HH.out) (fun hHeld => ?_)
   clear hK K
   refine nA_ ?_
   refine oA_ 5 15 (bs_ 12 575) (fun K hK => ?_)
   obtain ⟨n, more, c, is, hlk, hF⟩ := form_at HAM.out (hd0 ws) HK0.out
   refine vA_ ?_
   refine hK.out _ _ (HCL.out _ (HB1.out) 0 _ HH.out) (fun hHeld => ?_)
   clear hK K
   refine nA_ ?_
   refine pA_ 6 9 (bs_ 12 639) ?_
   refine pA_ 7 16 (bs_ 12 767) ?_
   refine pA_ 8 17 (bs_ 12 1023) ?_
   exact norm_ (by simp only [putAll, Act.put, List.setIfInBounds_toArray, List.set_cons_zero, List.set_cons_succ]) (hCont (m, n, more, c, is, w5.heap.size) _ ⟨hF, HG1.out, HB1.out, HB5.out.size⟩)
 rintro ⟨m, n, more, c, is, g⟩ w2 ⟨hF, hG, hB, hg⟩
 dsimp only at hF hG hB hg
 have hHeld : w2.cell? ⟨gw, 0, none⟩ = some (.string (hd0 ws)) := HCL.out _ hB 0 _ HH.out
 refine norm_ (a' := ?_) ?_ ?_
 rotate_left
 · simp only [putAll, Act.put, List.setIfInBounds_toArray, List.set_cons_zero, List.set_cons_succ]
   rfl
 refine last_ (i := 10) (N := none) (bs_ 12 2047) rfl rfl (by kernel_rfl) (by decide) (fun K hK => ?_)
 refine store_all_ (u := .agg #[.int .i64 n, .bool more, c]) [.int .i64 n, .bool more, c] (by rfl) rfl rfl rfl rfl hG rfl size128 (by simp) (by intro q hq; simp at hq; rcases hq with rfl | rfl | rfl <;> first | rfl | exact hF.1) ?_
 refine hK.out _ _ ?_
 clear hK K
 refine pA_ 11 6 (bs_ 12 4095) ?_
 refine done_ (by kernel_rfl) ?_
 have HG := am_ (ln_set (a := .int .i64 n) (b := .bool more) (c := c) hG)
 have HF := am_ (hF.kc (ln_kc hG [.int .i64 n, .bool more, c]))
 have HB := am_ (ln_below hB hg [.int .i64 n, .bool more, c])
 have HGE := am_ hg
 clear hF hG hB hg hHeld
 generalize w2.setCells g 0 [.int .i64 n, .bool more, c] = w3 at HG HF HB ⊢
 have hcw0 := HCL.out _ HB.out 0 _ HH.out
 have hsel0 : (hd0 ws = (⟨#[97, 115, 107]⟩ : ByteArray)) ↔ (hd0 ws).toList = [97, 115, 107] := by
  rw [sc.bytes_list]
  exact ⟨fun h => by rw [h], fun h => ByteArray.ext (Array.toList_inj.1 h)⟩
 have HS0 := am_ hsel0
 clear hsel0
 by_cases hask : (hd0 ws).toList = [97, 115, 107]
 by_cases h2 : (2 : Int) < (ws.length : Int)
 · obtain ⟨u2, hu2⟩ : ∃ u, u = ws.getD 2 ⟨#[]⟩ := ⟨_, rfl⟩
   have hs0 : selOf ws = askOf u2 := by
    unfold selOf
    rw [if_pos ⟨HS0.out.2 hask, by omega⟩, hu2]
   have HK2 := am_ (show u2.size ≤ maxLen from by
    rw [hu2]
    have hm : ws.getD 2 ⟨#[]⟩ ∈ ws := by
     rw [List.getD_eq_getElem?_getD, List.getElem?_eq_getElem (by omega)]
     exact List.getElem_mem _
    exact Nat.le_trans (HSZ.out _ hm) (by decide))
   have H2 := am_ (show ws[2]? = some u2 from by
    rw [hu2]
    rw [List.getD_eq_getElem?_getD, List.getElem?_eq_getElem (by omega)]
    rfl)
   clear hu2
   clear HF
   go_wp2_with fail
   refine start_ (n := 11) (S := fun w' => w'.cell? ⟨gw, 2, none⟩ = some (.string u2)) (ds := [9]) (bs_ 11 0) (by kernel_rfl) rfl rfl (HCL.out _ (below_step HB.out (b3_ (Below.refl _ _))) 2 _ H2.out) (fun hHeld => ?_)
   have HB6 := am_ (below_step HB.out (b3_ (Below.refl _ _))); have HG6 := am_ (d2_ HG.out); clear HB HG hcw0; generalize w3.drew = w6 at HB6 HG6 hHeld ⊢
   refine pA_ 0 28 (bs_ 11 1) ?_
   refine pA_ 2 30 (bs_ 11 5) ?_
   refine pA_ 3 31 (bs_ 11 13) ?_
   refine tA_ hHeld 4 32 (bs_ 11 29) ?_
   refine oA_ 1 29 (bs_ 11 31) (fun K hK => ?_)
   refine gA_ Tryz.func68 #[.pointer (some ⟨sb, 0, none⟩)] ?_
   with_reducible refine (asks_calls sb _).mono ?_
   rintro e w7 ⟨m2, rfl, hAM, hb⟩
   refine ⟨_, rfl, ?_⟩
   have HAM2 := am_ hAM
   have HB7 := am_ (below_step HB6.out hb)
   have HG7 := am_ ((hb.block g (blk_lt HG6.out)).trans HG6.out)
   refine hK.out _ _ (HCL.out _ (HB7.out) 2 _ H2.out) (fun hHeld => ?_)
   clear hK K
   refine nA_ ?_
   refine oA_ 5 33 (bs_ 11 63) (fun K hK => ?_)
   obtain ⟨n, more, c, is, hlk, hF2⟩ := ask_at HAM2.out u2 HK2.out
   refine vA_ ?_
   refine hK.out _ _ (HCL.out _ (HB7.out) 2 _ H2.out) (fun hHeld => ?_)
   clear hK K
   refine nA_ ?_
   refine pA_ 6 27 (bs_ 11 127) ?_
   refine pA_ 7 34 (bs_ 11 255) ?_
   refine pA_ 8 35 (bs_ 11 511) ?_
   refine last_ (i := 9) (N := none) (bs_ 11 1023) rfl rfl (by kernel_rfl) (by decide) (fun K hK => ?_)
   refine store_all_ (u := .agg #[.int .i64 n, .bool more, c]) [.int .i64 n, .bool more, c] (by rfl) rfl rfl rfl rfl HG7.out rfl size128 (by simp) (by intro q hq; simp at hq; rcases hq with rfl | rfl | rfl <;> first | rfl | exact hF2.1) ?_
   refine hK.out _ _ ?_
   clear hK K
   refine pA_ 10 6 (bs_ 11 2047) ?_
   refine done_ (by kernel_rfl) ?_
   have HG := am_ (ln_set (a := .int .i64 n) (b := .bool more) (c := c) HG7.out)
   have HF := am_ (hF2.kc (ln_kc HG7.out [.int .i64 n, .bool more, c]))
   have HB := am_ (ln_below HB7.out HGE.out [.int .i64 n, .bool more, c])
   clear hF2 hHeld HG7 HB7 hlk
   generalize w7.setCells g 0 [.int .i64 n, .bool more, c] = w8 at HG HF HB ⊢
   rw [← hs0] at HF
   have hg0 := (blk_cell HG.out 0).trans rfl
   have hg1 := (blk_cell HG.out 1).trans rfl
   have hg2 := (blk_cell HG.out 2).trans rfl
   rcases hsel : selOf ws with _ | ⟨n', more', rd⟩
   · have his : is = false := by have := HF.out.2; rw [hsel] at this; exact this
     subst his
     go_wp2_with ((with_reducible refine gate_dst (N := 37) rfl ?_); refine cut_event rfl rfl (fun A c => tl ≤ c ∧ Kd.string.C w A ws.tail.length ws.tail) tl ?hr ?_; (case hr => exact (by
      have htl := HTL.out
      have hge : ¬ ((ws.length : Int) < 1) := by omega
      have hge2 : (1 : Int) ≤ (ws.length : Int) := by omega
      by_cases hc1' : cw = 1
      · have hw1 : ws.length = 1 := by omega
        have ht : ws.tail = [] := by cases ws with | nil => simp at hne | cons x l => simp at hw1; simpa using hw1
        have ht0 : tl = 0 := by rw [htl, ht]; rfl
        subst ht0
        refine ⟨some ⟨gw, 0, none⟩, 0, ⟨Nat.le_refl _, by rw [ht]; exact nil_C⟩, ?_⟩
        clear htl
        subst hc1'
        have hge3 : ws.length - 1 = 0 := by omega
        first | (go_simp; done) | (go_simp; rfl)
      have htl2 : tl = ws.length - 1 := by rw [htl]; simp
      refine ⟨some ⟨gw, 1, none⟩, cw - 1, ⟨by omega, tail_C (HCL.out w HB0.out) hlen⟩, ?_⟩
      clear htl
      rw [htl2]
      clear htl2
      first | (go_simp; done) | (go_simp; rfl))); intro At ct hAt)
     go_ret
     rw [lineOf_none hsel]
     exact ⟨rfl, v0, v1, v2, v3, s, (HB.out.block sb (blk_lt HSB.out)).trans HSB.out, HRO.out.below HB.out, (fun x hx => by cases hx), below_step HBW.out HB.out⟩
   obtain ⟨hn, hm, hrd, his⟩ : n = n' ∧ more = more' ∧ RD sb w8 c n more rd ∧ is = true := by have := HF.out.2; rw [hsel] at this; exact this
   subst hn hm his
   have HRD := am_ hrd
   clear hrd
   rcases hc1 : decide ((tl : Int) < n) with _ | _
   · rcases hc2 : decide (n < (tl : Int)) with _ | _
     · have hcond : ¬ ((ws.tail.length : Int) < n ∨ ((ws.tail.length : Int) > n ∧ more = false)) := by
         have h1 := of_decide_eq_false hc1
         have htl := HTL.out
         have h2 := of_decide_eq_false hc2
         rintro (h | ⟨h, _⟩) <;> omega
       have HCO := am_ hcond
       clear hcond
       obtain ⟨f, caps, hcf, hsh⟩ := HRD.out.shape
       subst hcf
       go_wp2_with (first | ((with_reducible refine gate_dst (N := 37) rfl ?_); refine cut_event rfl rfl (fun A c => tl ≤ c ∧ Kd.string.C w A ws.tail.length ws.tail) tl ?hr ?_; (case hr => exact (by
        have htl := HTL.out
        have hge : ¬ ((ws.length : Int) < 1) := by omega
        have hge2 : (1 : Int) ≤ (ws.length : Int) := by omega
        by_cases hc1' : cw = 1
        · have hw1 : ws.length = 1 := by omega
          have ht : ws.tail = [] := by cases ws with | nil => simp at hne | cons x l => simp at hw1; simpa using hw1
          have ht0 : tl = 0 := by rw [htl, ht]; rfl
          subst ht0
          refine ⟨some ⟨gw, 0, none⟩, 0, ⟨Nat.le_refl _, by rw [ht]; exact nil_C⟩, ?_⟩
          clear htl
          subst hc1'
          have hge3 : ws.length - 1 = 0 := by omega
          first | (go_simp; done) | (go_simp; rfl)
        have htl2 : tl = ws.length - 1 := by rw [htl]; simp
        refine ⟨some ⟨gw, 1, none⟩, cw - 1, ⟨by omega, tail_C (HCL.out w HB0.out) hlen⟩, ?_⟩
        clear htl
        rw [htl2]
        clear htl2
        first | (go_simp; done) | (go_simp; rfl))); intro At ct hAt; have hg2x := wld.cellA hg2 (.cells #[.slice At tl ct, .bool false] 134)) | ((with_reducible refine gate_dst (N := 65) rfl ?_); go_loud (refine dyn_ (some 65) rfl rfl rfl rfl (by simp only [aT, aK, aL]; rfl) hsh ?_)))
       have htl := HTL.out
       subst htl
       have HA4 := wld.alloc_same w8 (.cells #[.slice At ws.tail.length ct, .bool false] 134)
       have hb4 := b1_ (Below.refl w8.heap.size w8) (.cells #[.slice At ws.tail.length ct, .bool false] 134)
       have hcl := RD.calls (W := W) (w0 := w) (rb := w8.heap.size) (vl := vl) (v0 := v0) (v1 := v1) (v2 := v2) (v3 := v3) (lines := lines) (ws := ws.tail) (s := s) (HRD.out.kc (KC.of_below hb4)) (fun cb' hcb => ⟨⟨At, ct, HA4, HB.out.size, hAt.1, hAt.2⟩, below_step HB.out hb4, HE.out, hcb, (hb4.block sb (Nat.lt_of_lt_of_le (blk_lt HSB.out) HB.out.size)).trans ((HB.out.block sb (blk_lt HSB.out)).trans HSB.out), (HRO.out.below HB.out).below hb4, below_step (below_step HBW.out HB.out) hb4, Nat.le_trans HBW.out.size HB.out.size, HGS.out⟩) (fun y hy => HSZ.out y (List.mem_of_mem_tail hy)) (by simp; omega) HLS.out HCO.out
       obtain ⟨f', caps', hc', _, hcalls⟩ := hcl
       injection hc' with e1 e2 e3
       cases e1
       have e4 : caps = caps' := by simpa using congrArg Array.toList e3
       subst e4
       clear e2 e3
       refine hcalls.mono ?_
       rintro e w5 ⟨rfl, bad, u0, u1, u2, u3, s', hbad, hbd, hsb', hr', hs', hb'⟩
       refine ⟨_, rfl, ?_⟩
       clear hb4 hcalls HA4
       have HQ1 := am_ hsb'
       have HQ2 := am_ hr'
       have HQ3 := am_ hs'
       have HQ4 := am_ hb'
       clear hsb' hr' hs' hb'
       cases hrd' : rd ws.tail s with
       | none =>
        rw [hrd'] at hbd
        have hbt : bad = true := hbd
        clear hbd
        subst hbt
        go_wp2_with fail
        go_ret
        rw [lineOf_rd hsel HCO.out, hrd']
        exact ⟨rfl, u0, u1, u2, u3, s', HQ1.out, HQ2.out, (fun x hx => by cases hx), HQ4.out⟩
       | some s2 =>
        rw [hrd'] at hbd
        have hbt : bad = false := hbd
        clear hbd
        subst hbt
        go_wp2_with fail
        go_ret
        rw [lineOf_rd hsel HCO.out, hrd']
        exact ⟨rfl, u0, u1, u2, u3, s', HQ1.out, HQ2.out, (fun x hx => HQ3.out x (by rw [hrd']; exact hx)), HQ4.out⟩
     cases more with
     | false =>
      go_wp2_with ((with_reducible refine gate_dst (N := 37) rfl ?_); refine cut_event rfl rfl (fun A c => tl ≤ c ∧ Kd.string.C w A ws.tail.length ws.tail) tl ?hr ?_; (case hr => exact (by
       have htl := HTL.out
       have hge : ¬ ((ws.length : Int) < 1) := by omega
       have hge2 : (1 : Int) ≤ (ws.length : Int) := by omega
       by_cases hc1' : cw = 1
       · have hw1 : ws.length = 1 := by omega
         have ht : ws.tail = [] := by cases ws with | nil => simp at hne | cons x l => simp at hw1; simpa using hw1
         have ht0 : tl = 0 := by rw [htl, ht]; rfl
         subst ht0
         refine ⟨some ⟨gw, 0, none⟩, 0, ⟨Nat.le_refl _, by rw [ht]; exact nil_C⟩, ?_⟩
         clear htl
         subst hc1'
         have hge3 : ws.length - 1 = 0 := by omega
         first | (go_simp; done) | (go_simp; rfl)
       have htl2 : tl = ws.length - 1 := by rw [htl]; simp
       refine ⟨some ⟨gw, 1, none⟩, cw - 1, ⟨by omega, tail_C (HCL.out w HB0.out) hlen⟩, ?_⟩
       clear htl
       rw [htl2]
       clear htl2
       first | (go_simp; done) | (go_simp; rfl))); intro At ct hAt)
      go_ret
      rw [lineOf_bad hsel (.inr ⟨HTL.out ▸ of_decide_eq_true hc2, rfl⟩)]
      exact ⟨rfl, v0, v1, v2, v3, s, (HB.out.block sb (blk_lt HSB.out)).trans HSB.out, HRO.out.below HB.out, (fun x hx => by cases hx), below_step HBW.out HB.out⟩
     | true =>
      have hcond : ¬ ((ws.tail.length : Int) < n ∨ ((ws.tail.length : Int) > n ∧ true = false)) := by
       have h1 := of_decide_eq_false hc1
       have htl := HTL.out
       rintro (h | ⟨_, h⟩)
       · omega
       cases h
      have HCO := am_ hcond
      clear hcond
      obtain ⟨f, caps, hcf, hsh⟩ := HRD.out.shape
      subst hcf
      go_wp2_with (first | ((with_reducible refine gate_dst (N := 37) rfl ?_); refine cut_event rfl rfl (fun A c => tl ≤ c ∧ Kd.string.C w A ws.tail.length ws.tail) tl ?hr ?_; (case hr => exact (by
       have htl := HTL.out
       have hge : ¬ ((ws.length : Int) < 1) := by omega
       have hge2 : (1 : Int) ≤ (ws.length : Int) := by omega
       by_cases hc1' : cw = 1
       · have hw1 : ws.length = 1 := by omega
         have ht : ws.tail = [] := by cases ws with | nil => simp at hne | cons x l => simp at hw1; simpa using hw1
         have ht0 : tl = 0 := by rw [htl, ht]; rfl
         subst ht0
         refine ⟨some ⟨gw, 0, none⟩, 0, ⟨Nat.le_refl _, by rw [ht]; exact nil_C⟩, ?_⟩
         clear htl
         subst hc1'
         have hge3 : ws.length - 1 = 0 := by omega
         first | (go_simp; done) | (go_simp; rfl)
       have htl2 : tl = ws.length - 1 := by rw [htl]; simp
       refine ⟨some ⟨gw, 1, none⟩, cw - 1, ⟨by omega, tail_C (HCL.out w HB0.out) hlen⟩, ?_⟩
       clear htl
       rw [htl2]
       clear htl2
       first | (go_simp; done) | (go_simp; rfl))); intro At ct hAt; have hg2x := wld.cellA hg2 (.cells #[.slice At tl ct, .bool false] 134)) | ((with_reducible refine gate_dst (N := 65) rfl ?_); go_loud (refine dyn_ (some 65) rfl rfl rfl rfl (by simp only [aT, aK, aL]; rfl) hsh ?_)))
      have htl := HTL.out
      subst htl
      have HA4 := wld.alloc_same w8 (.cells #[.slice At ws.tail.length ct, .bool false] 134)
      have hb4 := b1_ (Below.refl w8.heap.size w8) (.cells #[.slice At ws.tail.length ct, .bool false] 134)
      have hcl := RD.calls (W := W) (w0 := w) (rb := w8.heap.size) (vl := vl) (v0 := v0) (v1 := v1) (v2 := v2) (v3 := v3) (lines := lines) (ws := ws.tail) (s := s) (HRD.out.kc (KC.of_below hb4)) (fun cb' hcb => ⟨⟨At, ct, HA4, HB.out.size, hAt.1, hAt.2⟩, below_step HB.out hb4, HE.out, hcb, (hb4.block sb (Nat.lt_of_lt_of_le (blk_lt HSB.out) HB.out.size)).trans ((HB.out.block sb (blk_lt HSB.out)).trans HSB.out), (HRO.out.below HB.out).below hb4, below_step (below_step HBW.out HB.out) hb4, Nat.le_trans HBW.out.size HB.out.size, HGS.out⟩) (fun y hy => HSZ.out y (List.mem_of_mem_tail hy)) (by simp; omega) HLS.out HCO.out
      obtain ⟨f', caps', hc', _, hcalls⟩ := hcl
      injection hc' with e1 e2 e3
      cases e1
      have e4 : caps = caps' := by simpa using congrArg Array.toList e3
      subst e4
      clear e2 e3
      refine hcalls.mono ?_
      rintro e w5 ⟨rfl, bad, u0, u1, u2, u3, s', hbad, hbd, hsb', hr', hs', hb'⟩
      refine ⟨_, rfl, ?_⟩
      clear hb4 hcalls HA4
      have HQ1 := am_ hsb'
      have HQ2 := am_ hr'
      have HQ3 := am_ hs'
      have HQ4 := am_ hb'
      clear hsb' hr' hs' hb'
      cases hrd' : rd ws.tail s with
      | none =>
       rw [hrd'] at hbd
       have hbt : bad = true := hbd
       clear hbd
       subst hbt
       go_wp2_with fail
       go_ret
       rw [lineOf_rd hsel HCO.out, hrd']
       exact ⟨rfl, u0, u1, u2, u3, s', HQ1.out, HQ2.out, (fun x hx => by cases hx), HQ4.out⟩
      | some s2 =>
       rw [hrd'] at hbd
       have hbt : bad = false := hbd
       clear hbd
       subst hbt
       go_wp2_with fail
       go_ret
       rw [lineOf_rd hsel HCO.out, hrd']
       exact ⟨rfl, u0, u1, u2, u3, s', HQ1.out, HQ2.out, (fun x hx => HQ3.out x (by rw [hrd']; exact hx)), HQ4.out⟩
   go_wp2_with ((with_reducible refine gate_dst (N := 37) rfl ?_); refine cut_event rfl rfl (fun A c => tl ≤ c ∧ Kd.string.C w A ws.tail.length ws.tail) tl ?hr ?_; (case hr => exact (by
    have htl := HTL.out
    have hge : ¬ ((ws.length : Int) < 1) := by omega
    have hge2 : (1 : Int) ≤ (ws.length : Int) := by omega
    by_cases hc1' : cw = 1
    · have hw1 : ws.length = 1 := by omega
      have ht : ws.tail = [] := by cases ws with | nil => simp at hne | cons x l => simp at hw1; simpa using hw1
      have ht0 : tl = 0 := by rw [htl, ht]; rfl
      subst ht0
      refine ⟨some ⟨gw, 0, none⟩, 0, ⟨Nat.le_refl _, by rw [ht]; exact nil_C⟩, ?_⟩
      clear htl
      subst hc1'
      have hge3 : ws.length - 1 = 0 := by omega
      first | (go_simp; done) | (go_simp; rfl)
    have htl2 : tl = ws.length - 1 := by rw [htl]; simp
    refine ⟨some ⟨gw, 1, none⟩, cw - 1, ⟨by omega, tail_C (HCL.out w HB0.out) hlen⟩, ?_⟩
    clear htl
    rw [htl2]
    clear htl2
    first | (go_simp; done) | (go_simp; rfl))); intro At ct hAt)
   go_ret
   rw [lineOf_bad hsel (.inl (HTL.out ▸ of_decide_eq_true hc1))]
   exact ⟨rfl, v0, v1, v2, v3, s, (HB.out.block sb (blk_lt HSB.out)).trans HSB.out, HRO.out.below HB.out, (fun x hx => by cases hx), below_step HBW.out HB.out⟩
 have hs0 : selOf ws = formOf (hd0 ws) := by
  unfold selOf
  rw [if_neg (fun h => by omega)]
 rotate_left
 have hs0 : selOf ws = formOf (hd0 ws) := by
  unfold selOf
  rw [if_neg (fun h => hask (HS0.out.1 h.1))]
 rotate_left
 all_goals
  rw [← hs0] at HF
  have hg0 := (blk_cell HG.out 0).trans rfl
  have hg1 := (blk_cell HG.out 1).trans rfl
  have hg2 := (blk_cell HG.out 2).trans rfl
  rcases hsel : selOf ws with _ | ⟨n', more', rd⟩
  · have his : is = false := by have := HF.out.2; rw [hsel] at this; exact this
    subst his
    go_wp2_with ((with_reducible refine gate_dst (N := 37) rfl ?_); refine cut_event rfl rfl (fun A c => tl ≤ c ∧ Kd.string.C w A ws.tail.length ws.tail) tl ?hr ?_; (case hr => exact (by
     have htl := HTL.out
     have hge : ¬ ((ws.length : Int) < 1) := by omega
     have hge2 : (1 : Int) ≤ (ws.length : Int) := by omega
     by_cases hc1' : cw = 1
     · have hw1 : ws.length = 1 := by omega
       have ht : ws.tail = [] := by cases ws with | nil => simp at hne | cons x l => simp at hw1; simpa using hw1
       have ht0 : tl = 0 := by rw [htl, ht]; rfl
       subst ht0
       refine ⟨some ⟨gw, 0, none⟩, 0, ⟨Nat.le_refl _, by rw [ht]; exact nil_C⟩, ?_⟩
       clear htl
       subst hc1'
       have hge3 : ws.length - 1 = 0 := by omega
       first | (go_simp; done) | (go_simp; rfl)
     have htl2 : tl = ws.length - 1 := by rw [htl]; simp
     refine ⟨some ⟨gw, 1, none⟩, cw - 1, ⟨by omega, tail_C (HCL.out w HB0.out) hlen⟩, ?_⟩
     clear htl
     rw [htl2]
     clear htl2
     first | (go_simp; done) | (go_simp; rfl))); intro At ct hAt)
    go_ret
    rw [lineOf_none hsel]
    exact ⟨rfl, v0, v1, v2, v3, s, (HB.out.block sb (blk_lt HSB.out)).trans HSB.out, HRO.out.below HB.out, (fun x hx => by cases hx), below_step HBW.out HB.out⟩
  obtain ⟨hn, hm, hrd, his⟩ : n = n' ∧ more = more' ∧ RD sb w3 c n more rd ∧ is = true := by have := HF.out.2; rw [hsel] at this; exact this
  subst hn hm his
  have HRD := am_ hrd
  clear hrd
  rcases hc1 : decide ((tl : Int) < n) with _ | _
  · rcases hc2 : decide (n < (tl : Int)) with _ | _
    · have hcond : ¬ ((ws.tail.length : Int) < n ∨ ((ws.tail.length : Int) > n ∧ more = false)) := by
        have h1 := of_decide_eq_false hc1
        have htl := HTL.out
        have h2 := of_decide_eq_false hc2
        rintro (h | ⟨h, _⟩) <;> omega
      have HCO := am_ hcond
      clear hcond
      obtain ⟨f, caps, hcf, hsh⟩ := HRD.out.shape
      subst hcf
      go_wp2_with (first | ((with_reducible refine gate_dst (N := 37) rfl ?_); refine cut_event rfl rfl (fun A c => tl ≤ c ∧ Kd.string.C w A ws.tail.length ws.tail) tl ?hr ?_; (case hr => exact (by
       have htl := HTL.out
       have hge : ¬ ((ws.length : Int) < 1) := by omega
       have hge2 : (1 : Int) ≤ (ws.length : Int) := by omega
       by_cases hc1' : cw = 1
       · have hw1 : ws.length = 1 := by omega
         have ht : ws.tail = [] := by cases ws with | nil => simp at hne | cons x l => simp at hw1; simpa using hw1
         have ht0 : tl = 0 := by rw [htl, ht]; rfl
         subst ht0
         refine ⟨some ⟨gw, 0, none⟩, 0, ⟨Nat.le_refl _, by rw [ht]; exact nil_C⟩, ?_⟩
         clear htl
         subst hc1'
         have hge3 : ws.length - 1 = 0 := by omega
         first | (go_simp; done) | (go_simp; rfl)
       have htl2 : tl = ws.length - 1 := by rw [htl]; simp
       refine ⟨some ⟨gw, 1, none⟩, cw - 1, ⟨by omega, tail_C (HCL.out w HB0.out) hlen⟩, ?_⟩
       clear htl
       rw [htl2]
       clear htl2
       first | (go_simp; done) | (go_simp; rfl))); intro At ct hAt; have hg2x := wld.cellA hg2 (.cells #[.slice At tl ct, .bool false] 134)) | ((with_reducible refine gate_dst (N := 65) rfl ?_); go_loud (refine dyn_ (some 65) rfl rfl rfl rfl (by simp only [aT, aK, aL]; rfl) hsh ?_)))
      have htl := HTL.out
      subst htl
      have HA4 := wld.alloc_same w3 (.cells #[.slice At ws.tail.length ct, .bool false] 134)
      have hb4 := b1_ (Below.refl w3.heap.size w3) (.cells #[.slice At ws.tail.length ct, .bool false] 134)
      have hcl := RD.calls (W := W) (w0 := w) (rb := w3.heap.size) (vl := vl) (v0 := v0) (v1 := v1) (v2 := v2) (v3 := v3) (lines := lines) (ws := ws.tail) (s := s) (HRD.out.kc (KC.of_below hb4)) (fun cb' hcb => ⟨⟨At, ct, HA4, HB.out.size, hAt.1, hAt.2⟩, below_step HB.out hb4, HE.out, hcb, (hb4.block sb (Nat.lt_of_lt_of_le (blk_lt HSB.out) HB.out.size)).trans ((HB.out.block sb (blk_lt HSB.out)).trans HSB.out), (HRO.out.below HB.out).below hb4, below_step (below_step HBW.out HB.out) hb4, Nat.le_trans HBW.out.size HB.out.size, HGS.out⟩) (fun y hy => HSZ.out y (List.mem_of_mem_tail hy)) (by simp; omega) HLS.out HCO.out
      obtain ⟨f', caps', hc', _, hcalls⟩ := hcl
      injection hc' with e1 e2 e3
      cases e1
      have e4 : caps = caps' := by simpa using congrArg Array.toList e3
      subst e4
      clear e2 e3
      refine hcalls.mono ?_
      rintro e w5 ⟨rfl, bad, u0, u1, u2, u3, s', hbad, hbd, hsb', hr', hs', hb'⟩
      refine ⟨_, rfl, ?_⟩
      clear hb4 hcalls HA4
      have HQ1 := am_ hsb'
      have HQ2 := am_ hr'
      have HQ3 := am_ hs'
      have HQ4 := am_ hb'
      clear hsb' hr' hs' hb'
      cases hrd' : rd ws.tail s with
      | none =>
       rw [hrd'] at hbd
       have hbt : bad = true := hbd
       clear hbd
       subst hbt
       go_wp2_with fail
       go_ret
       rw [lineOf_rd hsel HCO.out, hrd']
       exact ⟨rfl, u0, u1, u2, u3, s', HQ1.out, HQ2.out, (fun x hx => by cases hx), HQ4.out⟩
      | some s2 =>
       rw [hrd'] at hbd
       have hbt : bad = false := hbd
       clear hbd
       subst hbt
       go_wp2_with fail
       go_ret
       rw [lineOf_rd hsel HCO.out, hrd']
       exact ⟨rfl, u0, u1, u2, u3, s', HQ1.out, HQ2.out, (fun x hx => HQ3.out x (by rw [hrd']; exact hx)), HQ4.out⟩
    cases more with
    | false =>
     go_wp2_with ((with_reducible refine gate_dst (N := 37) rfl ?_); refine cut_event rfl rfl (fun A c => tl ≤ c ∧ Kd.string.C w A ws.tail.length ws.tail) tl ?hr ?_; (case hr => exact (by
      have htl := HTL.out
      have hge : ¬ ((ws.length : Int) < 1) := by omega
      have hge2 : (1 : Int) ≤ (ws.length : Int) := by omega
      by_cases hc1' : cw = 1
      · have hw1 : ws.length = 1 := by omega
        have ht : ws.tail = [] := by cases ws with | nil => simp at hne | cons x l => simp at hw1; simpa using hw1
        have ht0 : tl = 0 := by rw [htl, ht]; rfl
        subst ht0
        refine ⟨some ⟨gw, 0, none⟩, 0, ⟨Nat.le_refl _, by rw [ht]; exact nil_C⟩, ?_⟩
        clear htl
        subst hc1'
        have hge3 : ws.length - 1 = 0 := by omega
        first | (go_simp; done) | (go_simp; rfl)
      have htl2 : tl = ws.length - 1 := by rw [htl]; simp
      refine ⟨some ⟨gw, 1, none⟩, cw - 1, ⟨by omega, tail_C (HCL.out w HB0.out) hlen⟩, ?_⟩
      clear htl
      rw [htl2]
      clear htl2
      first | (go_simp; done) | (go_simp; rfl))); intro At ct hAt)
     go_ret
     rw [lineOf_bad hsel (.inr ⟨HTL.out ▸ of_decide_eq_true hc2, rfl⟩)]
     exact ⟨rfl, v0, v1, v2, v3, s, (HB.out.block sb (blk_lt HSB.out)).trans HSB.out, HRO.out.below HB.out, (fun x hx => by cases hx), below_step HBW.out HB.out⟩
    | true =>
     have hcond : ¬ ((ws.tail.length : Int) < n ∨ ((ws.tail.length : Int) > n ∧ true = false)) := by
      have h1 := of_decide_eq_false hc1
      have htl := HTL.out
      rintro (h | ⟨_, h⟩)
      · omega
      cases h
     have HCO := am_ hcond
     clear hcond
     obtain ⟨f, caps, hcf, hsh⟩ := HRD.out.shape
     subst hcf
     go_wp2_with (first | ((with_reducible refine gate_dst (N := 37) rfl ?_); refine cut_event rfl rfl (fun A c => tl ≤ c ∧ Kd.string.C w A ws.tail.length ws.tail) tl ?hr ?_; (case hr => exact (by
      have htl := HTL.out
      have hge : ¬ ((ws.length : Int) < 1) := by omega
      have hge2 : (1 : Int) ≤ (ws.length : Int) := by omega
      by_cases hc1' : cw = 1
      · have hw1 : ws.length = 1 := by omega
        have ht : ws.tail = [] := by cases ws with | nil => simp at hne | cons x l => simp at hw1; simpa using hw1
        have ht0 : tl = 0 := by rw [htl, ht]; rfl
        subst ht0
        refine ⟨some ⟨gw, 0, none⟩, 0, ⟨Nat.le_refl _, by rw [ht]; exact nil_C⟩, ?_⟩
        clear htl
        subst hc1'
        have hge3 : ws.length - 1 = 0 := by omega
        first | (go_simp; done) | (go_simp; rfl)
      have htl2 : tl = ws.length - 1 := by rw [htl]; simp
      refine ⟨some ⟨gw, 1, none⟩, cw - 1, ⟨by omega, tail_C (HCL.out w HB0.out) hlen⟩, ?_⟩
      clear htl
      rw [htl2]
      clear htl2
      first | (go_simp; done) | (go_simp; rfl))); intro At ct hAt; have hg2x := wld.cellA hg2 (.cells #[.slice At tl ct, .bool false] 134)) | ((with_reducible refine gate_dst (N := 65) rfl ?_); go_loud (refine dyn_ (some 65) rfl rfl rfl rfl (by simp only [aT, aK, aL]; rfl) hsh ?_)))
     have htl := HTL.out
     subst htl
     have HA4 := wld.alloc_same w3 (.cells #[.slice At ws.tail.length ct, .bool false] 134)
     have hb4 := b1_ (Below.refl w3.heap.size w3) (.cells #[.slice At ws.tail.length ct, .bool false] 134)
     have hcl := RD.calls (W := W) (w0 := w) (rb := w3.heap.size) (vl := vl) (v0 := v0) (v1 := v1) (v2 := v2) (v3 := v3) (lines := lines) (ws := ws.tail) (s := s) (HRD.out.kc (KC.of_below hb4)) (fun cb' hcb => ⟨⟨At, ct, HA4, HB.out.size, hAt.1, hAt.2⟩, below_step HB.out hb4, HE.out, hcb, (hb4.block sb (Nat.lt_of_lt_of_le (blk_lt HSB.out) HB.out.size)).trans ((HB.out.block sb (blk_lt HSB.out)).trans HSB.out), (HRO.out.below HB.out).below hb4, below_step (below_step HBW.out HB.out) hb4, Nat.le_trans HBW.out.size HB.out.size, HGS.out⟩) (fun y hy => HSZ.out y (List.mem_of_mem_tail hy)) (by simp; omega) HLS.out HCO.out
     obtain ⟨f', caps', hc', _, hcalls⟩ := hcl
     injection hc' with e1 e2 e3
     cases e1
     have e4 : caps = caps' := by simpa using congrArg Array.toList e3
     subst e4
     clear e2 e3
     refine hcalls.mono ?_
     rintro e w5 ⟨rfl, bad, u0, u1, u2, u3, s', hbad, hbd, hsb', hr', hs', hb'⟩
     refine ⟨_, rfl, ?_⟩
     clear hb4 hcalls HA4
     have HQ1 := am_ hsb'
     have HQ2 := am_ hr'
     have HQ3 := am_ hs'
     have HQ4 := am_ hb'
     clear hsb' hr' hs' hb'
     cases hrd' : rd ws.tail s with
     | none =>
      rw [hrd'] at hbd
      have hbt : bad = true := hbd
      clear hbd
      subst hbt
      go_wp2_with fail
      go_ret
      rw [lineOf_rd hsel HCO.out, hrd']
      exact ⟨rfl, u0, u1, u2, u3, s', HQ1.out, HQ2.out, (fun x hx => by cases hx), HQ4.out⟩
     | some s2 =>
      rw [hrd'] at hbd
      have hbt : bad = false := hbd
      clear hbd
      subst hbt
      go_wp2_with fail
      go_ret
      rw [lineOf_rd hsel HCO.out, hrd']
      exact ⟨rfl, u0, u1, u2, u3, s', HQ1.out, HQ2.out, (fun x hx => HQ3.out x (by rw [hrd']; exact hx)), HQ4.out⟩
  go_wp2_with ((with_reducible refine gate_dst (N := 37) rfl ?_); refine cut_event rfl rfl (fun A c => tl ≤ c ∧ Kd.string.C w A ws.tail.length ws.tail) tl ?hr ?_; (case hr => exact (by
   have htl := HTL.out
   have hge : ¬ ((ws.length : Int) < 1) := by omega
   have hge2 : (1 : Int) ≤ (ws.length : Int) := by omega
   by_cases hc1' : cw = 1
   · have hw1 : ws.length = 1 := by omega
     have ht : ws.tail = [] := by cases ws with | nil => simp at hne | cons x l => simp at hw1; simpa using hw1
     have ht0 : tl = 0 := by rw [htl, ht]; rfl
     subst ht0
     refine ⟨some ⟨gw, 0, none⟩, 0, ⟨Nat.le_refl _, by rw [ht]; exact nil_C⟩, ?_⟩
     clear htl
     subst hc1'
     have hge3 : ws.length - 1 = 0 := by omega
     first | (go_simp; done) | (go_simp; rfl)
   have htl2 : tl = ws.length - 1 := by rw [htl]; simp
   refine ⟨some ⟨gw, 1, none⟩, cw - 1, ⟨by omega, tail_C (HCL.out w HB0.out) hlen⟩, ?_⟩
   clear htl
   rw [htl2]
   clear htl2
   first | (go_simp; done) | (go_simp; rfl))); intro At ct hAt)
  go_ret
  rw [lineOf_bad hsel (.inl (HTL.out ▸ of_decide_eq_true hc1))]
  exact ⟨rfl, v0, v1, v2, v3, s, (HB.out.block sb (blk_lt HSB.out)).trans HSB.out, HRO.out.below HB.out, (fun x hx => by cases hx), below_step HBW.out HB.out⟩
end Go.Proofs.YtndbbgihpoiojaaGreatDoor.Q
namespace Go.Proofs.YtndbbgihpoiojaaGreatDoor.it
open Go Go.RowKit Go.Proofs.YtndbbgihpoiojaaGreatDoor.wld
variable {F : Fence} {n : Nat} {P : Program}
def KB (b m : Nat) (A B : World) : Prop := ∀ k, b ≤ k → k < b + m → B.heap[k]? = A.heap[k]?
theorem KB.refl (b m : Nat) (A : World) : KB b m A A := fun _ _ _ => rfl
theorem KB.trans {b m : Nat} {A B C : World} (h : KB b m A B) (h' : KB b m B C) : KB b m A C := fun k h1 h2 => (h' k h1 h2).trans (h k h1 h2)
def SeqAll {α : Type} (F : Fence) (n : Nat) (P : Program) (g : Nat) (lb : Array Value) (encs : α → Array Value) (b m : Nat) (xs : List α) (w : World) : Prop :=
 ∀ (l : Nat) (J : List α → World → Prop) (W : World), KB b m w W → w.heap.size ≤ W.heap.size → (∀ s A B, J s A → Kept (fun k => k = b) A B → J s B) →
  (∀ pre x rest W1, xs = pre ++ x :: rest → J pre W1 → YieldAt F (n - 1) P l (encs x) W1 fun e W' => e = .returned (.bool true) ∧ J (pre ++ [x]) W' ∧ KB b m W1 W') → J [] W →
  CallsIn F n P g (#[.func (.yield l) #[] #[]] ++ lb) W fun e W' => (∃ v, e = .returned v) ∧ J xs W'
def allPost {α : Type} (I : List α → World → Prop) (b m : Nat) (xs : List α) (W : World) : Exit → Act → World → Prop
 | .normal, _, W' => KeepsOthers W W' ∧ KB b m W W' ∧ I xs W'
 | _, _, _ => False
theorem wpIn_rangeFunc_all {α : Type} {g : Operand} {ps : Array Tmp} {assign body : Code} {Q : Exit → Act → World → Prop} {a : Act} {w : World}
 (hro : F.round = none) (h1 : 1 ≤ n) {gf : Nat} {lb : Array Value} (hg : a.eval g = .func (.func gf) #[] lb) (hFg : F.fn gf) (eg : ∀ args w, (callFunc gf args).run P w = .ok (.enter gf args) w)
 {encs : α → Array Value} {b m : Nat} {xs : List α} (hm : 0 < m) (hb : b + m ≤ w.heap.size) (hseq : SeqAll F (n - 1) P gf lb encs b m xs w) (hps : ∀ x, (encs x).size = ps.size)
 (I : List α → World → Prop) (hI : OwnFrom w.heap.size I) (hIb : ∀ s A B, I s A → Kept (fun k => k = b) A B → I s B) (h0 : I [] w) (a₁ : α → Act)
 (hassign : ∀ (l : Nat) (x : α) (W : World) (K : Act → World → Prop), K (a₁ x) W →
  assign.wpIn (F.inRound l) (n - 1 - 1) P (Exit.then K (fun _ _ _ => False)) { tmps := (ps.zip (encs x)).foldl (fun t (p, v) => t.setIfInBounds p v) a.tmps, defers := [] } W)
 (hbody : ∀ (l : Nat) (pre : List α) (x : α) (rest : List α) (W : World), xs = pre ++ x :: rest → I pre W → w.heap.size + 1 < W.heap.size → body.wpIn (F.inRound l) (n - 1 - 1) P (allPost I b m (pre ++ [x]) W) (a₁ x) W)
 (hdone : ∀ (D : Nat) (W : World), w.heap.size ≤ D → I xs W → W.heap[D]? = some (.deferred (some [])) → Q .normal { a with defers := { target := .collected D, args := #[] } :: a.defers } W) :
 (Code.rangeFunc g ps assign body).wpIn F n P Q a w := by
 refine wpIn_rangeFunc ?_
 intro fn hfn
 rw [hro]
 obtain ⟨rec, hrec⟩ : ∃ rec : LoopState → Option Code → Loop, rec = fun st pe => { state := st, pending := pe, fn, tmps := a.tmps, params := ps, assign, body, defers := w.heap.size } := ⟨_, rfl⟩
 obtain ⟨W1, hW1⟩ : ∃ W1, (w.alloc (.deferred (some []))).alloc (.loop (rec .ready none)) = W1 := ⟨_, rfl⟩
 have hL1 : W1.heap[w.heap.size + 1]? = some (.loop (rec .ready none)) := by
  rw [← hW1]; have := World.alloc_heap_new (w.alloc (.deferred (some []))) (.loop (rec .ready none)); rwa [World.size_alloc] at this
 have hK1 : W1.heap[w.heap.size]? = some (.deferred (some [])) := by
  rw [← hW1]; exact (Below.heap_alloc _ _ _ (by simp)).trans (World.alloc_heap_new w _)
 have hI1 : I [] W1 := by rw [← hW1]; exact hI.alloc _ (hI.alloc _ h0)
 have hb1 : KB b m w W1 := fun k h1 h2 => by
  rw [← hW1]; exact (Below.heap_alloc _ _ _ (by simp; omega)).trans (Below.heap_alloc _ _ _ (by omega))
 have hs1 : w.heap.size ≤ W1.heap.size := by rw [← hW1]; simp; omega
 refine ⟨w.heap.size + 1, [{ target := .collected w.heap.size, args := #[] }], W1, { target := .fn (.func gf) lb, args := #[.func (.yield (w.heap.size + 1)) #[] #[]] }, W1, gf,
  #[.func (.yield (w.heap.size + 1)) #[] #[]] ++ lb, W1, ?_, ?_, ?_, ?_, fun _ => h1, ?_⟩
 · rw [← hW1, hrec]; exact run_enterLoop_outer _ _ _ _ _
 · simp only [resolve, hg]
   simp [go_sem]
 · intro f' hf'; simp [Target.leads] at hf'; subst hf'; exact hFg
 · simp [invoke, go_sem, eg]
 refine (hseq (w.heap.size + 1)
  (fun pre W => I pre W ∧ W.heap[w.heap.size + 1]? = some (.loop (rec .ready none)) ∧ W.heap[w.heap.size]? = some (.deferred (some [])))
  W1 hb1 hs1
  (fun s A B hs hk => ⟨hIb s A B hs.1 hk, (hk.block _ (wld.lt_of_block hs.2.1) (by omega)).trans hs.2.1, (hk.block _ (wld.lt_of_block hs.2.2) (by omega)).trans hs.2.2⟩)
  ?_ ⟨hI1, hL1, hK1⟩).mono ?_
 · rintro pre x rest W hxs ⟨hi, hl, hk⟩
   have hlt : w.heap.size + 1 < W.heap.size := (Array.getElem?_eq_some_iff.1 hl).1
   have hy := run_yield (P := P) (args := encs x) hl (by rw [hrec]; exact hps x)
   rw [hrec] at hy
   refine ⟨fn, _, assign, body, hy, roundIn_of_wpIn hfn (hassign _ x W _ ⟨_, run_beginRound hl (by rw [hrec]), ?_⟩)⟩
   have hl2 : (W.putObj (w.heap.size + 1) (.loop { rec .ready none with state := .busy })).heap[w.heap.size + 1]? = some (.loop { rec .ready none with state := .busy }) := World.putObj_heap_same hlt
   have hk2 : (W.putObj (w.heap.size + 1) (.loop { rec .ready none with state := .busy })).heap[w.heap.size]? = some (.deferred (some [])) := (World.putObj_heap_other (by omega)).trans hk
   have hw2 : KB b m W (W.putObj (w.heap.size + 1) (.loop { rec .ready none with state := .busy })) := fun k h1 h2 => World.putObj_heap_other (by omega)
   refine wpIn_mono (hbody _ pre x rest _ hxs (hI.putObj _ hi (by omega) hl rfl) (by simpa using hlt)) ?_
   rintro e a3 W3 hp
   cases e with
   | normal =>
    obtain ⟨hk3, hkp3, hi3⟩ := hp
    have hl3 := hk3.same _ _ hl2 rfl
    have hr := run_endRound (P := P) none hl3
    refine ⟨_, _, hr, rfl, ⟨hI.putObj _ hi3 (by omega) hl3 rfl, ?_, (World.putObj_heap_other (by omega)).trans (hk3.same _ _ hk2 rfl)⟩, ?_⟩
    · rw [World.putObj_heap_same (Array.getElem?_eq_some_iff.1 hl3).1, hrec]; rfl
    exact (hw2.trans hkp3).trans fun k h1 h2 => World.putObj_heap_other (by omega)
   | ret => exact hp.elim
   | exit id => exact hp.elim
   | goto t => exact hp.elim
   | panic ch => exact hp.elim
   | outgrown => exact hp.elim
 rintro e W2 ⟨⟨v, rfl⟩, hi, hl, hk⟩
 exact ⟨none, _, by have := run_endLoop (P := P) hl (by rw [hrec]; simp); rw [hrec] at this; exact this, hdone _ _ (Nat.le_refl _) (hI.putObj _ hi (by omega) hl rfl) ((World.putObj_heap_other (by omega)).trans hk)⟩
end Go.Proofs.YtndbbgihpoiojaaGreatDoor.it
namespace Go.Proofs.YtndbbgihpoiojaaGreatDoor.it
open Go Go.RowKit Go.Shelf Go.Proofs.YtndbbgihpoiojaaGreatDoor.wld
attribute [local go_sem] Oper.semAt_some
def linesF : Nat → ByteArray → List ByteArray
 | 0, _ => []
 | k + 1, s => if s.size = 0 then [] else if Lib.indexByte s.data.toList 10 < 0 then [s] else
  s.extract 0 (Lib.indexByte s.data.toList 10 + 1).toNat :: linesF k (s.extract (Lib.indexByte s.data.toList 10 + 1).toNat s.size)
def splitF (c : UInt8) : Nat → ByteArray → List ByteArray
 | 0, s => [s]
 | k + 1, s => if Lib.indexByte s.data.toList c < 0 then [s] else
  s.extract 0 (Lib.indexByte s.data.toList c).toNat :: splitF c k (s.extract (Lib.indexByte s.data.toList c + 1).toNat s.size)
theorem indexByte_lt : ∀ (l : List UInt8) (c : UInt8), Lib.indexByte l c < l.length
 | [], _ => by unfold Lib.indexByte; simp
 | b :: l, c => by
  have ih := indexByte_lt l c
  unfold Lib.indexByte
  simp only [List.length_cons]
  split
  · omega
  split
  · omega
  omega
theorem extract_size' (s : ByteArray) (a : Nat) : (s.extract a s.size).size = s.size - a := by simp
theorem linesF_more : ∀ (k : Nat) (s : ByteArray), s.size ≤ k → linesF (k + 1) s = linesF k s
 | 0, s, h => by
  have : s.size = 0 := by omega
  simp [linesF, this]
 | k + 1, s, h => by
  rw [linesF]
  conv => rhs; rw [linesF]
  split
  · rfl
  rename_i h0
  split
  · rfl
  rename_i h1
  rw [linesF_more k _ (by rw [extract_size']; omega)]
def linesS (s : ByteArray) : List ByteArray := linesF s.size s
theorem linesF_ge (s : ByteArray) : ∀ (d : Nat), linesF (s.size + d) s = linesS s
 | 0 => rfl
 | d + 1 => (linesF_more (s.size + d) s (by omega)).trans (linesF_ge s d)
theorem linesS_nil (s : ByteArray) (h : s.size = 0) : linesS s = [] := by unfold linesS; rw [h]; rfl
theorem linesS_last (s : ByteArray) (h : s.size ≠ 0) (h1 : Lib.indexByte s.data.toList 10 < 0) : linesS s = [s] := by
 unfold linesS
 obtain ⟨k, hk⟩ : ∃ k, s.size = k + 1 := ⟨s.size - 1, by omega⟩
 rw [hk, linesF, if_neg h, if_pos h1]
theorem linesS_cons (s : ByteArray) (h : s.size ≠ 0) (h1 : ¬ Lib.indexByte s.data.toList 10 < 0) : linesS s = s.extract 0 (Lib.indexByte s.data.toList 10 + 1).toNat :: linesS (s.extract (Lib.indexByte s.data.toList 10 + 1).toNat s.size) := by
 have h2 := linesF_more s.size s (Nat.le_refl _)
 unfold linesS
 rw [← h2, linesF, if_neg h, if_neg h1]
 congr 1
 have := linesF_ge (s.extract (Lib.indexByte s.data.toList 10 + 1).toNat s.size) (s.size - (s.extract (Lib.indexByte s.data.toList 10 + 1).toNat s.size).size)
 rw [Nat.add_sub_cancel' (by rw [extract_size']; omega)] at this
 exact this
theorem splitF_more (c : UInt8) : ∀ (k : Nat) (s : ByteArray), s.size ≤ k → splitF c (k + 1) s = splitF c k s
 | 0, s, h => by
  have h0 : s.size = 0 := by omega
  have h1 := indexByte_lt s.data.toList c
  rw [← Lib.size_eq, h0] at h1
  rw [splitF, splitF, if_pos (by omega)]
 | k + 1, s, h => by
  rw [splitF]
  conv => rhs; rw [splitF]
  split
  · rfl
  rename_i h1
  by_cases h0 : s.size = 0
  · have h2 := indexByte_lt s.data.toList c
    rw [← Lib.size_eq, h0] at h2
    omega
  rw [splitF_more c k _ (by rw [extract_size']; omega)]
def splitS (c : UInt8) (s : ByteArray) : List ByteArray := splitF c s.size s
theorem splitF_ge (c : UInt8) (s : ByteArray) : ∀ (d : Nat), splitF c (s.size + d) s = splitS c s
 | 0 => rfl
 | d + 1 => (splitF_more c (s.size + d) s (by omega)).trans (splitF_ge c s d)
theorem splitS_last (c : UInt8) (s : ByteArray) (h1 : Lib.indexByte s.data.toList c < 0) : splitS c s = [s] := by
 have h2 := splitF_more c s.size s (Nat.le_refl _)
 unfold splitS
 rw [← h2, splitF, if_pos h1]
theorem splitS_cons (c : UInt8) (s : ByteArray) (h1 : ¬ Lib.indexByte s.data.toList c < 0) : splitS c s = s.extract 0 (Lib.indexByte s.data.toList c).toNat :: splitS c (s.extract (Lib.indexByte s.data.toList c + 1).toNat s.size) := by
 have h2 := splitF_more c s.size s (Nat.le_refl _)
 unfold splitS
 rw [← h2, splitF, if_neg h1]
 congr 1
 have := splitF_ge c (s.extract (Lib.indexByte s.data.toList c + 1).toNat s.size) (s.size - (s.extract (Lib.indexByte s.data.toList c + 1).toNat s.size).size)
 rw [Nat.add_sub_cancel' (by rw [extract_size']; omega)] at this
 exact this
theorem lines_c (s : ByteArray) (w : World) : Calls Tryz.prog 64 #[.string s] w fun e w' => e = .returned (.func (.func 81) #[] #[.pointer (some ⟨w.heap.size, 0, none⟩)]) ∧ w' = w.alloc (.cells #[.string s] 9) := by
 go_enter Tryz.func64, Tryz.ntmps64
 go_wp2
 go_ret
 exact ⟨rfl, rfl⟩
theorem splitSeq_c (s sep : ByteArray) (w : World) : Calls Tryz.prog 66 #[.string s, .string sep] w fun e w' => e = .returned (.func (.func 107) #[] #[.pointer (some ⟨w.heap.size + 1, 0, none⟩), .pointer (some ⟨w.heap.size, 0, none⟩), .pointer (some ⟨w.heap.size + 2, 0, none⟩)]) ∧
 w' = ((w.alloc (.cells #[.string s] 9)).alloc (.cells #[.string sep] 9)).alloc (.cells #[.int .i64 0] 3) := by
 go_enter Tryz.func66, Tryz.ntmps66
 go_wp2
 go_ret
 exact ⟨rfl, rfl⟩
def restB (b : Nat) (W : World) : Nat := match W.cell? ⟨b, 0, none⟩ with
 | some (.string s) => s.size
 | _ => 0
theorem keptSet (w : World) (b : Nat) (v : Value) : Kept (fun k => k = b) w (w.setCell ⟨b, 0, none⟩ v) := by
 exact (Kept.refl (fun k => k = b) w).set (p := ⟨b, 0, none⟩) (.inr (show b = b from rfl)) v
theorem keptDrew (w : World) (b : Nat) (v : Value) : Kept (fun k => k = b) w (w.setCell ⟨b, 0, none⟩ v).drew := (keptSet w b v).drew
theorem idx_c (s : ByteArray) (k : Int) (h : Lib.indexByte s.data.toList 10 = k) (w : World) : CallsIn Fence.wide 0 Tryz.prog 82 #[.string s, .int .u8 10] w fun e w' => e = .returned (.int .i64 k) ∧ w = w' := by
 subst h
 exact callsIn_wide.2 ((Tryz.strings_IndexByte s 10 w).mono fun _ _ h => ⟨h.1, h.2.symm⟩)
theorem restB_eq {b : Nat} {W : World} {r : ByteArray} (h : W.heap[b]? = some (.cells #[.string r] 9 (0, 0))) : restB b W = r.size := by
 have := wld.cell_of (o := 0) (v := .string r) h rfl
 simp [restB, this]
theorem lines1 (l b : Nat) (s : ByteArray) (hs : s.size ≤ maxLen) (J : List ByteArray → World → Prop) (hJ : ∀ p A B, J p A → Kept (fun k => k = b) A B → J p B)
 (hY : ∀ pre x rest W1, linesS s = pre ++ x :: rest → J pre W1 → YieldAt Fence.wide 0 Tryz.prog l #[.string x] W1 fun e W' => e = .returned (.bool true) ∧ J (pre ++ [x]) W' ∧ KB b 1 W1 W')
 (W : World) (hb : W.heap[b]? = some (.cells #[.string s] 9 (0, 0))) (h0 : J [] W) :
 CallsIn Fence.wide 1 Tryz.prog 81 #[.func (.yield l) #[] #[], .pointer (some ⟨b, 0, none⟩)] W fun e W' => (∃ v, e = .returned v) ∧ J (linesS s) W' := by
 unfold maxLen at hs
 refine callsIn_of_wp Tryz.func81 rfl trivial ?_ rfl
 simp only [Tryz.ntmps81, List.size_toArray, List.length_cons, List.length_nil, Nat.reduceAdd, Nat.reduceSub, Array.replicate_succ, Array.replicate_zero, List.push_toArray, List.append_toArray, List.nil_append, List.cons_append]
 gi_wp2
 gi_loopw [] (fun wr => ∃ (pre : List ByteArray) (r : ByteArray), wr.heap[b]? = some (.cells #[.string r] 9 (0, 0)) ∧ r.size ≤ s.size ∧ linesS s = pre ++ linesS r ∧ J pre wr)
  (fun wr => restB b wr)
 case atStart => exact ⟨[], s, hb, Nat.le_refl _, rfl, h0⟩
 case round =>
  obtain ⟨pre, r, hbr, hle, hx, hJr⟩ := hrel
  have hc := wld.cell_of (o := 0) (v := .string r) hbr rfl
  have hf := wld.free_of (o := 0) hbr
  have HX := Lib.hid hx
  have HB := Lib.hid hbr
  clear hx hbr
  by_cases hz : r.size = 0
  · gi_wp2
    go_end0
    exact ⟨⟨_, rfl⟩, by rw [HX.out, linesS_nil r hz, List.append_nil]; exact hJr⟩
  have hz' : 0 < r.size := by omega
  have HZ := Lib.hid hz
  clear hz
  by_cases hi : Lib.indexByte r.data.toList 10 < 0
  · obtain ⟨i, he⟩ : ∃ i, Lib.indexByte r.data.toList 10 = i := ⟨_, rfl⟩
    have hl := linesS_last r HZ.out hi
    rw [he] at hi
    have HL := Lib.hid hl
    have HE := Lib.hid he
    clear hl he
    obtain ⟨fn, tmps, assign, body, hy, hR⟩ := hY pre r [] (wr.setCell ⟨b, 0, none⟩ (.string ⟨#[]⟩)) (by rw [HX.out, HL.out]) (hJ _ _ _ hJr (keptSet _ _ _))
    gi_wp2_with (refine ⟨trivial, ?_⟩; gi_at_call 82; refine (idx_c r i HE.out _).mono ?_; rintro e w' ⟨rfl, rfl⟩)
    refine hR.mono ?_
    rintro e W3 ⟨rfl, hJ3, hk3⟩
    have hb3 := (hk3 b (Nat.le_refl _) (by omega)).trans (wld.set_same HB.out _)
    gi_wp2
    go_roundw
    case rel => exact ⟨pre ++ [r], ⟨#[]⟩, hb3, Nat.zero_le _, by rw [HX.out, HL.out, linesS_nil ⟨#[]⟩ rfl, List.append_nil], hJ3⟩
    case measure => 
     have e1 := restB_eq HB.out
     have e2 : restB b W3 = 0 := restB_eq (r := ⟨#[]⟩) hb3
     rw [e1, e2]
     exact hz'
  have hi2 := indexByte_lt r.data.toList 10
  rw [← Lib.size_eq] at hi2
  obtain ⟨k, he⟩ : ∃ k : Nat, Lib.indexByte r.data.toList 10 = k := ⟨(Lib.indexByte r.data.toList 10).toNat, by omega⟩
  have hl := linesS_cons r HZ.out hi
  rw [he] at hi2 hl
  have HL := Lib.hid hl
  have HE := Lib.hid he
  clear hl he hi
  have hk1 : k < r.size := by omega
  clear hi2
  gi_wp2_with (refine ⟨trivial, ?_⟩; gi_at_call 82; refine (idx_c r k HE.out _).mono ?_; rintro e w' ⟨rfl, rfl⟩)
  obtain ⟨fn, tmps, assign, body, hy, hR⟩ := hY pre (r.extract 0 (k + 1)) (linesS (r.extract (k + 1) r.size)) (wr.setCell ⟨b, 0, none⟩ (.string (r.extract (k + 1) r.size))).drew (by rw [HX.out, HL.out]; rfl) (hJ _ _ _ hJr (keptDrew _ _ _))
  gi_region
  gi_wp2
  refine hR.mono ?_
  rintro e W3 ⟨rfl, hJ3, hk3⟩
  have hb3 : W3.heap[b]? = some (.cells #[.string (r.extract (k + 1) r.size)] 9 (0, 0)) := (hk3 b (Nat.le_refl _) (by omega)).trans (wld.set_same HB.out _)
  gi_wp2
  go_roundw
  case rel => exact ⟨pre ++ [r.extract 0 (k + 1)], _, hb3, by rw [extract_size']; omega, by rw [HX.out, HL.out, List.append_assoc]; rfl, hJ3⟩
  case measure =>
   have e1 := restB_eq HB.out
   have e2 : restB b W3 = r.size - (k + 1) := by rw [restB_eq hb3, extract_size']
   rw [e1, e2]
   omega
theorem idx1_c (s : ByteArray) (k : Int) (h : Lib.indexByte s.data.toList 32 = k) (w : World) : CallsIn Fence.wide 0 Tryz.prog 108 #[.string s, .string ⟨#[32]⟩] w fun e w' => e = .returned (.int .i64 k) ∧ w = w' := by
 subst h
 exact callsIn_wide.2 ((Tryz.strings_Index_one s 32 w).mono fun _ _ h => ⟨h.1, h.2.symm⟩)
theorem split1 (l b : Nat) (s : ByteArray) (hs : s.size ≤ maxLen) (J : List ByteArray → World → Prop) (hJ : ∀ p A B, J p A → Kept (fun k => k = b) A B → J p B)
 (hY : ∀ pre x rest W1, splitS 32 s = pre ++ x :: rest → J pre W1 → YieldAt Fence.wide 0 Tryz.prog l #[.string x] W1 fun e W' => e = .returned (.bool true) ∧ J (pre ++ [x]) W' ∧ KB b 3 W1 W')
 (W : World) (hb : W.heap[b]? = some (.cells #[.string s] 9 (0, 0))) (hb1 : W.heap[b + 1]? = some (.cells #[.string ⟨#[32]⟩] 9 (0, 0))) (hb2 : W.heap[b + 2]? = some (.cells #[.int .i64 0] 3 (0, 0))) (h0 : J [] W) :
 CallsIn Fence.wide 1 Tryz.prog 107 #[.func (.yield l) #[] #[], .pointer (some ⟨b + 1, 0, none⟩), .pointer (some ⟨b, 0, none⟩), .pointer (some ⟨b + 2, 0, none⟩)] W fun e W' => (∃ v, e = .returned v) ∧ J (splitS 32 s) W' := by
 unfold maxLen at hs
 have hc1 := wld.cell_of (o := 0) (v := .string ⟨#[32]⟩) hb1 rfl
 refine callsIn_of_wp Tryz.func107 rfl trivial ?_ rfl
 simp only [Tryz.ntmps107, List.size_toArray, List.length_cons, List.length_nil, Nat.reduceAdd, Nat.reduceSub, Array.replicate_succ, Array.replicate_zero, List.push_toArray, List.append_toArray, List.nil_append, List.cons_append]
 gi_wp2
 gi_loopw [] (fun wr => ∃ (pre : List ByteArray) (r : ByteArray), wr.heap[b]? = some (.cells #[.string r] 9 (0, 0)) ∧ wr.heap[b + 1]? = some (.cells #[.string ⟨#[32]⟩] 9 (0, 0)) ∧ wr.heap[b + 2]? = some (.cells #[.int .i64 0] 3 (0, 0)) ∧ r.size ≤ s.size ∧ splitS 32 s = pre ++ splitS 32 r ∧ J pre wr)
  (fun wr => restB b wr)
 case atStart => exact ⟨[], s, hb, hb1, hb2, Nat.le_refl _, rfl, h0⟩
 case round =>
  clear hc1 hb hb1 hb2
  obtain ⟨pre, r, hbr, hb1, hb2, hle, hx, hJr⟩ := hrel
  have hc := wld.cell_of (o := 0) (v := .string r) hbr rfl
  have hf := wld.free_of (o := 0) hbr
  have hc1 := wld.cell_of (o := 0) (v := .string ⟨#[32]⟩) hb1 rfl
  have hc2 := wld.cell_of (o := 0) (v := .int .i64 0) hb2 rfl
  have HX := Lib.hid hx
  have HB := Lib.hid hbr
  have HB1 := Lib.hid hb1
  have HB2 := Lib.hid hb2
  clear hx hbr hb1 hb2
  by_cases hi : Lib.indexByte r.data.toList 32 < 0
  · obtain ⟨i, he⟩ : ∃ i, Lib.indexByte r.data.toList 32 = i := ⟨_, rfl⟩
    have hl := splitS_last 32 r hi
    rw [he] at hi
    have HL := Lib.hid hl
    have HE := Lib.hid he
    clear hl he
    obtain ⟨fn, tmps, assign, body, hy, hR⟩ := hY pre r [] wr (by rw [HX.out, HL.out]) hJr
    gi_wp2_with (refine ⟨trivial, ?_⟩; gi_at_call 108; refine (idx1_c r i HE.out _).mono ?_; rintro e w' ⟨rfl, rfl⟩)
    refine hR.mono ?_
    rintro e W3 ⟨rfl, hJ3, hk3⟩
    gi_wp2
    go_end0
    exact ⟨⟨_, rfl⟩, by rw [HX.out, HL.out]; exact hJ3⟩
  have hi2 := indexByte_lt r.data.toList 32
  rw [← Lib.size_eq] at hi2
  obtain ⟨k, he⟩ : ∃ k : Nat, Lib.indexByte r.data.toList 32 = k := ⟨(Lib.indexByte r.data.toList 32).toNat, by omega⟩
  have hl := splitS_cons 32 r hi
  rw [he] at hi2 hl
  have HL := Lib.hid hl
  have HE := Lib.hid he
  clear hl he hi
  have hk1 : k < r.size := by omega
  clear hi2
  obtain ⟨fn, tmps, assign, body, hy, hR⟩ := hY pre (r.extract 0 k) (splitS 32 (r.extract (k + 1) r.size)) wr (by rw [HX.out, HL.out]; rfl) hJr
  gi_wp2_with (refine ⟨trivial, ?_⟩; gi_at_call 108; refine (idx1_c r k HE.out _).mono ?_; rintro e w' ⟨rfl, rfl⟩)
  refine hR.mono ?_
  rintro e W3 ⟨rfl, hJ3, hk3⟩
  have hb3 := (hk3 b (Nat.le_refl _) (by omega)).trans HB.out
  have hb4 := (hk3 (b + 1) (by omega) (by omega)).trans HB1.out
  have hb5 := (hk3 (b + 2) (by omega) (by omega)).trans HB2.out
  have hc3 := wld.cell_of (o := 0) (v := .string r) hb3 rfl
  have hf3 := wld.free_of (o := 0) hb3
  have hc4 := wld.cell_of (o := 0) (v := .string ⟨#[32]⟩) hb4 rfl
  have HB3 := Lib.hid hb3
  have HB4 := Lib.hid hb4
  have HB5 := Lib.hid hb5
  clear hb3 hb4 hb5
  gi_wp2
  go_roundw
  case rel => exact ⟨pre ++ [r.extract 0 k], r.extract (k + 1) r.size, wld.set_same HB3.out _, (wld.set_other (by simp) _).trans HB4.out, (wld.set_other (by simp) _).trans HB5.out, by rw [extract_size']; omega, by rw [HX.out, HL.out, List.append_assoc]; rfl, hJ _ _ _ hJ3 (keptSet _ _ _)⟩
  case measure =>
   have e1 := restB_eq HB.out
   have e3 : (W3.setCell ⟨b, 0, none⟩ (.string (r.extract (k + 1) r.size))).heap[b]? = some (.cells #[.string (r.extract (k + 1) r.size)] 9 (0, 0)) := wld.set_same HB3.out _
   have e2 := (restB_eq e3).trans (extract_size' _ _)
   rw [e1, e2]
   omega
end Go.Proofs.YtndbbgihpoiojaaGreatDoor.it
namespace Go.Proofs.YtndbbgihpoiojaaGreatDoor.it
open Go Go.RowKit Go.Proofs.YtndbbgihpoiojaaGreatDoorW.PrintWords Go.Proofs.YtndbbgihpoiojaaGreatDoorW.PrintLast
section
variable {P : Program} {ops : Array Oper} {Q : Exit → Act → World → Prop}
theorem stepsIn_inRound {l : Nat} {m m' : Machine} : StepsIn (Machine.fenced P (Fence.wide.inRound l)) P m m' ↔ Steps P m m' := stepsIn_wide
theorem wpIn_of_wp {l n : Nat} {o : Oper} {a : Act} {w : World} {K : Act → World → Prop} (hd : ∀ c, o.op ≠ .defer c) (hQ : ∀ a w, ¬ Q .outgrown a w) (h : Oper.wp P o a w K Q) : Oper.wpIn (Fence.wide.inRound l) n P o a w K Q := by
 refine ⟨fun _ _ => trivial, ?_⟩
 have e : (o.semAt (Fence.wide.inRound l).round a.eval) = execOp a.eval o := Oper.semAt_plain _ _ _ hd
 rw [e]
 unfold Oper.wp at h
 generalize (execOp a.eval o).run P w = r at h ⊢
 cases r with
 | ok x w' =>
  cases x with
  | value v => exact h
  | skip => exact h
  | defer d => exact h
  | enter f args => exact ⟨fun h => (by cases h), CallsIn.inRound l (callsIn_wide.2 (h.mono fun e w'' he => by cases e <;> exact he))⟩
  | row r args => exact ⟨fun h => (by cases h), fun c cs _ => let ⟨v, w', r, s⟩ := h c cs; ⟨v, w', r, stepsIn_inRound.2 s⟩⟩
  | _ => exact h.elim
 | halt x w' => cases x <;> exact h
theorem wpOpIn_of_wpOp {l n : Nat} {i : Nat} {a : Act} {w : World} {K : Act → World → Prop} (hd : ∀ o ∈ ops.toList, ∀ c, o.op ≠ .defer c) (hQ : ∀ a w, ¬ Q .outgrown a w) (h : wpOp P ops Q i K a w) : wpOpIn (Fence.wide.inRound l) n P ops Q i K a w := by
 unfold wpOp at h
 unfold wpOpIn
 split at h
 · rename_i e; simp only [e]; exact h
 rename_i o e
 simp only [e]
 have hm : o ∈ ops.toList := by
  obtain ⟨hi, rfl⟩ := Array.getElem?_eq_some_iff.1 e
  simp
 split at h
 · rename_i hw
   rw [if_pos hw]
   rcases h with h | ⟨_, a', w', h⟩
   · exact wpIn_of_wp (hd o hm) hQ h
   exact absurd h (hQ _ _)
 rename_i hw
 rw [if_neg hw]
 exact ⟨fun _ _ => trivial, h⟩
theorem wpAnyIn_of_wpAny {md : Region.Mode} {l n : Nat} (hd : ∀ o ∈ ops.toList, ∀ c, o.op ≠ .defer c) (hQ : ∀ a w, ¬ Q .outgrown a w) : ∀ (fuel : Nat) (listed : Array Bool) (a : Act) (w : World), wpAny P md ops Q fuel listed a w → wpAnyIn (Fence.wide.inRound l) n P md ops Q fuel listed a w
 | 0, _, _, _, h => h
 | fuel + 1, _, _, _, h => ⟨h.1, fun i hi => wpOpIn_mono (fun a' w' h' => wpAnyIn_of_wpAny hd hQ fuel _ a' w' h') (wpOpIn_of_wpOp hd hQ (h.2 i hi))⟩
def noDefer (ops : Array Oper) : Bool := ops.toList.all fun o => match o.op with
 | .defer _ => false
 | _ => true
theorem noDefer_spec (h : noDefer ops = true) : ∀ o ∈ ops.toList, ∀ c, o.op ≠ .defer c := fun o ho c e => by
 have := List.all_eq_true.1 h o ho
 rw [e] at this
 cases this
theorem startR_ {S : World → Prop} {ds : List Nat} {lp m id n : Nat} {a : Act} {w : World} (l : Array Bool) (hm : P.follows .mixedOrders = true) (hn : ops.size = n) (hl : Array.replicate n false = l) (hd : noDefer ops = true) (hQ : ∀ a w, ¬ Q .outgrown a w) (hS : S w.drew)
 (h : S w.drew → wpAnyLast P .any ops Q S ds n l a w.drew) : (Code.region id ops true).wpIn (Fence.wide.inRound lp) m P Q a w := by
 subst hn
 subst hl
 exact wpIn_region_any hm (wpAnyIn_of_wpAny (noDefer_spec hd) hQ _ _ _ _ (wpAny_of_last _ _ _ _ (h hS)))
end
end Go.Proofs.YtndbbgihpoiojaaGreatDoor.it
