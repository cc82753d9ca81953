/- TableTexts: the walk. -/
import Derived.Test.YtonjoboilpoamaaX1
import Derived.Test.YtonjoboilpoamaaTS7
import Derived.Test.YtonjoboilpoamaaH1
import Derived.Deep.RegionHeld3
import Derived.Deep.DrawnRows
namespace Go.Proofs.Ytonjoboilpoamaa.texts
set_option linter.unusedVariables false
open Go.RowKit Go.Proofs.Ytonjoboilpoamaa.wld Go.Proofs.Ytonjoboilpoamaa.imap Go.Proofs.Ytonjoboilpoamaa.tabs
open Go.Proofs.Ytonjoboilpoamaa.holds (row_block row_kept row_form newcells)

structure Tx where
  ses : Int
  text : ByteArray
  deriving Inhabited

def Texts (w : World) (A : Option Addr) (xs : List Tx) : Prop :=
  ∀ i (h : i < xs.length), ∃ b off, A = some ⟨b, off, none⟩ ∧ w.cell? ⟨b, off + i * 2, none⟩ = some (.int .i64 (xs[i]).ses) ∧ w.cell? ⟨b, off + i * 2 + 1, none⟩ = some (.string (xs[i]).text)

/-- handles, as cells -/
def hcells (l : List (Int × Int)) : List Value := l.flatMap fun h => [.int .i64 h.1, .int .i64 h.2]

theorem hcells_length (l : List (Int × Int)) : (hcells l).length = l.length * 2 := by
  induction l with
  | nil => rfl
  | cons h l ih => simp only [hcells, List.flatMap_cons, List.length_append] at *; rw [ih]; simp; omega

theorem hcells_get (l : List (Int × Int)) (i : Nat) (h : i < l.length) : (hcells l)[i * 2]? = some (.int .i64 (l[i]).1) ∧ (hcells l)[i * 2 + 1]? = some (.int .i64 (l[i]).2) := by
  induction l generalizing i with
  | nil => simp at h
  | cons x l ih =>
    have e : hcells (x :: l) = [Value.int .i64 x.1, .int .i64 x.2] ++ hcells l := by simp [hcells]
    rw [e]
    cases i with
    | zero => simp
    | succ i =>
      have e1 : (i + 1) * 2 = i * 2 + 2 := by omega
      rw [e1]
      have := ih i (by simpa using h)
      simpa using this

/-- behind so many adds: the handles and what is held -/
structure Hs (T : Tb) (xs : List Tx) (hs : List (Int × Int)) : Prop where
  ns : T.ns = 2
  life : T.life = 1
  nums : ∀ j, j < 2 → 0 ≤ T.g j ∧ T.g j ≤ hs.length
  held : ∀ i (h : i < hs.length) (h' : i < xs.length), 0 ≤ (xs[i]).ses → (xs[i]).ses < 2 → (hs[i]).1 = 1 ∧ 1 ≤ (hs[i]).2 ∧ (hs[i]).2 ≤ T.g (xs[i]).ses.toNat ∧ T.f (xs[i]).ses.toNat (hs[i]).2 = some (.string (xs[i]).text)

theorem Hs.add {T : Tb} {xs : List Tx} {hs : List (Int × Int)} (h : Hs T xs hs) (hk : hs.length < xs.length) :
    Hs (T.addS (xs[hs.length]).ses (.string (xs[hs.length]).text)) xs (hs ++ [((T.addR (xs[hs.length]).ses).1, (T.addR (xs[hs.length]).ses).2.1)]) := by
  by_cases hv : (xs[hs.length]).ses < 0 ∨ (T.ns : Int) ≤ (xs[hs.length]).ses
  · unfold Tb.addS Tb.addR
    rw [if_pos hv, if_pos hv]
    refine ⟨h.ns, h.life, fun j hj => by have := h.nums j hj; simp; omega, ?_⟩
    intro i hi hi' h0 h1
    rw [List.getElem_append]
    split
    · rename_i hlt; exact h.held i hlt hi' h0 h1
    · rename_i hge
      have e : i = hs.length := by simp at hi; omega
      subst e
      rw [h.ns] at hv
      omega
  · unfold Tb.addS Tb.addR
    rw [if_neg hv, if_neg hv]
    rw [h.ns] at hv
    have hg := h.nums (xs[hs.length]).ses.toNat (by omega)
    refine ⟨h.ns, h.life, ?_, ?_⟩
    · intro j hj
      have := h.nums j hj
      simp only [Tb.add, List.length_append, List.length_singleton]
      split <;> omega
    · intro i hi hi' h0 h1
      rw [List.getElem_append]
      split
      · rename_i hlt
        obtain ⟨a, b, c, d⟩ := h.held i hlt hi' h0 h1
        refine ⟨a, b, ?_, ?_⟩
        · simp only [Tb.add]
          split
          · rename_i e; rw [e] at c; omega
          · exact c
        · simp only [Tb.add]
          split
          · rename_i e
            rw [e] at c d
            rw [setAt, if_neg (by omega)]
            exact d
          · exact d
      · rename_i hge
        have e : i = hs.length := by simp at hi; omega
        subst e
        refine ⟨by simpa using h.life, by simp; omega, by simp [Tb.add], by simp [Tb.add, setAt]⟩

theorem Hs.find {T : Tb} {xs : List Tx} {hs : List (Int × Int)} (h : Hs T xs hs) (z : Value) (i : Nat) (hi : i < hs.length) (hi' : i < xs.length) :
    T.find z (xs[i]).ses (hs[i]).1 (hs[i]).2 = if (xs[i]).ses < 0 ∨ ((2 : Nat) : Int) ≤ (xs[i]).ses then (z, 2) else (.string (xs[i]).text, 0) := by
  unfold Tb.find
  rw [h.ns, h.life]
  by_cases hv : (xs[i]).ses < 0 ∨ ((2 : Nat) : Int) ≤ (xs[i]).ses
  · rw [if_pos hv, if_pos hv]
  · obtain ⟨a, b, c, d⟩ := h.held i hi hi' (by omega) (by omega)
    rw [if_neg hv, if_neg hv, if_neg (by omega), if_neg (by omega), d]

theorem Hs.none {T : Tb} {xs : List Tx} {hs : List (Int × Int)} (h : Hs T xs hs) (z : Value) (s : Int) (h0 : 0 ≤ s) (h1 : s < 2) (n : Int) (hn : (hs.length : Int) < n) : T.find z s 1 n = (z, 181) := by
  unfold Tb.find
  rw [h.ns, h.life]
  have := h.nums s.toNat (by omega)
  rw [if_neg (by omega), if_neg (by omega), if_pos (.inr (.inr (by omega)))]

theorem info33 : (Try.prog.info? 33).map (fun i => (i.zero, i.size, i.bytes)) = some (some (.agg #[.int .i64 0, .int .i64 0]), 2, 16) := by kernel_rfl

attribute [local go_sem ↓] Go.wp_at_zero Go.wp_at_succ
/-- what holds at the head of the first loop -/
def XInv (w : World) (tb : Nat) (xs : List Tx) (k : Nat) (v : Value) (wr : World) : Prop :=
  ∃ T hs, Hs T xs hs ∧ hs.length = k ∧ TabAt wr tb T ∧ wr.ownsRow w.heap.size 33 2 v k (hcells hs) ∧ (∃ g cap, v = .slice (some ⟨g, 0, none⟩) k cap) ∧ Below w.heap.size w wr ∧ (∀ b, foot tb T b → w.heap.size ≤ b)

set_option maxRecDepth 100000 in
set_option maxHeartbeats 8000000 in
theorem texts_walk (A : Option Addr) (cap : Nat) (xs : List Tx) (w : World) (hS : Texts w A xs) (hlen : xs.length * 24 ≤ 140737488351232) :
    Calls Try.prog 5 #[.slice A xs.length cap] w fun e w' => e = .returned (.bool true) ∧ Below w.heap.size w w' := by
  have HH := Lib.hid (tab.head_yes w)
  go_enter Try.func5, Try.ntmps5
  go_wp2_with fail
  refine HH.out.mono ?_
  rintro e w1 ⟨rfl, hb1⟩
  have HV := Lib.hid (very.very_walk xs.length 41 w1)
  go_wp2_with fail
  refine HV.out.mono ?_
  rintro e w2 ⟨rfl, hb2⟩
  have HN := Lib.hid (new_yes 2 1 w2 (by omega) (by omega) (by omega) (by omega))
  have hb12 : Below w.heap.size w w2 := hb1.trans (hb2.mono hb1.size)
  have HB12 := Lib.hid hb12
  clear hb1 hb2 hb12
  go_wp2_with fail
  refine HN.out.mono ?_
  rintro e w3 ⟨tb, T, rfl, hT, hb3, hf, hns, hl, hg, hcnt, hff⟩
  have hns2 : T.ns = 2 := hns
  have HT := Lib.hid hT
  have HB3 := Lib.hid hb3
  have HF := Lib.hid hf
  have Hns := Lib.hid hns2
  have Hl := Lib.hid hl
  have Hg := Lib.hid hg
  have HSc := Lib.hid hS
  clear hT hb3 hf hns hns2 hl hg hcnt hff HN HH hS HV
  go_wp2_with fail
  generalize hL : xs.length = L at *
  go_loopw [5, 36] (fun v i wr => ∃ k : Nat, k ≤ L ∧ i = .int .i64 k ∧ XInv w tb xs k v wr) (fun _ i _ => L - (intOf i).toNat)
  case atStart =>
    refine ⟨0, Nat.zero_le _, rfl, T, [], ⟨Hns.out, Hl.out, fun j _ => by rw [Hg.out]; exact ⟨Int.le_refl _, Int.le_refl _⟩, fun i h => absurd h (by simp)⟩, rfl, ?_, ?_, ⟨w3.heap.size, 0, rfl⟩, ?_, ?_⟩
    · exact HT.out.kept ((Kept.refl (fun _ => False) w3).alloc _) (fun _ _ h => h)
    · exact World.ownsRow_made w3 #[] 0 (Nat.le_trans HB12.out.size HB3.out.size) (by decide) rfl
    · exact (HB12.out.trans (HB3.out.mono HB12.out.size)).alloc (Nat.le_trans HB12.out.size HB3.out.size) _
    · intro b hb; exact Nat.le_trans HB12.out.size (HF.out b hb)
  case round =>
    obtain ⟨k, hk, rfl, hI⟩ := hrel
    by_cases hlt : k < L
    · have hlt' : k < xs.length := by rw [hL]; exact hlt
      obtain ⟨T, hs, hH, hhl, hT, hO, ⟨g, cp, rfl⟩, hB, hF⟩ := hI
      obtain ⟨wo, rfl⟩ : ∃ wo : World, wo = wr := ⟨_, rfl⟩
      obtain ⟨b, off, rfl, c0, c1⟩ := HSc.out k hlt'
      have hbb : b < w.heap.size := World.block_lt_of_cell? w _ c0
      have d0 := (hB.cell (p := ⟨b, off + k * 2, none⟩) hbb).trans c0
      have d1 := (hB.cell (p := ⟨b, off + k * 2 + 1, none⟩) hbb).trans c1
      clear c0 c1
      have hTa := hT.kept ((Kept.refl (fun _ => False) wo).alloc (.cells #[.int .i64 (xs[k]).ses, .string (xs[k]).text] 31)) (fun _ _ h => h)
      have hgb : ∀ j, j < T.ns → T.g j < 9223372036854775807 := fun j hj => by have := hH.nums j (by have := hH.ns; omega); omega
      have hc := add_all tb T (xs[k]).ses (.string (xs[k]).text) _ hTa hgb
      subst hhl
      have hadd := hH.add hlt'
      obtain ⟨cur, hcur⟩ := row_block hO
      have hfn : ∀ b, foot tb T b → b ≠ g := by
        intro b hb e
        subst e
        rcases hb with rfl | rfl | rfl | ⟨j, hj, rfl⟩
        · have := hT.blkT; rw [hcur] at this; simp at this
        · have := hT.blkS; rw [hcur] at this; simp at this
        · have := hT.blkG; rw [hcur] at this; simp at this
        · exact map_ne_cells (hT.maps j hj) hcur rfl
      have hgl := (hO.lt g rfl).2
      have hbase : w.heap.size ≤ wo.heap.size := hB.size
      have hfoot : foot tb (T.addS (xs[hs.length]).ses (.string (xs[hs.length]).text)) = foot tb T := foot_add _ _ _ _
      generalize (xs[hs.length]).ses = se at *
      generalize (xs[hs.length]).text = tx at *
      generalize hr : T.addR se = r at *
      obtain ⟨r1, r2, r3⟩ := r
      simp only at hadd
      have HC := Lib.hid hc
      have HAdd := Lib.hid hadd
      have HO := Lib.hid hO
      have HB := Lib.hid hB
      have HFN := Lib.hid hfn
      have HF2 := Lib.hid hF
      have HL := Lib.hid hL
      have HFT := Lib.hid hfoot
      have hTlt : ∀ b, foot tb T b → b < wo.heap.size := fun b hb => hT.lt hb
      have HTL := Lib.hid hTlt
      clear hc hadd hO hB hF hT hTa hgb hH hcur hfn hr hL hlt' hfoot hTlt
      go_wp2_with fail
      refine HC.out.mono ?_
      rintro e w4 ⟨rfl, hT4, hK4⟩
      have hO4 : w4.ownsRow w.heap.size 33 2 (.slice (some ⟨g, 0, none⟩) hs.length cp) hs.length (hcells hs) :=
        row_kept (HO.out.alloc (.cells #[.int .i64 se, .string tx] 31)) (hK4.block g (by simp; omega) (fun h => HFN.out g h rfl))
      obtain ⟨i0, hi, hz0, hz1, hz2⟩ := info_parts info33
      have hbase4 : w.heap.size ≤ w4.heap.size := by have := hK4.size; rw [size_alloc] at this; omega
      have HO4 := Lib.hid hO4
      have HT4 := Lib.hid hT4
      have HK4 := Lib.hid hK4
      have Hi := Lib.hid hi
      have Hz0 := Lib.hid hz0
      have Hz1 := Lib.hid hz1
      have Hz2 := Lib.hid hz2
      have hmax : hs.length + 1 ≤ maxLen := by unfold maxLen; omega
      have hbt : (hs.length + 1) * 16 ≤ 140737488355328 := by omega
      clear hO4 hT4 hK4 hi hz0 hz1 hz2
      go_wp2_with (at_builtin; refine wpList_append_own _ rfl _ _ 29 rfl w.heap.size 33 i0 _ 2 16 Try.underlying29 Hi.out Hz0.out Hz1.out Hz2.out rfl (by decide) _ _ _ rfl ((HO4.out.alloc _).alloc _) ⟨w4.heap.size + 1, 0, none⟩ 1 1 [.int .i64 r1, .int .i64 r2] rfl rfl ?c1 (by simp [Value.oneCell']) hmax hbt (by simp; omega) ?_; rotate_left; intro v5 w5 hown5 hgrow5' hnn5; have hgrow5 : World.grownBy _ w5 (some g) := hgrow5'; clear hgrow5'; obtain ⟨g5, cp5, rfl⟩ := row_form hown5 (by omega))
      · have hk5 : Kept (fun i => i = g) w4 w5 :=
          ((((Kept.refl _ _).alloc _).alloc _).then ⟨hgrow5.os, hgrow5.tape, hgrow5.output, hgrow5.size, fun i hi hne => hgrow5.block i hi (by simpa using hne)⟩ (fun _ _ h => h))
        have hT5 := HT4.out.kept hk5 (fun b hb => HFN.out b (by rw [HFT.out] at hb; exact hb))
        have hB5 : Below w.heap.size w w5 := by
          have h1 : Kept (fun b => w.heap.size ≤ b) wo w5 := (((Kept.refl _ _).alloc _).then HK4.out (fun i _ h => HF2.out i h)).then hk5 (fun i hi h => by rw [h]; exact (HO.out.lt g rfl).1)
          exact HB.out.trans (h1.to_below (fun b hb h => by omega) HB.out.size)
        refine ⟨⟨hs.length + 1, by omega, by go_num, _, _, HAdd.out, by simp, hT5, ?_, ⟨g5, cp5, rfl⟩, hB5, fun b hb => HF2.out b (by rw [HFT.out] at hb; exact hb)⟩, by simp [intOf]; omega⟩
        have e : hcells (hs ++ [(r1, r2)]) = hcells hs ++ [.int .i64 r1, .int .i64 r2] := by simp [hcells]
        rw [e]
        exact hown5
      case c1 =>
        have := newcells (w4.alloc (.cells #[.int .i64 r1, .int .i64 r2] 33)) [.int .i64 r1, .int .i64 r2] 33
        rw [size_alloc] at this
        exact this
    · obtain ⟨T, hs, hH, hhl, hT, hO, ⟨g, cp, rfl⟩, hB, hF⟩ := hI
      obtain ⟨wo, rfl⟩ : ∃ wo : World, wo = wr := ⟨_, rfl⟩
      have ek : k = L := by omega
      subst ek
      have hgl := (hO.lt g rfl).2
      have hbase := hB.size
      have HH := Lib.hid hH
      have Hhl := Lib.hid hhl
      have HT := Lib.hid hT
      have HO := Lib.hid hO
      have HB := Lib.hid hB
      have HL := Lib.hid hL
      clear hH hhl hT hO hB hF hL
      go_wp2_with fail
      go_loopw [56] (fun i wx => ∃ j : Nat, j ≤ k ∧ i = .int .i64 j ∧ Below wo.heap.size wo wx) (fun i _ => k - (intOf i).toNat)
      case atStart => exact ⟨0, Nat.zero_le _, rfl, Below.refl _ _⟩
      case round =>
        obtain ⟨j, hj, rfl, hbx⟩ := hrel
        by_cases hjl : j < k
        · have hj1 : j < xs.length := by rw [HL.out]; exact hjl
          have hj2 : j < hs.length := by rw [Hhl.out]; exact hjl
          obtain ⟨b, off, rfl, c0, c1⟩ := HSc.out j hj1
          have hbb : b < w.heap.size := World.block_lt_of_cell? w _ c0
          have d0 := ((hbx.cell (p := ⟨b, off + j * 2, none⟩) (by simp; omega)).trans (HB.out.cell (p := ⟨b, off + j * 2, none⟩) hbb)).trans c0
          have d1 := ((hbx.cell (p := ⟨b, off + j * 2 + 1, none⟩) (by simp; omega)).trans (HB.out.cell (p := ⟨b, off + j * 2 + 1, none⟩) hbb)).trans c1
          obtain ⟨hg0, hg1⟩ := hcells_get hs j hj2
          have c2 : wo.cell? ⟨g, j * 2, none⟩ = some (.int .i64 (hs[j]).1) := by
            have := HO.out.cells (g := g) rfl (j * 2) _ hg0
            rw [Addr.add_lit] at this
            simpa using this
          have c3 : wo.cell? ⟨g, j * 2 + 1, none⟩ = some (.int .i64 (hs[j]).2) := by
            have := HO.out.cells (g := g) rfl (j * 2 + 1) _ hg1
            rw [Addr.add_lit] at this
            simpa using this
          have d2 := (hbx.cell (p := ⟨g, j * 2, none⟩) hgl).trans c2
          have d3 := (hbx.cell (p := ⟨g, j * 2 + 1, none⟩) hgl).trans c3
          have hTx := (HT.out.kept (Kept.of_below hbx (fun _ => False)) (fun _ _ h => h)).kept (((Kept.refl (fun _ => False) wr).alloc (.cells #[.int .i64 (xs[j]).ses, .string (xs[j]).text] 31)).drew) (fun _ _ h => h)
          have hfd := find_any tb T (xs[j]).ses (hs[j]).1 (hs[j]).2 _ hTx
          rw [HH.out.find _ j hj2 hj1] at hfd
          have hnone : ∀ s : Int, 0 ≤ s → s < 2 → T.find (.string ByteArray.empty) s 1 ((k : Int) + 1) = (.string ByteArray.empty, 181) := fun s h0 h1 => HH.out.none _ s h0 h1 _ (by rw [Hhl.out]; omega)
          generalize (xs[j]).ses = se at *
          generalize (xs[j]).text = tx at *
          generalize (hs[j]).1 = h1 at *
          generalize (hs[j]).2 = h2 at *
          have HFD := Lib.hid hfd
          have HNone := Lib.hid hnone
          have HBX := Lib.hid hbx
          have hglx : g < wr.heap.size := Nat.lt_of_lt_of_le hgl hbx.size
          have hbbx : b < wr.heap.size := Nat.lt_of_lt_of_le (by omega) hbx.size
          have hj0' : (0 : Int) ≤ (j : Int) := by omega
          have hj1' : (j : Int) < (k : Int) := by omega
          have hm : ∀ W, Kept (fun _ => False) wr W → TabAt W tb T := fun W hk => HT.out.kept ((Kept.of_below hbx (fun _ => False)).trans hk) (fun _ _ h => h)
          have HM := Lib.hid hm
          clear hfd hnone hbx hTx hm c0 c1 c2 c3 hg0 hg1 hj1 hj2
          by_cases hv : se < 0 ∨ ((2 : Nat) : Int) ≤ se
          · have hfd2 := HFD.out
            rw [if_pos hv] at hfd2
            clear HFD
            have HFD := Lib.hid hfd2
            clear hfd2
            have hw : decide (se < 0) = true ∨ (decide (se < 0) = false ∧ 1 < se) := by
              by_cases h : se < 0
              · left; simpa using h
              · right; exact ⟨by simpa using h, by omega⟩
            clear hv
            rcases hw with t0 | ⟨t0, t1⟩
            all_goals
              go_wp2_with fail
              go_region_held3 (fun w' => w'.cell? ⟨wr.heap.size, 0, none⟩ = some (.int .i64 se) ∧ w'.cell? ⟨g, j * 2, none⟩ = some (.int .i64 h1) ∧ w'.cell? ⟨g, j * 2 + 1, none⟩ = some (.int .i64 h2)) (first | go_keep | exact ⟨(hb4.cell (p := ⟨wr.heap.size, 0, none⟩) (by simp)).trans (cellN (o := 0) rfl rfl), (hb4.cell (p := ⟨g, j * 2, none⟩) (by simp; omega)).trans (wld.cellA d2 _), (hb4.cell (p := ⟨g, j * 2 + 1, none⟩) (by simp; omega)).trans (wld.cellA d3 _)⟩)
                (first | (go_at_call 13; refine HFD.out.mono ?_; rintro e w4 ⟨rfl, hb4⟩))
              have z0 := (hb4.cell (p := ⟨wr.heap.size, 0, none⟩) (by simp)).trans (cellN (w := wr) (o := 0) rfl rfl)
              have z1 := (hb4.cell (p := ⟨wr.heap.size, 1, none⟩) (by simp)).trans (cellN (w := wr) (o := 1) rfl rfl)
              have hk4 : Kept (fun _ => False) wr w4 := (((Kept.refl _ _).alloc _).drew).then (Kept.of_below hb4 (fun _ => False)) (fun _ _ h => h)
              have hbw : Below wo.heap.size wo w4 := HBX.out.trans (hk4.to_below (fun _ _ h => h) HBX.out.size)
              have HBW := Lib.hid hbw
              clear hk4 hbw hb4 d0 d1 d2 d3
              go_wp2_with fail
              exact ⟨⟨j + 1, by omega, by go_num, HBW.out⟩, by simp [intOf]; omega⟩
          · have hfd2 := HFD.out
            rw [if_neg hv] at hfd2
            clear HFD
            have HFD := Lib.hid hfd2
            clear hfd2
            have hw : se = 0 ∨ se = 1 := by omega
            clear hv
            rcases hw with rfl | rfl
            · skip
              go_wp2_with fail
              go_region_held3 (fun w' => w'.cell? ⟨wr.heap.size, 0, none⟩ = some (.int .i64 0) ∧ w'.cell? ⟨g, j * 2, none⟩ = some (.int .i64 h1) ∧ w'.cell? ⟨g, j * 2 + 1, none⟩ = some (.int .i64 h2)) (first | go_keep | exact ⟨(hb4.cell (p := ⟨wr.heap.size, 0, none⟩) (by simp)).trans (cellN (o := 0) rfl rfl), (hb4.cell (p := ⟨g, j * 2, none⟩) (by simp; omega)).trans (wld.cellA d2 _), (hb4.cell (p := ⟨g, j * 2 + 1, none⟩) (by simp; omega)).trans (wld.cellA d3 _)⟩)
                (first | (go_at_call 13; refine HFD.out.mono ?_; rintro e w4 ⟨rfl, hb4⟩))
              have z0 := (hb4.cell (p := ⟨wr.heap.size, 0, none⟩) (by simp)).trans (cellN (w := wr) (o := 0) (v := .int .i64 0) rfl rfl)
              have z1 := (hb4.cell (p := ⟨wr.heap.size, 1, none⟩) (by simp)).trans (cellN (w := wr) (o := 1) rfl rfl)
              have hk4 : Kept (fun _ => False) wr w4 := (((Kept.refl _ _).alloc _).drew).then (Kept.of_below hb4 (fun _ => False)) (fun _ _ h => h)
              have hbw : Below wo.heap.size wo w4 := HBX.out.trans (hk4.to_below (fun _ _ h => h) HBX.out.size)
              have HBW := Lib.hid hbw
              have hc5 := find_any tb T 1 1 ((k : Int) + 1) w4 (HM.out _ hk4)
              rw [HNone.out 1 (by omega) (by omega)] at hc5
              have HC5 := Lib.hid hc5
              clear hk4 hbw hb4 d0 d1 d2 d3 hc5
              go_wp2_with fail
              refine HC5.out.mono ?_
              rintro e w5 ⟨rfl, hb5⟩
              have hbe := HBW.out.trans (hb5.mono HBW.out.size)
              have HBE := Lib.hid hbe
              clear hb5 hbe
              go_wp2_with fail
              exact ⟨⟨j + 1, by omega, by go_num, HBE.out⟩, by simp [intOf]; omega⟩
            · skip
              go_wp2_with fail
              go_region_held3 (fun w' => w'.cell? ⟨wr.heap.size, 0, none⟩ = some (.int .i64 1) ∧ w'.cell? ⟨g, j * 2, none⟩ = some (.int .i64 h1) ∧ w'.cell? ⟨g, j * 2 + 1, none⟩ = some (.int .i64 h2)) (first | go_keep | exact ⟨(hb4.cell (p := ⟨wr.heap.size, 0, none⟩) (by simp)).trans (cellN (o := 0) rfl rfl), (hb4.cell (p := ⟨g, j * 2, none⟩) (by simp; omega)).trans (wld.cellA d2 _), (hb4.cell (p := ⟨g, j * 2 + 1, none⟩) (by simp; omega)).trans (wld.cellA d3 _)⟩)
                (first | (go_at_call 13; refine HFD.out.mono ?_; rintro e w4 ⟨rfl, hb4⟩))
              have z0 := (hb4.cell (p := ⟨wr.heap.size, 0, none⟩) (by simp)).trans (cellN (w := wr) (o := 0) (v := .int .i64 1) rfl rfl)
              have z1 := (hb4.cell (p := ⟨wr.heap.size, 1, none⟩) (by simp)).trans (cellN (w := wr) (o := 1) rfl rfl)
              have hk4 : Kept (fun _ => False) wr w4 := (((Kept.refl _ _).alloc _).drew).then (Kept.of_below hb4 (fun _ => False)) (fun _ _ h => h)
              have hbw : Below wo.heap.size wo w4 := HBX.out.trans (hk4.to_below (fun _ _ h => h) HBX.out.size)
              have HBW := Lib.hid hbw
              have hc5 := find_any tb T 0 1 ((k : Int) + 1) w4 (HM.out _ hk4)
              rw [HNone.out 0 (by omega) (by omega)] at hc5
              have HC5 := Lib.hid hc5
              clear hk4 hbw hb4 d0 d1 d2 d3 hc5
              go_wp2_with fail
              refine HC5.out.mono ?_
              rintro e w5 ⟨rfl, hb5⟩
              have hbe := HBW.out.trans (hb5.mono HBW.out.size)
              have HBE := Lib.hid hbe
              clear hb5 hbe
              go_wp2_with fail
              exact ⟨⟨j + 1, by omega, by go_num, HBE.out⟩, by simp [intOf]; omega⟩
        · go_wp2_with fail
          go_ret
          exact ⟨rfl, HB.out.trans (hbx.mono HB.out.size)⟩
end Go.Proofs.Ytonjoboilpoamaa.texts
