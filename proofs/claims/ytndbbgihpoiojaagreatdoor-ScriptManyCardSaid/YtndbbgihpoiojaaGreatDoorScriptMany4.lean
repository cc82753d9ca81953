/- Script: texts merged, part 4: cut to what the claim uses. -/
import Derived.Test.YtndbbgihpoiojaaGreatDoorScriptMany3
set_option linter.unusedVariables false
set_option linter.unusedSimpArgs false
set_option maxRecDepth 100000
set_option maxHeartbeats 8000000
namespace Go.Proofs.YtndbbgihpoiojaaGreatDoor.it
open Go Go.RowKit Go.Shelf Go.Proofs.YtndbbgihpoiojaaGreatDoor.wld Go.Proofs.YtndbbgihpoiojaaGreatDoorW.PrintWords Go.Proofs.YtndbbgihpoiojaaGreatDoorW.PrintLast
attribute [local go_sem] Oper.semAt_some
def trimL (x : ByteArray) : ByteArray := ⟨(Lib.trimSuffix x.data.toList [10]).toArray⟩
theorem trim_c (x : ByteArray) (hs : x.size ≤ maxLen) (w : World) : Calls Tryz.prog 65 #[.string x, .string ⟨#[10]⟩] w fun e w' => e = .returned (.string (trimL x)) ∧ w = w' :=
 (Tryz.strings_TrimSuffix x ⟨#[10]⟩ w hs).mono fun _ _ h => ⟨h.1, h.2.symm⟩
theorem info9' : (Tryz.prog.info? 9).map (fun i => (i.zero, i.size, i.bytes)) = some (some (.string ⟨#[]⟩), 1, 16) := by kernel_rfl
theorem kept_grown {w w' : World} {b : Nat} (h : Kept (fun k => k = b) w w') : w.grownBy w' (some b) :=
 ⟨h.os, h.tape, h.output, h.size, fun k hk hne => h.block k hk (fun e => hne (by rw [e]))⟩
theorem row_base {w : World} {base e size n g : Nat} {v : Value} {xs : List Value} (h : w.ownsRow base e size v n xs) (hg : v.ownBlock = some g) : base ≤ g := by
 rcases h.2 with ⟨rfl, _⟩ | ⟨g', cap, cur, rfl, hb, _⟩
 · simp [Value.ownBlock] at hg
 obtain rfl : g' = g := by simpa [Value.ownBlock] using hg
 exact hb
theorem row_le {w : World} {base base' e size n : Nat} {v : Value} {xs : List Value} (h : w.ownsRow base e size v n xs) (hb : base' ≤ base) : w.ownsRow base' e size v n xs := by
 refine ⟨h.1, ?_⟩
 rcases h.2 with h2 | ⟨g', cap, cur, h3, hb', h4⟩
 · exact .inl h2
 exact .inr ⟨g', cap, cur, h3, Nat.le_trans hb hb', h4⟩
def Coll (w0 : World) (B base : Nat) (f : List ByteArray → List ByteArray) (pre : List ByteArray) (W : World) : Prop :=
 (∃ v, Boxed W B 71 v ∧ W.ownsRow base 9 1 v (f pre).length ((f pre).map Value.string) ∧ (v = .slice none 0 0 ↔ f pre = [])) ∧ Below w0.heap.size w0 W
theorem Coll.own (w0 : World) (B base A : Nat) (f : List ByteArray → List ByteArray) (hA : w0.heap.size ≤ A) : OwnFrom A (Coll w0 B base f) :=
 OwnFrom.and (Own.from (holdsRow_own base B 71 9 1 (fun pre => (f pre).length) (fun pre => (f pre).map Value.string) (fun pre v => v = .slice none 0 0 ↔ f pre = [])) _) (ownFrom_below (Nat.le_refl _) hA)
theorem Coll.box (w0 : World) (B base b : Nat) (f : List ByteArray → List ByteArray) (hb : b < base) (hB : B ≠ b) (h0 : w0.heap.size ≤ b) : ∀ p X Y, Coll w0 B base f p X → Kept (fun k => k = b) X Y → Coll w0 B base f p Y := by
 rintro p X Y ⟨⟨v, hv, hr, hn⟩, hB'⟩ hk
 have hg := kept_grown hk
 refine ⟨⟨v, hv.kept hg (fun e => hB (by injection e)), hr.kept hg ?_, hn⟩, hB'.grown hg hB'.size (fun k e => by cases e; exact h0)⟩
 cases hu : v.ownBlock with
 | none => 
  rcases hr.2 with ⟨rfl, _⟩ | ⟨g', cap, cur, rfl, hb', _⟩
  · exact .inl rfl
  simp [Value.ownBlock] at hu
 | some g => exact .inr (fun e => by injection e with e; have := row_base hr hu; omega)
theorem Coll.start (w0 : World) (base : Nat) (f : List ByteArray → List ByteArray) (hf : f [] = []) {W : World} (hv : Boxed W w0.heap.size 71 (.slice none 0 0)) (hb : Below w0.heap.size w0 W) : Coll w0 w0.heap.size base f [] W := by
 refine ⟨⟨_, hv, ?_, by rw [hf]; simp⟩, hb⟩
 rw [hf]
 exact World.ownsRow_nil _ _ _ _
theorem Coll.put {w0 W1 w9 : World} {B base b m g9 c9 : Nat} {f : List ByteArray → List ByteArray} {pre : List ByteArray} {x y : ByteArray} {v : Value} {tmp : Obj}
 (hv : Boxed W1 B 71 v) (hrow : W1.ownsRow base 9 1 v (f pre).length ((f pre).map Value.string)) (hB0 : Below w0.heap.size w0 W1) (hfx : f (pre ++ [x]) = f pre ++ [y]) (hBb : B < b) (h0 : w0.heap.size ≤ B) (hbm : b + m ≤ base) (hsz : base ≤ W1.heap.size)
 (hown : w9.ownsRow base 9 1 (.slice (some ⟨g9, 0, none⟩) ((f pre).length + 1) c9) ((f pre).length + 1) ((f pre).map Value.string ++ [.string y])) (hg : (W1.alloc tmp).grownBy w9 v.ownBlock) :
 Boxed w9 B 71 v ∧ KeepsOthers W1 (w9.setCell ⟨B, 0, none⟩ (.slice (some ⟨g9, 0, none⟩) ((f pre).length + 1) c9)) ∧ KB b m W1 (w9.setCell ⟨B, 0, none⟩ (.slice (some ⟨g9, 0, none⟩) ((f pre).length + 1) c9)) ∧
  Coll w0 B base f (pre ++ [x]) (w9.setCell ⟨B, 0, none⟩ (.slice (some ⟨g9, 0, none⟩) ((f pre).length + 1) c9)) := by
 obtain ⟨h1, h2, h3, h4, h5⟩ := (Boxed.appended (n₀ := w0.heap.size) hv (by decide) (row_le hrow (by omega)) (by omega) h0 (row_le hown (by omega)) hg)
 have hr3 := hown.kept (grownBy_setCell' w9 B (.slice (some ⟨g9, 0, none⟩) ((f pre).length + 1) c9)) (.inr (h1.not_row (by decide) hown).symm)
 refine ⟨h1, h4, fun k hk1 hk2 => ?_, ⟨_, h2, ?_, ?_⟩, hB0.trans h5⟩
 · refine (wld.set_other (by simp; omega) _).trans ((hg.block k (by simp; omega) ?_).trans (wld.alloc_other (by omega) _))
   intro e
   have := row_base hrow e.symm
   omega
 · rw [hfx]
   simpa using hr3
 rw [hfx]
 simp
theorem linesF_len : ∀ (k : Nat) (s : ByteArray), s.size ≤ k → (linesF k s).length ≤ s.size
 | 0, s, h => by simp [linesF]
 | k + 1, s, h => by
  rw [linesF]
  split
  · simp
  split
  · simp; omega
  rename_i h1
  have hi := indexByte_lt s.data.toList 10
  rw [← Lib.size_eq] at hi
  have := linesF_len k (s.extract (Lib.indexByte s.data.toList 10 + 1).toNat s.size) (by rw [extract_size']; omega)
  rw [extract_size'] at this
  simp only [List.length_cons]
  omega
theorem linesS_len (s : ByteArray) : (linesS s).length ≤ s.size := linesF_len s.size s (Nat.le_refl _)
theorem linesF_size : ∀ (k : Nat) (s : ByteArray), ∀ x ∈ linesF k s, x.size ≤ s.size
 | 0, s, x, hx => by simp [linesF] at hx
 | k + 1, s, x, hx => by
  rw [linesF] at hx
  split at hx
  · cases hx
  split at hx
  · rw [List.mem_singleton.1 hx]; exact Nat.le_refl _
  rcases List.mem_cons.1 hx with rfl | hx
  · simp; omega
  have := linesF_size k _ x hx
  rw [extract_size'] at this
  omega
theorem linesS_size (s : ByteArray) : ∀ x ∈ linesS s, x.size ≤ s.size := linesF_size s.size s
theorem splitF_len (c : UInt8) : ∀ (k : Nat) (s : ByteArray), s.size ≤ k → (splitF c k s).length ≤ s.size + 1
 | 0, s, h => by simp [splitF]
 | k + 1, s, h => by
  rw [splitF]
  split
  · simp
  rename_i h1
  have hi := indexByte_lt s.data.toList c
  rw [← Lib.size_eq] at hi
  have := splitF_len c k (s.extract (Lib.indexByte s.data.toList c + 1).toNat s.size) (by rw [extract_size']; omega)
  rw [extract_size'] at this
  simp only [List.length_cons]
  omega
theorem splitS_len (c : UInt8) (s : ByteArray) : (splitS c s).length ≤ s.size + 1 := splitF_len c s.size s (Nat.le_refl _)
theorem linesOf_w (s : ByteArray) (w : World) (hs : s.size ≤ 4294967296) :
 Calls Tryz.prog 37 #[.string s] w fun e w' => ∃ v, e = .returned v ∧ w'.ownsRow w.heap.size 9 1 v ((linesS s).map trimL).length (((linesS s).map trimL).map Value.string) ∧ (v = .slice none 0 0 ↔ (linesS s).map trimL = []) ∧ Below w.heap.size w w' := by
 obtain ⟨i0, hi, hz0, hz1, hz2⟩ := info_parts info9'
 have hnum := linesS_len s
 have hall := linesS_size s
 refine (callsIn_wide (n := 2)).1 ?_
 refine callsIn_of_wp_marks Tryz.func37 rfl trivial ?_ rfl
 simp only [Tryz.ntmps37, List.size_toArray, List.length_cons, List.length_nil, Nat.reduceAdd, Nat.reduceSub, Array.replicate_succ, Array.replicate_zero, List.push_toArray, List.append_toArray, List.nil_append, List.cons_append]
 gi_wp2_with (refine ⟨trivial, ?_⟩; gi_at_call 64; refine (callsIn_wide.2 (lines_c _ _)).mono ?_; rintro e w' ⟨rfl, rfl⟩)
 have bO := Boxed.new w 71 (.slice none 0 0)
 have bN := Boxed.new (w.alloc (.cells #[.slice none 0 0] 71)) 9 (.string s)
 rw [World.size_alloc] at bN
 have hB0 : Below w.heap.size w ((w.alloc (.cells #[.slice none 0 0] 71)).alloc (.cells #[.string s] 9)) := ((Below.refl _ w).alloc (Nat.le_refl _) _).alloc (by simp) _
 refine wpIn_rangeFunc_all (n := 2) rfl (by decide) (gf := 81) (lb := #[.pointer (some ⟨w.heap.size + 1, 0, none⟩)]) rfl trivial (enters_of Tryz.func81 (by kernel_rfl) rfl) (encs := fun x : ByteArray => #[Value.string x]) (b := w.heap.size + 1) (m := 1) (xs := linesS s) (by decide) (by simp)
  ?seq (fun _ => rfl) (Coll w w.heap.size (w.heap.size + 2) (List.map trimL)) (Coll.own _ _ _ _ _ (by simp; omega)) (Coll.box _ _ _ _ _ (by omega) (by omega) (by omega)) (Coll.start w _ _ rfl (bO.alloc _) hB0)
  (fun x => { tmps := #[.string s, undef, .slice none 0 0, .pointer (some ⟨w.heap.size, 0, none⟩), .string x, .string s, .func (.func 81) #[] #[.pointer (some ⟨w.heap.size + 1, 0, none⟩)], .string x, undef, undef, undef, undef, undef, undef], defers := [] }) ?assign ?body ?done
 case seq => exact fun l J W hkb hsz hJ hY h0 => lines1 l (w.heap.size + 1) s (by unfold maxLen; omega) J hJ hY W ((hkb _ (Nat.le_refl _) (by omega)).trans bN) h0
 case assign =>
  intro l x W K hK
  gi_wp2
  exact hK
 case body =>
  rintro l pre x rest W hxs ⟨⟨v, hv0, hrow0, hnil⟩, hB1⟩ hlt
  have hxm : x ∈ linesS s := by rw [hxs]; simp
  have hx1 := hall x hxm
  have hlen : pre.length + 1 ≤ s.size := by
   rw [hxs] at hnum
   simp at hnum
   omega
  have hv1 : Boxed W.drew w.heap.size 71 v := hv0
  have hrow1 : W.drew.ownsRow (w.heap.size + 2) 9 1 v (pre.map trimL).length ((pre.map trimL).map Value.string) := hrow0
  have hB2 : Below w.heap.size w W.drew := hB1.drew
  have hsz : w.heap.size + 2 ≤ W.drew.heap.size := by show _ ≤ W.heap.size; simp at hlt; omega
  have hKO := KeepsOthers.drew W
  have hKB : KB (w.heap.size + 1) 1 W W.drew := KB.refl _ _ _
  have HS := Lib.hid hx1
  have HN := Lib.hid hlen
  have HR := Lib.hid hrow1
  have HNIL := Lib.hid hnil
  have HXS := Lib.hid hxs
  have HB2 := Lib.hid hB2
  have HSZ := Lib.hid hsz
  have HKO := Lib.hid hKO
  have HKB := Lib.hid hKB
  clear hx1 hlen hrow1 hrow0 hnil hxs hB1 hB2 hsz hKO hKB hxm hlt hnum hall
  gi_wp2
  refine startR_ (n := 6) (S := fun w' => w'.cell? ⟨w.heap.size, 0, none⟩ = some v) (ds := [5]) (bs_ 6 0) (by kernel_rfl) rfl rfl (by kernel_rfl) (fun _ _ h => h) (hv1.cell) (fun hHeld => ?_)
  generalize W.drew = w1 at hHeld hv1 HR HB2 HSZ HKO HKB ⊢
  refine pA_ 1 9 (bs_ 6 2) ?_
  refine tA_ hHeld 0 8 (bs_ 6 3) ?_
  refine oA_ 2 10 (bs_ 6 7) (fun K hK => ?_)
  refine gA_ Tryz.func65 #[.string x, .string ⟨#[10]⟩] ?_
  refine (trim_c x (by unfold maxLen; have := HS.out; omega) _).mono ?_
  rintro e w2 ⟨rfl, rfl⟩
  refine ⟨_, rfl, ?_⟩
  refine hK.out _ _ (hv1.cell) (fun hHeld => ?_)
  clear hK K
  refine nA_ ?_
  refine oA_ 3 11 (bs_ 6 15) (fun K hK => ?_)
  refine vA_ ?_
  refine hK.out _ _ ((hv1.alloc _).cell) (fun hHeld => ?_)
  clear hK K
  refine nA_ ?_
  refine oA_ 4 12 (bs_ 6 31) (fun K hK => ?_)
  refine step_append_lies _ rfl (.tmp 8) (.tmp 11) 71 rfl (w.heap.size + 2) 9 i0 (.string ⟨#[]⟩) 1 16 Tryz.underlying71 hi hz0 hz1 hz2 rfl (by decide) v (pre.map trimL).length ((pre.map trimL).map Value.string) rfl (HR.out.alloc _) ⟨_, 0, none⟩ 1 1 [.string (trimL x)] rfl rfl (cell_one_new _ _ _) (by simp [Value.oneCell']) (by decide) (by unfold maxLen; have := HN.out; simp; omega) (by have := HN.out; simp; omega) (by have := HSZ.out; simp; omega) _ rfl ?_
  intro g9 c9 w9 hown9 hg9 hat9 hlt9
  obtain ⟨hv9, hk10, hkb10, hcoll⟩ := Coll.put (w0 := w) (b := w.heap.size + 1) (m := 1) (f := List.map trimL) (x := x) hv1 HR.out HB2.out (by simp) (by omega) (Nat.le_refl _) (by omega) HSZ.out hown9 hg9
  simp only [List.length_map] at hk10 hkb10 hcoll
  have hf9 := hv9.frozen
  refine hK.out _ _ (hv9.cell) (fun hHeld => ?_)
  clear hK K
  refine nA_ ?_
  refine last_ (i := 5) (N := none) (bs_ 6 63) rfl rfl (by kernel_rfl) (by decide) (fun K hK => ?_)
  refine skip_ (w1 := ?_) (by rfl) rfl ?_ ?_
  rotate_left
  · go_simp
    rfl
  refine hK.out _ _ ?_
  clear hK K
  refine done_ (by kernel_rfl) ?_
  exact ⟨HKO.out.trans hk10, HKB.out.trans hkb10, hcoll⟩
 case done =>
  rintro D W hD ⟨⟨v, hv, hrow, hnil⟩, hB⟩ hK
  have hc := hv.cell
  gi_wp2
  refine ⟨by simp, .inl ⟨_, _, rfl, run_takeDeferred hK, ?_⟩⟩
  exact ⟨_, results_tmp rfl _ _ _, v, rfl, ownsRow_putObj (row_le hrow (by omega)) _ hK rfl, hnil, hB.trans (belowK_b (w := w) (Nat.le_refl _) W D _ _ (by simp at hD; omega) hK rfl rfl)⟩
def wordsOfL (l : List ByteArray) : List ByteArray := l.filter fun x => !x.data.toList.isEmpty
theorem wordsOfL_le (l : List ByteArray) : (wordsOfL l).length ≤ l.length := List.length_filter_le _ _
theorem wordsOfL_hit (l : List ByteArray) {x : ByteArray} (h : x.data.toList ≠ []) : wordsOfL (l ++ [x]) = wordsOfL l ++ [x] := by
 simp [wordsOfL, List.filter_append, List.filter_cons]
 simpa using h
theorem wordsOfL_miss (l : List ByteArray) {x : ByteArray} (h : x.data.toList = []) : wordsOfL (l ++ [x]) = wordsOfL l := by
 simp [wordsOfL, List.filter_append, List.filter_cons]
 simpa using h
theorem str_nil {x : ByteArray} (h : x.data.toList = []) : x = ⟨#[]⟩ := by
 obtain ⟨⟨l⟩⟩ := x
 simp at h
 subst h
 rfl
theorem wordsOf_w (s : ByteArray) (w : World) (hs : s.size ≤ 4294967296) :
 Calls Tryz.prog 38 #[.string s] w fun e w' => ∃ v, e = .returned v ∧ w'.ownsRow w.heap.size 9 1 v (wordsOfL (splitS 32 s)).length ((wordsOfL (splitS 32 s)).map Value.string) ∧ (v = .slice none 0 0 ↔ wordsOfL (splitS 32 s) = []) ∧ Below w.heap.size w w' := by
 obtain ⟨i0, hi, hz0, hz1, hz2⟩ := info_parts info9'
 have hnum := splitS_len 32 s
 refine (callsIn_wide (n := 2)).1 ?_
 refine callsIn_of_wp_marks Tryz.func38 rfl trivial ?_ rfl
 simp only [Tryz.ntmps38, List.size_toArray, List.length_cons, List.length_nil, Nat.reduceAdd, Nat.reduceSub, Array.replicate_succ, Array.replicate_zero, List.push_toArray, List.append_toArray, List.nil_append, List.cons_append]
 gi_wp2_with (refine ⟨trivial, ?_⟩; gi_at_call 66; refine (callsIn_wide.2 (splitSeq_c _ _ _)).mono ?_; rintro e w' ⟨rfl, rfl⟩)
 have bO := Boxed.new w 71 (.slice none 0 0)
 have bN := Boxed.new (w.alloc (.cells #[.slice none 0 0] 71)) 9 (.string s)
 rw [World.size_alloc] at bN
 have bN1 := Boxed.new ((w.alloc (.cells #[.slice none 0 0] 71)).alloc (.cells #[.string s] 9)) 9 (.string ⟨#[32]⟩)
 rw [World.size_alloc, World.size_alloc] at bN1
 have bN2 := Boxed.new (((w.alloc (.cells #[.slice none 0 0] 71)).alloc (.cells #[.string s] 9)).alloc (.cells #[.string ⟨#[32]⟩] 9)) 3 (.int .i64 0)
 rw [World.size_alloc, World.size_alloc, World.size_alloc] at bN2
 have hB0 : Below w.heap.size w ((((w.alloc (.cells #[.slice none 0 0] 71)).alloc (.cells #[.string s] 9)).alloc (.cells #[.string ⟨#[32]⟩] 9)).alloc (.cells #[.int .i64 0] 3)) := ((((Below.refl _ w).alloc (Nat.le_refl _) _).alloc (by simp) _).alloc (by simp; omega) _).alloc (by simp; omega) _
 refine wpIn_rangeFunc_all (n := 2) rfl (by decide) (gf := 107) (lb := #[.pointer (some ⟨w.heap.size + 2, 0, none⟩), .pointer (some ⟨w.heap.size + 1, 0, none⟩), .pointer (some ⟨w.heap.size + 3, 0, none⟩)]) rfl trivial (enters_of Tryz.func107 (by kernel_rfl) rfl) (encs := fun x : ByteArray => #[Value.string x]) (b := w.heap.size + 1) (m := 3) (xs := splitS 32 s) (by decide) (by simp)
  ?seq (fun _ => rfl) (Coll w w.heap.size (w.heap.size + 4) wordsOfL) (Coll.own _ _ _ _ _ (by simp; omega)) (Coll.box _ _ _ _ _ (by omega) (by omega) (by omega)) (Coll.start w _ _ rfl (((bO.alloc _).alloc _).alloc _) hB0)
  (fun x => { tmps := #[.string s, undef, .slice none 0 0, .pointer (some ⟨w.heap.size, 0, none⟩), .string x, .string s, .func (.func 107) #[] #[.pointer (some ⟨w.heap.size + 2, 0, none⟩), .pointer (some ⟨w.heap.size + 1, 0, none⟩), .pointer (some ⟨w.heap.size + 3, 0, none⟩)], .string x, undef, undef, undef, undef, undef, undef, undef], defers := [] }) ?assign ?body ?done
 case seq => exact fun l J W hkb hsz hJ hY h0 => split1 l (w.heap.size + 1) s (by unfold maxLen; omega) J hJ hY W ((hkb _ (Nat.le_refl _) (by omega)).trans ((bN.alloc _).alloc _)) ((hkb (w.heap.size + 1 + 1) (by omega) (by omega)).trans (bN1.alloc _)) ((hkb (w.heap.size + 1 + 2) (by omega) (by omega)).trans bN2) h0
 case assign =>
  intro l x W K hK
  gi_wp2
  exact hK
 case body =>
  rintro l pre x rest W hxs ⟨⟨v, hv, hrow, hnil⟩, hB1⟩ hlt
  have hlen : pre.length + 1 ≤ s.size + 1 := by
   rw [hxs] at hnum
   simp at hnum
   omega
  have hwl := wordsOfL_le pre
  have hsz : w.heap.size + 4 ≤ W.heap.size := by simp at hlt; omega
  have HN := Lib.hid hlen
  have HWL := Lib.hid hwl
  have HR := Lib.hid hrow
  have HNIL := Lib.hid hnil
  have HB1 := Lib.hid hB1
  have HSZ := Lib.hid hsz
  clear hlen hrow hnil hxs hB1 hsz hlt hnum hwl
  have hc := hv.cell
  by_cases hx : x.data.toList = []
  · have hm := wordsOfL_miss pre hx
    obtain rfl := str_nil hx
    have HM := Lib.hid hm
    clear hx hm
    gi_wp2
    refine ⟨KeepsOthers.refl _, KB.refl _ _ _, ⟨v, hv, ?_, ?_⟩, HB1.out⟩
    · rw [HM.out]; exact HR.out
    rw [HM.out]; exact HNIL.out
  have hm := wordsOfL_hit pre hx
  have HM := Lib.hid hm
  have hx1 : x.toList.isEmpty = false := by
   rw [Lib.toList_data]
   cases h : x.data.toList with
   | nil => exact absurd h hx
   | cons a l => rfl
  clear hx hm
  gi_wp2_with (gi_at_builtin; refine wpListIn_append_own _ rfl _ _ 71 rfl (w.heap.size + 4) 9 i0 (.string ⟨#[]⟩) 1 16 Tryz.underlying71 hi hz0 hz1 hz2 rfl (by decide) _ _ _ rfl (HR.out.alloc _) ⟨W.heap.size, 0, none⟩ 1 1 [.string x] rfl rfl (cell_one_new _ _ _) (by simp [Value.oneCell']) (by unfold maxLen; have := HN.out; have := HWL.out; omega) (by have := HN.out; have := HWL.out; omega) (by have := HSZ.out; simp; omega) ?_; intro v' w1 hown' hgrow _; obtain ⟨g', cap', rfl⟩ := ownsRow_succ hown'; obtain ⟨hv9, hk10, hkb10, hcoll⟩ := Coll.put (w0 := w) (b := w.heap.size + 1) (m := 3) (f := wordsOfL) (x := x) hv HR.out HB1.out HM.out (by omega) (Nat.le_refl _) (by omega) HSZ.out hown' hgrow; have hc1 := hv9.cell; have hf1 := hv9.frozen)
  exact ⟨hk10, hkb10, hcoll⟩
 case done =>
  rintro D W hD ⟨⟨v, hv, hrow, hnil⟩, hB⟩ hK
  have hc := hv.cell
  gi_wp2
  refine ⟨by simp, .inl ⟨_, _, rfl, run_takeDeferred hK, ?_⟩⟩
  exact ⟨_, results_tmp rfl _ _ _, v, rfl, ownsRow_putObj (row_le hrow (by omega)) _ hK rfl, hnil, hB.trans (belowK_b (w := w) (Nat.le_refl _) W D _ _ (by simp at hD; omega) hK rfl rfl)⟩
end Go.Proofs.YtndbbgihpoiojaaGreatDoor.it
namespace Go.Proofs.YtndbbgihpoiojaaGreatDoor.Q
open Go.RowKit Go.Proofs.YtndbbgihpoiojaaGreatDoorW.PrintWords Go.Proofs.YtndbbgihpoiojaaGreatDoorW.PrintLast
open Go.Proofs.YtndbbgihpoiojaaGreatDoor.it (linesS splitS splitF linesF wordsOfL trimL linesS_len linesS_size indexByte_lt extract_size')
def wordsS (ln : ByteArray) : List ByteArray := wordsOfL (splitS 32 ln)
def linesT (t : ByteArray) : List ByteArray := (linesS t).map trimL
def skips (ws : List ByteArray) : Bool := match ws with
 | [] => true
 | w :: _ => w.data.toList.headD 0 == 35
abbrev S0_ : Stt := ([], [], [], [])
def parseL : Nat → List ByteArray → Stt → (Int × Int) × Option Stt
 | _, [], s => ((0, 0), some s)
 | i, ln :: rest, s => if skips (wordsS ln) then parseL (i + 1) rest s else match lineOf (wordsS ln) s with
  | (_, some s') => parseL (i + 1) rest s'
  | (c, none) => (((i : Int) + 1, c), none)
def parseS (t : ByteArray) : (Int × Int) × Option Stt := if 65536 < t.size then ((0, 3), none) else if 4096 < (linesT t).length then ((0, 3), none) else parseL 0 (linesT t) S0_
def cntS (s : Stt) : Nat := s.1.length + s.2.1.length + s.2.2.1.length + s.2.2.2.length
def OneMore (rd : Rd) : Prop := ∀ ws s s', rd ws s = some s' → cntS s' = cntS s + 1
theorem one_map {α : Type} {o : Option α} {f : α → Stt} {s s' : Stt} (hf : ∀ x, cntS (f x) = cntS s + 1) (h : o.map f = some s') : cntS s' = cntS s + 1 := by
 cases o with
 | none => cases h
 | some x => cases h; exact hf x
theorem cnt_addEv (s : Stt) (x : S52) : cntS (addEv s x) = cntS s + 1 := by simp [addEv, cntS]; omega
theorem one_label : OneMore rdLabel := fun ws s s' h => by
 unfold rdLabel at h; split at h
 · exact one_map (fun x => by simp [cntS]; omega) h
 cases h
theorem one_account : OneMore rdAccount := fun ws s s' h => by
 unfold rdAccount at h; split at h
 · exact one_map (fun x => by simp [cntS]; omega) h
 cases h
theorem one_session : OneMore rdSession := fun ws s s' h => by
 unfold rdSession at h; split at h
 · exact one_map (fun x => by simp [cntS]; omega) h
 cases h
theorem one_event (k : Int) (p : Bool) : OneMore (rdEvent k p) := fun ws s s' h => one_map (cnt_addEv s) h
theorem one_ask : OneMore rdAsk := fun ws s s' h => by
 unfold rdAsk at h; split at h
 · exact one_map (cnt_addEv s) h
 cases h
theorem one_askB (k : Int) : OneMore (rdAskB k) := fun ws s s' h => by
 unfold rdAskB at h; split at h
 · exact one_map (cnt_addEv s) h
 cases h
theorem one_get (k : Int) : OneMore (rdGet k) := fun ws s s' h => by
 unfold rdGet at h; split at h
 · exact one_map (cnt_addEv s) h
 cases h
theorem one_put (k : Int) : OneMore (rdPut k) := fun ws s s' h => by
 unfold rdPut at h; split at h
 · exact one_map (cnt_addEv s) h
 cases h
theorem one_scan (k : Int) : OneMore (rdScan k) := fun ws s s' h => by
 unfold rdScan at h; split at h
 · exact one_map (cnt_addEv s) h
 cases h
theorem oneOf_ {n : Int} {more : Bool} {rd rd' : Rd} {x : Option (Int × Bool × Rd)} {c : Prop} [Decidable c] {n' : Int} {more' : Bool} (h : (if c then some (n', more', rd') else x) = some (n, more, rd)) (h1 : OneMore rd') (h2 : x = some (n, more, rd) → OneMore rd) : OneMore rd := by
 split at h
 · injection h with h; injection h with _ h; injection h with _ h; subst h; exact h1
 exact h2 h
theorem form_one {k : ByteArray} {n : Int} {more : Bool} {rd : Rd} (h : formOf k = some (n, more, rd)) : OneMore rd := by
 unfold formOf at h
 exact oneOf_ h one_label fun h => oneOf_ h one_account fun h => oneOf_ h one_session fun h => oneOf_ h (one_event _ _) fun h => oneOf_ h (one_event _ _) fun h => oneOf_ h (one_event _ _) fun h => oneOf_ h (one_event _ _) fun h => by cases h
theorem ask_one {k : ByteArray} {n : Int} {more : Bool} {rd : Rd} (h : askOf k = some (n, more, rd)) : OneMore rd := by
 unfold askOf at h
 exact oneOf_ h one_ask fun h => oneOf_ h (one_get _) fun h => oneOf_ h (one_scan _) fun h => oneOf_ h (one_put _) fun h => oneOf_ h (one_get _) fun h => oneOf_ h (one_askB _) fun h => oneOf_ h (one_askB _) fun h => by cases h
theorem sel_one {ws : List ByteArray} {n : Int} {more : Bool} {rd : Rd} (h : (if hd0 ws = (⟨#[97, 115, 107]⟩ : ByteArray) ∧ 2 < ws.length then askOf (ws.getD 2 ⟨#[]⟩) else formOf (hd0 ws)) = some (n, more, rd)) : OneMore rd := by
 split at h
 · exact ask_one h
 exact form_one h
theorem lineOf_cases (ws : List ByteArray) (s : Stt) : (∃ s', lineOf ws s = (0, some s') ∧ cntS s' = cntS s + 1) ∨ (lineOf ws s = (260, none)) ∨ (lineOf ws s = (261, none)) := by
 unfold lineOf
 split
 · exact .inr (.inl rfl)
 rename_i n more rd hsel
 split
 · exact .inr (.inl rfl)
 split
 · exact .inr (.inr rfl)
 rename_i s' hrd
 exact .inl ⟨s', rfl, sel_one hsel _ _ _ hrd⟩
theorem splitF_size (c : UInt8) : ∀ (k : Nat) (s : ByteArray), ∀ x ∈ splitF c k s, x.size ≤ s.size
 | 0, s, x, hx => by rw [List.mem_singleton.1 hx]; exact Nat.le_refl _
 | k + 1, s, x, hx => by
  rw [splitF] at hx
  split at hx
  · rw [List.mem_singleton.1 hx]; exact Nat.le_refl _
  rcases List.mem_cons.1 hx with rfl | hx
  · simp; omega
  have := splitF_size c k _ x hx
  rw [extract_size'] at this
  omega
theorem nonempty_size {x : ByteArray} (h : (!x.data.toList.isEmpty) = true) : 1 ≤ x.size := by
 rw [Lib.size_eq]
 cases hx : x.data.toList with
 | nil => rw [hx] at h; cases h
 | cons a l => simp
theorem splitF_words (c : UInt8) : ∀ (k : Nat) (s : ByteArray), s.size ≤ k → (wordsOfL (splitF c k s)).length ≤ s.size
 | 0, s, h => by
  have h0 : s.data.toList = [] := by
   have := Lib.size_eq s
   exact List.eq_nil_of_length_eq_zero (by omega)
  unfold wordsOfL splitF
  rw [List.filter_cons, h0]
  simp
 | k + 1, s, h => by
  rw [splitF]
  split
  · unfold wordsOfL
    rw [List.filter_cons]
    split
    · rename_i hx
      have := nonempty_size hx
      simpa using this
    simp
  rename_i h1
  have hi := indexByte_lt s.data.toList c
  rw [← Lib.size_eq] at hi
  have ih := splitF_words c k (s.extract (Lib.indexByte s.data.toList c + 1).toNat s.size) (by rw [extract_size']; omega)
  rw [extract_size'] at ih
  unfold wordsOfL at ih ⊢
  rw [List.filter_cons]
  split
  · rename_i hx
    have := nonempty_size hx
    simp at this
    simp only [List.length_cons]
    omega
  omega
theorem words_len (ln : ByteArray) : (wordsS ln).length ≤ ln.size := splitF_words 32 ln.size ln (Nat.le_refl _)
theorem words_size (ln : ByteArray) : ∀ x ∈ wordsS ln, x.size ≤ ln.size ∧ 1 ≤ x.size := fun x hx => by
 unfold wordsS wordsOfL at hx
 rw [List.mem_filter] at hx
 exact ⟨splitF_size 32 ln.size ln x hx.1, nonempty_size hx.2⟩
theorem trimL_size (x : ByteArray) : (trimL x).size ≤ x.size := by
 have : (trimL x).size = (Lib.trimSuffix x.data.toList [10]).length := by unfold trimL; simp [ByteArray.size]
 rw [this, Lib.size_eq]
 unfold Lib.trimSuffix
 split
 · simp
 exact Nat.le_refl _
theorem linesT_size (t : ByteArray) : ∀ x ∈ linesT t, x.size ≤ t.size := fun x hx => by
 obtain ⟨y, hy, rfl⟩ := List.mem_map.1 hx
 exact Nat.le_trans (trimL_size y) (linesS_size t y hy)
end Go.Proofs.YtndbbgihpoiojaaGreatDoor.Q
namespace Go.Proofs.YtndbbgihpoiojaaGreatDoor.Q
open Go.RowKit Go.Proofs.YtndbbgihpoiojaaGreatDoorW.PrintWords Go.Proofs.YtndbbgihpoiojaaGreatDoorW.PrintLast
open Go.Proofs.YtndbbgihpoiojaaGreatDoor.it
structure Rows4 (w : World) (base : Nat) (v0 v1 v2 v3 : Value) (s : Stt) : Prop where
 r0 : Kd.R (Kd.int .u64) 68 w base TT_ v0 s.1
 r1 : Kd.R k70 70 w base TT_ v1 s.2.1
 r2 : Kd.R (Kd.int .i64) 3 w base TT_ v2 s.2.2.1
 r3 : EvR w base v3 s.2.2.2
def ParseOut (w w' : World) (p : (Int × Int) × Option Stt) (e : Ending) : Prop := ∃ v0 v1 v2 v3, e = .returned (.tuple #[.agg #[v0, v1, v2], v3, .int .i64 p.1.1, .int .i64 p.1.2]) ∧ (∃ base, w.heap.size ≤ base ∧ Rows4 w' base v0 v1 v2 v3 (p.2.getD S0_)) ∧ Below w.heap.size w w'
theorem EvR.nil (w : World) (base : Nat) : EvR w base (.slice none 0 0) [] := ⟨[], Kd.R_nil _ _ _ _ _, rfl, fun p hp => by cases hp⟩
theorem Rows4.nil (w : World) (base : Nat) : Rows4 w base (.slice none 0 0) (.slice none 0 0) (.slice none 0 0) (.slice none 0 0) S0_ := ⟨Kd.R_nil _ _ _ _ _, Kd.R_nil _ _ _ _ _, Kd.R_nil _ _ _ _ _, EvR.nil _ _⟩
abbrev nil3 : Array Value := #[.slice none 0 0, .slice none 0 0, .slice none 0 0]
theorem parse_big (t : ByteArray) (w : World) (ht : 65536 < t.size) (ht2 : t.size ≤ 140737488355328) : Calls Tryz.prog 22 #[.string t] w fun e w' => ParseOut w w' ((0, 3), none) e := by
 go_enter Tryz.func22, Tryz.ntmps22
 go_wp2
 go_step3
 go_wp2
 rw [Exit.noGoto_ret]
 exact bodyPost_ret (v := .tuple #[.agg nil3, .slice none 0 0, .int .i64 0, .int .i64 3]) (by simp [results, Tryz.results22, go_sem]) rfl ⟨_, _, _, _, rfl, ⟨_, Nat.le_refl _, Rows4.nil _ _⟩, (Below.refl _ _).alloc (Nat.le_refl _) _⟩
theorem linesOf_r (t : ByteArray) (w : World) (base : Nat) (hbase : base ≤ w.heap.size) (hs : t.size ≤ 65536) : Calls Tryz.prog 37 #[.string t] w fun e w' => ∃ v, e = .returned v ∧ Kd.R Kd.string 9 w' base TT_ v (linesT t) ∧ Below w.heap.size w w' := by
 refine (linesOf_w t w (by omega)).mono ?_
 rintro e w' ⟨v, rfl, ho, _, hb⟩
 exact ⟨v, rfl, Kd.R_of_own (enc := Value.string) (h1 := fun _ => rfl) (row_le ho hbase) (fun _ _ => trivial), hb⟩
theorem wordsOf_r (t : ByteArray) (w : World) (hs : t.size ≤ 65536) : Calls Tryz.prog 38 #[.string t] w fun e w' => ∃ v, e = .returned v ∧ Kd.R Kd.string 9 w' w.heap.size TT_ v (wordsS t) ∧ (v = .slice none 0 0 ↔ wordsS t = []) ∧ Below w.heap.size w w' := by
 refine (wordsOf_w t w (by omega)).mono ?_
 rintro e w' ⟨v, rfl, ho, hn, hb⟩
 exact ⟨v, rfl, Kd.R_of_own (enc := Value.string) (h1 := fun _ => rfl) ho (fun _ _ => trivial), hn, hb⟩
theorem cell3 {w : World} {p : Addr} {v : Value} {b : Nat} (h : w.cell? p = some v) (hne : p.block ≠ b) (x y z : Value) : (((w.setCell ⟨b, 0, none⟩ x).setCell ⟨b, 1, none⟩ y).setCell ⟨b, 2, none⟩ z).cell? p = some v :=
 wld.cellSet (wld.cellSet (wld.cellSet h hne x) hne y) hne z
theorem keep3 (w : World) (b : Nat) (x y z : Value) : KeepBut w (((w.setCell ⟨b, 0, none⟩ x).setCell ⟨b, 1, none⟩ y).setCell ⟨b, 2, none⟩ z) b none := (((KeepBut.refl w b none).set_ 0 x).set_ 1 y).set_ 2 z
theorem other26 : Other 26 := by unfold Other; decide
theorem below3 {n b : Nat} {w w1 : World} (h : Below n w w1) (hb : n ≤ b) (x y z : Value) : Below n w (((w1.setCell ⟨b, 0, none⟩ x).setCell ⟨b, 1, none⟩ y).setCell ⟨b, 2, none⟩ z) :=
 ((h.setCell (p := ⟨b, 0, none⟩) hb x).setCell (p := ⟨b, 1, none⟩) hb y).setCell (p := ⟨b, 2, none⟩) hb z
theorem parse_many (t : ByteArray) (w : World) (ht : t.size ≤ 65536) (hn : 4096 < (linesT t).length) : Calls Tryz.prog 22 #[.string t] w fun e w' => ParseOut w w' ((0, 3), none) e := by
 have HT := Lib.hid ht
 go_enter Tryz.func22, Tryz.ntmps22
 go_wp2
 go_step3
 go_wp2_with fail
 refine (linesOf_r t _ w.heap.size (by simp) HT.out).mono ?_
 rintro e w1 ⟨v, rfl, hr, hb⟩
 obtain ⟨A, c, rfl, hc⟩ := Kd.R_reads hr
 have HB := Lib.hid hb
 have hx := wld.alloc_same w (.cells nil3 26)
 have hx2 := (hb.block w.heap.size (by simp)).trans hx
 have hc0 := wld.cell_of (o := 0) (v := .slice none 0 0) hx2 rfl
 have hc1 := wld.cell_of (o := 1) (v := .slice none 0 0) hx2 rfl
 have hc2 := wld.cell_of (o := 2) (v := .slice none 0 0) hx2 rfl
 have hf0 := wld.free_of (o := 0) hx2
 have hf1 := wld.free_of (o := 1) hx2
 have hf2 := wld.free_of (o := 2) hx2
 clear hb hr
 go_wp2
 rw [Exit.noGoto_ret]
 refine bodyPost_ret (v := .tuple #[.agg nil3, .slice none 0 0, .int .i64 0, .int .i64 3]) (by simp [results, Tryz.results22, go_sem, hc0, hc1, hc2]) rfl ⟨_, _, _, _, rfl, ⟨_, Nat.le_refl _, Rows4.nil _ _⟩, ?_⟩
 exact below3 ((b1_ (Below.refl _ _) _).trans (HB.out.mono (by simp))) (Nat.le_refl _) _ _ _
theorem skips_eq (h : ByteArray) (tl : List ByteArray) (hh : 0 < h.size) : skips (h :: tl) = ((h[0].toNat : Int) == 35) := by
 obtain ⟨⟨l⟩⟩ := h
 cases l with
 | nil => cases hh
 | cons a l =>
  show ((a :: l).headD 0 == 35) = ((a.toNat : Int) == 35)
  simp only [List.headD_cons]
  rw [Bool.eq_iff_iff]
  simp only [beq_iff_eq]
  constructor
  · rintro rfl; rfl
  intro h
  have : a.toNat = 35 := by omega
  exact UInt8.toNat_inj.1 this
theorem hsk_of {a b c : Bool} (h : a = b) (h2 : b = c) : a = c := h.trans h2
structure PRel (W wr : World) (rb sb n : Nat) (vl v0 v1 v2 v3 : Value) (L : List ByteArray) (k : Nat) (s : Stt) : Prop where
 hk : k ≤ L.length
 sbk : wr.heap[sb]? = some (.cells #[v0, v1, v2, v3] 89 (0, 0))
 rows : Rows5 wr W.heap.size vl v0 v1 v2 v3 L s.1 s.2.1 s.2.2.1 s.2.2.2
 rest : parseL 0 L S0_ = parseL k (L.drop k) s
 cnt : cntS s ≤ k
 bW : Below W.heap.size W wr
 env : sc.Env wr
def PRelE (W wr : World) (rb sb n : Nat) (vl : Value) (L : List ByteArray) (k : Nat) : Prop := ∃ v0 v1 v2 v3 s, PRel W wr rb sb n vl v0 v1 v2 v3 L k s
theorem parse_main (t : ByteArray) (w : World) (hE : sc.Env w) (ht : t.size ≤ 65536) (hn : (linesT t).length ≤ 4096) : Calls Tryz.prog 22 #[.string t] w fun e w' => ParseOut w w' (parseL 0 (linesT t) S0_) e := by
 have HT := Lib.hid ht
 have HE := Lib.hid hE
 have HR0 := Lib.hid (fun W base hb => linesOf_r t W base hb ht)
 have HSZ := Lib.hid (fun x hx => Nat.le_trans (linesT_size t x hx) ht)
 clear hE
 generalize linesT t = L at *
 go_enter Tryz.func22, Tryz.ntmps22
 go_wp2
 go_step3
 go_wp2_with fail
 obtain ⟨W, hW⟩ : ∃ W, w.alloc (.cells nil3 26) = W := ⟨_, rfl⟩
 have hWx := wld.alloc_same w (.cells nil3 26)
 have hWb := b1_ (Below.refl w.heap.size w) (.cells nil3 26)
 have hWs : W.heap.size = w.heap.size + 1 := by rw [← hW]; simp
 rw [hW] at hWx hWb ⊢
 have HWX := Lib.hid hWx
 have HWB := Lib.hid hWb
 have HWS0 := Lib.hid hWs
 have HWE := Lib.hid (HE.out.below hWb)
 clear hWx hWb hWs hW
 refine (HR0.out W W.heap.size (Nat.le_refl _)).mono ?_
 rintro e w1 ⟨v, rfl, hr, hb⟩
 obtain ⟨A, c, rfl, hc⟩ := Kd.R_reads hr
 have HB := Lib.hid hb
 have HR := Lib.hid hr
 have HC := Lib.hid hc
 clear hb hr hc HR0
 go_wp2
 go_step3
 go_wp2
 have hrel0 : PRelE W (w1.alloc (.cells #[.slice none 0 0, .slice none 0 0, .slice none 0 0, .slice none 0 0] 89)) w.heap.size w1.heap.size L.length (.slice A L.length c) L 0 := by
  refine ⟨_, _, _, _, S0_, Nat.zero_le _, wld.alloc_same _ _, ⟨Kd.R_below HR.out (b1_ (Below.refl _ _) _), Kd.R_nil _ _ _ _ _, Kd.R_nil _ _ _ _ _, Kd.R_nil _ _ _ _ _, EvR.nil _ _⟩, rfl, Nat.le_refl _, ?_, ?_⟩
  · exact b1_ HB.out _
  exact HWE.out.below (b1_ HB.out _)
 have HREL0 := Lib.hid hrel0
 clear hrel0
 go_loopw [26] (fun i wr => ∃ k : Nat, i = .int .i64 k ∧ PRelE W wr w.heap.size w1.heap.size L.length (.slice A L.length c) L k) (fun i _ => L.length - (intOf i).toNat)
 case atStart => exact ⟨0, rfl, HREL0.out⟩
 case round =>
  obtain ⟨k, rfl, v0, v1, v2, v3, s, hP⟩ := hrel
  have HP := Lib.hid hP
  have hkl := hP.hk
  clear hP HREL0
  by_cases hlt : k < L.length
  · obtain ⟨x, hx⟩ : ∃ x, L[k]? = some x := ⟨L[k], List.getElem?_eq_getElem hlt⟩
    have hxm := List.mem_of_getElem? hx
    have hxs := HSZ.out x hxm
    obtain ⟨A', c', hA', hc', hC'⟩ := Kd.R_reads HP.out.rows.l
    injection hA' with e1 e3 e2
    subst e1 e2
    clear e3
    obtain ⟨g, o, hA, hg, hcell⟩ := strings_at hC' (by intro e; rw [e] at hlt; simp at hlt)
    subst hA
    have hcx := hcell k x hx
    have hdrop : L.drop k = x :: L.drop (k + 1) := by
     obtain ⟨h1, rfl⟩ := List.getElem?_eq_some_iff.1 hx
     exact List.drop_eq_getElem_cons h1
    have HD := Lib.hid hdrop
    have HW := Lib.hid (wordsOf_r x wr hxs)
    have HXS := Lib.hid hxs
    have HN := Lib.hid hn
    clear hcell hxm hdrop hxs hx hn ht hc' hC' hg
    go_wp2_with fail
    refine HW.out.mono ?_
    rintro e w2 ⟨v, rfl, hr2, hn2, hb2⟩
    have HB2 := Lib.hid hb2
    have HR2 := Lib.hid hr2
    have HN2 := Lib.hid hn2
    clear hb2 hr2 hn2
    have HLEN := Lib.hid (Nat.le_trans (words_len x) HXS.out)
    have HWS := Lib.hid (fun y hy => words_size x y hy)
    have HPL := Lib.hid (show parseL k (x :: L.drop (k + 1)) s = if skips (wordsS x) then parseL (k + 1) (L.drop (k + 1)) s else match lineOf (wordsS x) s with
     | (_, some s') => parseL (k + 1) (L.drop (k + 1)) s'
     | (c, none) => (((k : Int) + 1, c), none) from rfl)
    generalize wordsS x = ws at *
    cases ws with
    | nil =>
     have hv := HN2.out.2 rfl
     subst hv
     go_wp2
     go_roundw
     case rel => exact ⟨k + 1, by go_num, v0, v1, v2, v3, s, hlt, (HB2.out.block _ (wld.lt_of_block HP.out.sbk)).trans HP.out.sbk, HP.out.rows.below HB2.out, by rw [HP.out.rest, HD.out, HPL.out]; rfl, Nat.le_succ_of_le HP.out.cnt, below_step HP.out.bW HB2.out, HP.out.env.below HB2.out⟩
     case measure => simp [intOf]; omega
    | cons h tl =>
     obtain ⟨g2, c2, rfl⟩ := ownsRow_succ (Kd.own_of_R HR2.out)
     obtain ⟨A2, c2', hA2, hcc2, hC2⟩ := Kd.R_reads HR2.out
     injection hA2 with e1 e3 e2
     subst e1 e2
     clear e3
     have hh1 := (HWS.out h (List.mem_cons_self ..)).2
     obtain ⟨gg, oo, hAA, hgg, hcell2⟩ := strings_at hC2 (by simp)
     cases hAA
     have hch := hcell2 0 h rfl
     have HC2 := Lib.hid hC2
     have HCC2 := Lib.hid hcc2
     clear hcell2 hC2 hcc2 hgg
     have hh2 : 0 < h.size := hh1
     have hsk := skips_eq h tl hh2
     have HSK := Lib.hid hsk
     clear hsk
     by_cases hq : ((h[0].toNat : Int) == 35) = true
     · have HQ := Lib.hid (hsk_of HSK.out hq)
       go_wp2_with fail
       go_roundw
       case rel => exact ⟨k + 1, by go_num, v0, v1, v2, v3, s, hlt, (HB2.out.block _ (wld.lt_of_block HP.out.sbk)).trans HP.out.sbk, HP.out.rows.below HB2.out, by rw [HP.out.rest, HD.out, HPL.out, HQ.out, if_pos rfl], Nat.le_succ_of_le HP.out.cnt, below_step HP.out.bW HB2.out, HP.out.env.below HB2.out⟩
       case measure => simp [intOf]; omega
     have hq' : ((h[0].toNat : Int) == 35) = false := by simpa using hq
     have HQ := Lib.hid (hsk_of HSK.out hq')
     clear hq
     go_wp2_with fail
     have hcnt : k < 4096 := Nat.lt_of_lt_of_le hlt HN.out
     have hl := line_calls W w2 w1.heap.size g2 c2 (h :: tl) (.slice (some ⟨g, o, none⟩) L.length c) v0 v1 v2 v3 L s ((HB2.out.block _ (wld.lt_of_block HP.out.sbk)).trans HP.out.sbk) HB.out.size (HP.out.rows.below HB2.out) (below_step HP.out.bW HB2.out) (HP.out.env.below HB2.out) HC2.out HCC2.out (by simp) (fun y hy => Nat.le_trans (HWS.out y hy).1 HXS.out) HLEN.out (by have := HP.out.cnt; unfold cntS at this; omega)
     refine hl.mono ?_
     rintro e w3 ⟨rfl, u0, u1, u2, u3, s', hsb3, hrows3, hs3, hb3⟩
     have hrb := (hb3.block w.heap.size (by have := HWS0.out; omega)).trans HWX.out
     have HSB3 := Lib.hid hsb3
     have HR3 := Lib.hid hrows3
     have HB3 := Lib.hid hb3
     clear hl hsb3 hrows3 hb3
     rcases lineOf_cases (h :: tl) s with ⟨s2, hlo, hc2⟩ | hlo | hlo
     · rw [hlo] at hs3 ⊢
       obtain rfl := hs3 s2 rfl
       have HLO := Lib.hid hlo
       have HC2' := Lib.hid hc2
       clear hlo hc2 hs3 hrb
       go_wp2
       go_roundw
       case rel => exact ⟨k + 1, by go_num, u0, u1, u2, u3, s', hlt, HSB3.out, HR3.out, by rw [HP.out.rest, HD.out, HPL.out, HQ.out, if_neg (by decide), HLO.out], by rw [HC2'.out]; exact Nat.succ_le_succ HP.out.cnt, HB3.out, HWE.out.below HB3.out⟩
       case measure => simp [intOf]; omega
     · have HRES := Lib.hid (show parseL 0 L S0_ = (((k : Int) + 1, 260), none) by rw [HP.out.rest, HD.out, HPL.out, HQ.out, if_neg (by decide), hlo])
       rw [hlo]
       have hc0 := wld.cell_of (o := 0) (v := .slice none 0 0) hrb rfl
       have hc1 := wld.cell_of (o := 1) (v := .slice none 0 0) hrb rfl
       have hc2 := wld.cell_of (o := 2) (v := .slice none 0 0) hrb rfl
       have hf0 := wld.free_of (o := 0) hrb
       have hf1 := wld.free_of (o := 1) hrb
       have hf2 := wld.free_of (o := 2) hrb
       clear hlo hs3 hrb
       go_wp2
       rw [Exit.noGoto_ret]
       refine bodyPost_ret (v := .tuple #[.agg nil3, .slice none 0 0, .int .i64 ((k : Int) + 1), .int .i64 260]) (by simp [results, Tryz.results22, go_sem, hc0, hc1, hc2]) rfl ?_
       rw [HRES.out]
       exact ⟨_, _, _, _, rfl, ⟨_, Nat.le_refl _, Rows4.nil _ _⟩, below3 (HWB.out.trans (HB3.out.mono HWB.out.size)) (Nat.le_refl _) _ _ _⟩
     have HRES := Lib.hid (show parseL 0 L S0_ = (((k : Int) + 1, 261), none) by rw [HP.out.rest, HD.out, HPL.out, HQ.out, if_neg (by decide), hlo])
     rw [hlo]
     have hc0 := wld.cell_of (o := 0) (v := .slice none 0 0) hrb rfl
     have hc1 := wld.cell_of (o := 1) (v := .slice none 0 0) hrb rfl
     have hc2 := wld.cell_of (o := 2) (v := .slice none 0 0) hrb rfl
     have hf0 := wld.free_of (o := 0) hrb
     have hf1 := wld.free_of (o := 1) hrb
     have hf2 := wld.free_of (o := 2) hrb
     clear hlo hs3 hrb
     go_wp2
     rw [Exit.noGoto_ret]
     refine bodyPost_ret (v := .tuple #[.agg nil3, .slice none 0 0, .int .i64 ((k : Int) + 1), .int .i64 261]) (by simp [results, Tryz.results22, go_sem, hc0, hc1, hc2]) rfl ?_
     rw [HRES.out]
     exact ⟨_, _, _, _, rfl, ⟨_, Nat.le_refl _, Rows4.nil _ _⟩, below3 (HWB.out.trans (HB3.out.mono HWB.out.size)) (Nat.le_refl _) _ _ _⟩
  have hkL : k = L.length := by omega
  have hrb := (HP.out.bW.block w.heap.size (by have := HWS0.out; omega)).trans HWX.out
  have hsb := HP.out.sbk
  have HRES := Lib.hid (show parseL 0 L S0_ = ((0, 0), some s) by rw [HP.out.rest, hkL, List.drop_length]; rfl)
  have hk2 : ¬ (k : Int) < L.length := by omega
  clear hkL
  obtain ⟨A0, c0, rfl⟩ := Kd.R_slice HP.out.rows.r0
  obtain ⟨A1, c1, rfl⟩ := Kd.R_slice HP.out.rows.r1
  obtain ⟨A2, c2, rfl⟩ := Kd.R_slice HP.out.rows.r2
  obtain ⟨o3, ho3⟩ := HP.out.rows.r3
  obtain ⟨A3, c3, rfl⟩ := Kd.R_slice ho3.r
  have hc0 := wld.cell_of (o := 0) (v := .slice none 0 0) hrb rfl
  have hc1 := wld.cell_of (o := 1) (v := .slice none 0 0) hrb rfl
  have hc2 := wld.cell_of (o := 2) (v := .slice none 0 0) hrb rfl
  have hf0 := wld.free_of (o := 0) hrb
  have hf1 := wld.free_of (o := 1) hrb
  have hf2 := wld.free_of (o := 2) hrb
  have hd0 := wld.cell_of (o := 0) hsb rfl
  have hd1 := wld.cell_of (o := 1) hsb rfl
  have hd2 := wld.cell_of (o := 2) hsb rfl
  have hd3 := wld.cell_of (o := 3) hsb rfl
  have HRB := Lib.hid hrb
  clear hsb hrb ho3
  have HNE := Lib.hid (show w1.heap.size ≠ w.heap.size by have := HWS0.out; have := HB.out.size; omega)
  go_wp2
  refine start_ (n := 12) (S := fun w' => w'.cell? ⟨w1.heap.size, 0, none⟩ = some (.slice A0 s.1.length c0) ∧ w'.cell? ⟨w1.heap.size, 1, none⟩ = some (.slice A1 s.2.1.length c1) ∧ w'.cell? ⟨w1.heap.size, 2, none⟩ = some (.slice A2 s.2.2.1.length c2) ∧ w'.cell? ⟨w1.heap.size, 3, none⟩ = some (.slice A3 o3.length c3)) (ds := []) (bs_ 12 0) (by kernel_rfl) rfl rfl ⟨hd0, hd1, hd2, hd3⟩ (fun hHeld => ?_)
  refine pA_ 0 53 (bs_ 12 1) ?_
  refine pA_ 1 54 (bs_ 12 3) ?_
  refine pA_ 2 55 (bs_ 12 7) ?_
  refine pA_ 4 57 (bs_ 12 23) ?_
  refine pA_ 5 58 (bs_ 12 55) ?_
  refine pA_ 6 59 (bs_ 12 119) ?_
  refine tA_ hHeld 3 56 (bs_ 12 127) ?_
  refine tA_ hHeld 7 60 (bs_ 12 255) ?_
  refine one_ (i := 8) (N := none) (bs_ 12 511) rfl rfl (by kernel_rfl) (by decide) (fun K hK => ?_)
  refine skip_ (w1 := ?_) (by rfl) rfl ?_ ?_
  rotate_left
  · go_simp
    rfl
  refine hK.out _ _ ⟨(cell3 hd0 HNE.out _ _ _), (cell3 hd1 HNE.out _ _ _), (cell3 hd2 HNE.out _ _ _), (cell3 hd3 HNE.out _ _ _)⟩ (fun hHeld => ?_)
  clear hK K
  refine pA_ 9 3 (bs_ 12 1023) ?_
  refine pA_ 10 4 (bs_ 12 2047) ?_
  refine pA_ 11 5 (bs_ 12 4095) ?_
  refine done_ (by kernel_rfl) ?_
  go_wp2
  rw [Exit.noGoto_ret]
  refine bodyPost_ret (v := .tuple #[.agg #[.slice A0 s.1.length c0, .slice A1 s.2.1.length c1, .slice A2 s.2.2.1.length c2], .slice A3 o3.length c3, .int .i64 0, .int .i64 0]) ?_ rfl ?_
  · simp [results, Tryz.results22, go_sem, hc0, hc1, hc2]
  rw [HRES.out]
  have hr5 := HP.out.rows.keep HRB.out other26 (keep3 wr w.heap.size (.slice A0 s.1.length c0) (.slice A1 s.2.1.length c1) (.slice A2 s.2.2.1.length c2))
  have hr5 := hr5.drew
  refine ⟨_, _, _, _, rfl, ⟨W.heap.size, by have := HWS0.out; omega, ⟨hr5.r0, hr5.r1, hr5.r2, hr5.r3⟩⟩, ?_⟩
  exact b3_ (below3 (HWB.out.trans (HP.out.bW.mono HWB.out.size)) (Nat.le_refl _) _ _ _)
theorem parse_calls (t : ByteArray) (w : World) (hE : sc.Env w) (ht : t.size ≤ 140737488355328) : Calls Tryz.prog 22 #[.string t] w fun e w' => ParseOut w w' (parseS t) e := by
 unfold parseS
 split
 · rename_i h; exact parse_big t w h ht
 rename_i h
 split
 · rename_i h2; exact parse_many t w (by omega) h2
 rename_i h2; exact parse_main t w hE (by omega) (by omega)
end Go.Proofs.YtndbbgihpoiojaaGreatDoor.Q
namespace Go.Proofs.YtndbbgihpoiojaaGreatDoor.Q
open Go.RowKit Go.Proofs.YtndbbgihpoiojaaGreatDoorW.PrintWords Go.Proofs.YtndbbgihpoiojaaGreatDoorW.PrintLast
structure PInv (W w : World) (pb : Nat) (v : Value) (lines : List ByteArray) : Prop where
 blk : w.heap[pb]? = some (.cells #[v] 80 (0, 0))
 row : Kd.R Kd.string 9 w W.heap.size TT_ v lines
 bW : Below W.heap.size W w
 ge : W.heap.size ≤ pb
 env0 : sc.Env W
def PInvE (W w : World) (pb : Nat) (lines : List ByteArray) : Prop := ∃ v, PInv W w pb v lines
section
variable {W w w1 : World} {pb : Nat} {v : Value} {lines : List ByteArray}
theorem PInv.below (h : PInv W w pb v lines) (hb : Below w.heap.size w w1) : PInv W w1 pb v lines := ⟨(hb.block pb (blk_lt h.blk)).trans h.blk, Kd.R_below h.row hb, below_step h.bW hb, h.ge, h.env0⟩
theorem PInv.env (h : PInv W w pb v lines) : sc.Env w := h.env0.below h.bW
theorem PInv.drew (h : PInv W w pb v lines) : PInv W w.drew pb v lines := h.below (b3_ (Below.refl _ _))
theorem PInv.alloc (h : PInv W w pb v lines) (o : Obj) : PInv W (w.alloc o) pb v lines := h.below (b1_ (Below.refl _ _) o)
theorem PInvE.below (h : PInvE W w pb lines) (hb : Below w.heap.size w w1) : PInvE W w1 pb lines := h.elim fun v h => ⟨v, h.below hb⟩
theorem PInvE.alloc (h : PInvE W w pb lines) (o : Obj) : PInvE W (w.alloc o) pb lines := h.elim fun v h => ⟨v, h.alloc o⟩
theorem PInvE.bW (h : PInvE W w pb lines) : Below W.heap.size W w := h.elim fun v h => h.bW
theorem PInvE.env (h : PInvE W w pb lines) : sc.Env w := h.elim fun v h => h.env
end
theorem pline_calls (W w : World) (pb : Nat) (lines ws : List ByteArray) (A0 : Option Addr) (c0 : Nat) (h : PInvE W w pb lines) (hws : Kd.string.C w A0 ws.length ws) (hc0 : ws.length ≤ c0) (hl : lines.length ≤ 4294967296) (hn : ws.length ≤ 140737488355328) (hj : (joinB ws ⟨#[32]⟩).size ≤ 140737488355328) :
 Calls Tryz.prog 32 #[.pointer (some ⟨pb, 0, none⟩), .slice A0 ws.length c0] w fun e w' => e = .returned (.tuple #[]) ∧ PInvE W w' pb (lines ++ [joinB ws ⟨#[32]⟩]) := by
 obtain ⟨v, h⟩ := h
 have HP := am_ h
 have HC := am_ hws
 have HC0 := am_ hc0
 have HL := am_ hl
 have HJ := am_ (show strings_Join.f ws ⟨#[32]⟩ = some (joinB ws ⟨#[32]⟩) by unfold strings_Join.f; rw [if_pos ⟨hn, hj⟩])
 clear h hws hc0 hl hn hj
 go_enter Tryz.func32, Tryz.ntmps32
 go_wp2
 refine start_ (n := 12) (S := fun w' => w'.cell? ⟨pb, 0, none⟩ = some v) (ds := [11]) (bs_ 12 0) (by kernel_rfl) rfl rfl ((blk_cell HP.out.blk 0).trans rfl) (fun hHeld => ?_)
 replace HP := am_ HP.out.drew; replace HC := am_ (Kd.C_below HC.out (b3_ (Below.refl _ _))); generalize w.drew = w1 at HP HC hHeld ⊢
 refine pA_ 0 4 (bs_ 12 1) ?_
 refine pA_ 1 5 (bs_ 12 3) ?_
 refine pA_ 2 6 (bs_ 12 7) ?_
 refine pA_ 3 7 (bs_ 12 15) ?_
 refine pA_ 5 9 (bs_ 12 47) ?_
 refine tA_ hHeld 4 8 (bs_ 12 63) ?_
 refine oA_ 6 10 (bs_ 12 127) (fun K hK => ?_)
 refine gA_ Tryz.func35 #[.slice A0 ws.length c0, .string ⟨#[32]⟩] ?_
 refine (strings_Join.calls A0 c0 ws ⟨#[32]⟩ (joinB ws ⟨#[32]⟩) _ HC.out HC0.out HJ.out).mono ?_
 rintro e w2 ⟨rfl, hb2⟩
 refine ⟨_, rfl, ?_⟩
 have hp2 := HP.out.below hb2
 have HP2 := am_ hp2
 have HB2 := am_ hb2
 clear hb2
 refine hK.out _ _ ((blk_cell hp2.blk 0).trans rfl) (fun hHeld => ?_)
 clear hK K
 refine nA_ ?_
 refine oA_ 7 11 (bs_ 12 255) (fun K hK => ?_)
 refine vA_ ?_
 refine hK.out _ _ (wld.cellA ((blk_cell hp2.blk 0).trans rfl) _) (fun hHeld => ?_)
 clear hK K
 refine nA_ ?_
 refine oA_ 8 12 (bs_ 12 511) (fun K hK => ?_)
 refine Kd.R_append_step Kd.string (w0 := W) W.heap.size (by rfl) (.tmp 8) (.tmp 11) 71 9 (.string ⟨#[]⟩) 16 rfl Tryz.underlying71 it.info9' rfl (by decide) (by omega) v lines (joinB ws ⟨#[32]⟩) [.string (joinB ws ⟨#[32]⟩)] (fun _ => True) (fun _ => False) rfl rfl ?aP (fun _ hk => hk.elim) ?aF ?aO ?aB ?aS ?aL ?_
 (case aP => exact rfl)
 (case aF => exact (fun _ _ => trivial))
 (case aO => exact Kd.R_mono HP2.out.row (fun k_ hk => trivial))
 (case aB => exact HP2.out.bW)
 (case aS => exact HP2.out.bW.size)
 (case aL => have := HL.out; omega)
 intro v9 w3 ho hb hg hat
 obtain ⟨A9, c9, rfl⟩ := Kd.R_slice ho
 have hblk3 := grown_blk HP2.out.blk (R_typ HP2.out.row) (by decide) hg
 have hfz := blk_frozen hblk3 0
 refine hK.out _ _ ((blk_cell hblk3 0).trans rfl) (fun hHeld => ?_)
 clear hK K
 refine nA_ ?_
 refine pA_ 9 13 (bs_ 12 1023) ?_
 refine pA_ 10 14 (bs_ 12 2047) ?_
 refine last_ (i := 11) (N := none) (bs_ 12 4095) rfl rfl (by kernel_rfl) (by decide) (fun K hK => ?_)
 refine skip_ (w1 := ?_) (by rfl) rfl ?_ ?_
 rotate_left
 · go_simp
   rfl
 refine hK.out _ _ ?_
 clear hK K
 refine done_ (by kernel_rfl) ?_
 go_end0
 have ho2 := R_keepT ho hblk3 (by intro q hq e; subst e; simp [Kd.string, Kd.scalar] at hq) (keep_setC w3 pb 0 (.slice A9 (lines ++ [joinB ws ⟨#[32]⟩]).length c9))
 simp only [List.length_append, List.length_cons, List.length_nil, Nat.zero_add] at ho2
 exact ⟨rfl, _, wld.set_same hblk3 _, ho2, hb.setCell (p := ⟨pb, 0, none⟩) HP2.out.ge _, HP2.out.ge, HP2.out.env0⟩
def quoteB (s : ByteArray) : ByteArray := ⟨(sc.quoteL s.data.toList).toArray⟩
theorem quoteB_c (s : ByteArray) (hs : s.size ≤ 1099511627776) (w : World) (hE : sc.Env w) : Calls Tryz.prog 20 #[.string s] w fun e w' => e = .returned (.string (quoteB s)) ∧ Below w.heap.size w w' := sc.quote_c s hs w hE
structure BInv (W w0 w : World) (pb g : Nat) (lines : List ByteArray) (t : TypeId) (cells : Array Value) : Prop where
 p0 : PInvE W w0 pb lines
 box : w.heap[g]? = some (.cells cells t (0, 0))
 b0 : Below w0.heap.size w0 w
 ge : w0.heap.size ≤ g
section
variable {W w0 w w1 : World} {pb g : Nat} {lines ws : List ByteArray} {t : TypeId} {cells : Array Value} {vw : Value}
theorem BInv.below (h : BInv W w0 w pb g lines t cells) (hb : Below w.heap.size w w1) : BInv W w0 w1 pb g lines t cells := ⟨h.p0, (hb.block g (blk_lt h.box)).trans h.box, below_step h.b0 hb, h.ge⟩
theorem BInv.alloc (h : BInv W w0 w pb g lines t cells) (o : Obj) : BInv W w0 (w.alloc o) pb g lines t cells := h.below (b1_ (Below.refl _ _) o)
theorem BInv.p (h : BInv W w0 w pb g lines t cells) : PInvE W w pb lines := h.p0.below h.b0
theorem BInv.new (h : PInvE W w0 pb lines) (cells : Array Value) (t : TypeId) : BInv W w0 (w0.alloc (.cells cells t)) pb w0.heap.size lines t cells := ⟨h, wld.alloc_same _ _, b1_ (Below.refl _ _) _, Nat.le_refl _⟩
structure AInv (W w0 w : World) (pb g : Nat) (lines : List ByteArray) (t : TypeId) (cells : Array Value) (vw : Value) (ws : List ByteArray) : Prop where
 b : BInv W w0 w pb g lines t cells
 row : Kd.R Kd.string 9 w w0.heap.size TT_ vw ws
theorem AInv.start (h : BInv W w0 w pb g lines t cells) (ws : List ByteArray) (hne : ws ≠ []) (hl : ws.length ≤ maxLen) : AInv W w0 (w.alloc (.cells (ws.map Value.string).toArray 9)) pb g lines t cells (.slice (some ⟨w.heap.size, 0, none⟩) ws.length ws.length) ws :=
 ⟨h.alloc _, R_strings w ws w0.heap.size h.b0.size hne hl⟩
end
section
variable {ops : Array Oper} {o : Oper} {a : Act} {Q : Exit → Act → World → Prop} {E : Prop} {W w0 w : World} {pb g : Nat} {lines ws : List ByteArray} {t : TypeId} {cells : Array Value} {vw : Value} {K : Act → World → Prop}
end
theorem AInv.reads {W w0 w : World} {pb g n c : Nat} {A : Option Addr} {lines ws : List ByteArray} {t : TypeId} {cells : Array Value} (h : AInv W w0 w pb g lines t cells (.slice A n c) ws) : n = ws.length ∧ ws.length ≤ c ∧ Kd.string.C w A ws.length ws := by
 obtain ⟨A', c', e, h1, h2⟩ := Kd.R_reads h.row
 injection e with e1 e2 e3
 subst e1 e3
 exact ⟨e2, h1, h2⟩
theorem AInv.line {W w0 w : World} {pb g n c : Nat} {A : Option Addr} {lines ws : List ByteArray} {t : TypeId} {cells : Array Value} (h : AInv W w0 w pb g lines t cells (.slice A n c) ws) (hl : lines.length ≤ 4294967296) (hn : ws.length ≤ 140737488355328) (hj : (joinB ws ⟨#[32]⟩).size ≤ 140737488355328) :
 Calls Tryz.prog 32 #[.pointer (some ⟨pb, 0, none⟩), .slice A n c] w fun e w' => e = .returned (.tuple #[]) ∧ PInvE W w' pb (lines ++ [joinB ws ⟨#[32]⟩]) := by
 obtain ⟨rfl, h1, h2⟩ := h.reads
 exact pline_calls W w pb lines ws A c h.b.p h2 h1 hl hn hj
theorem bt_of (s : ByteArray) (i : Nat) (b : UInt8) (h : s.data.toList[i]? = some b) : bt s (i : Int) = (b.toNat : Int) := by
 obtain ⟨⟨l⟩⟩ := s
 have h' : l[i]? = some b := h
 obtain ⟨hi, rfl⟩ := List.getElem?_eq_some_iff.1 h'
 have hs : ((i : Int)).toNat < (ByteArray.mk ⟨l⟩).size := by
  show ((i : Int)).toNat < l.toArray.size
  simpa using hi
 rw [← bt_at _ _ hs]
 rfl
theorem hex_bt : ∀ (k : Nat), k < 16 → bt (⟨#[48, 49, 50, 51, 52, 53, 54, 55, 56, 57, 65, 66, 67, 68, 69, 70]⟩ : ByteArray) (k : Int) = ((sc.hexD k).toNat : Int) := by
 intro k hk
 have : k = 0 ∨ k = 1 ∨ k = 2 ∨ k = 3 ∨ k = 4 ∨ k = 5 ∨ k = 6 ∨ k = 7 ∨ k = 8 ∨ k = 9 ∨ k = 10 ∨ k = 11 ∨ k = 12 ∨ k = 13 ∨ k = 14 ∨ k = 15 := by omega
 rcases this with rfl | rfl | rfl | rfl | rfl | rfl | rfl | rfl | rfl | rfl | rfl | rfl | rfl | rfl | rfl | rfl <;> decide
theorem pct_nums (b : UInt8) : ([37, bt (⟨#[48, 49, 50, 51, 52, 53, 54, 55, 56, 57, 65, 66, 67, 68, 69, 70]⟩ : ByteArray) ((Int.tdiv (b.toNat : Int) 16) % 256), bt (⟨#[48, 49, 50, 51, 52, 53, 54, 55, 56, 57, 65, 66, 67, 68, 69, 70]⟩ : ByteArray) (Int.tmod (b.toNat : Int) 16)] : List Int) = nums8 (sc.pct b) := by
 have hb := b.toNat_lt
 have e1 : (Int.tdiv (b.toNat : Int) 16) % 256 = ((b.toNat / 16 : Nat) : Int) := by
  rw [Int.tdiv_eq_ediv_of_nonneg (by omega)]
  omega
 have e2 : Int.tmod (b.toNat : Int) 16 = ((b.toNat % 16 : Nat) : Int) := by
  rw [Int.tmod_eq_emod_of_nonneg (by omega)]
  omega
 rw [e1, e2, hex_bt _ (by omega), hex_bt _ (by omega)]
 rfl
theorem pct_len (b : UInt8) : (sc.pct b).length = 3 := rfl
theorem l1_end {k : Nat} {x0 : ByteArray} {x3 : List Int} {x5 x7 : Int} (h : ¬ x7 < x5) (h0 : 0 ≤ x5) (h1 : x5 ≤ (x0.size : Int)) : cloisterref26_Quote.l1 (k + 1) x0 x3 x5 x7 = cloisterref26_Quote.l0 k (x0.extract (x5 : Int).toNat x0.size) x3 := by
 rw [cloisterref26_Quote.l1, if_neg h, if_pos h0, if_pos h1]
theorem l1_step {k : Nat} {x0 : ByteArray} {x3 : List Int} {x5 : Int} {i : Nat} {b : UInt8} (h : (i : Int) < x5) (h1 : (i : Int) < (x0.size : Int)) (hb : bt x0 (i : Int) = (b.toNat : Int)) (hl : x3.length + 3 < 140737488355328) (hi : i < 1099511627776) : cloisterref26_Quote.l1 (k + 1) x0 x3 x5 (i : Int) = cloisterref26_Quote.l1 k x0 (x3 ++ nums8 (sc.pct b)) x5 ((i + 1 : Nat) : Int) := by
 have hb2 := b.toNat_lt
 have e1 : (Int.tdiv (b.toNat : Int) 16) % 256 = ((b.toNat / 16 : Nat) : Int) := by
  rw [Int.tdiv_eq_ediv_of_nonneg (by omega)]
  omega
 have e2 : Int.tmod (b.toNat : Int) 16 = ((b.toNat % 16 : Nat) : Int) := by
  rw [Int.tmod_eq_emod_of_nonneg (by omega)]
  omega
 have hw1 : wrap64 ((i : Int) + 1) = ((i + 1 : Nat) : Int) := by unfold wrap64; omega
 have hp : x3.length + (nums8 (sc.pct b)).length < 140737488355328 := by rw [nums8_length, pct_len]; exact hl
 have d0 : 0 ≤ (Int.tdiv (b.toNat : Int) 16) % 256 := by rw [e1]; exact Int.natCast_nonneg _
 have d1 : (Int.tdiv (b.toNat : Int) 16) % 256 < 16 := by rw [e1]; omega
 have m0 : 0 ≤ Int.tmod (b.toNat : Int) 16 := by rw [e2]; exact Int.natCast_nonneg _
 have m1 : Int.tmod (b.toNat : Int) 16 < 16 := by rw [e2]; omega
 rw [cloisterref26_Quote.l1, if_pos h, if_pos (Int.natCast_nonneg i), if_pos h1]
 rw [hb, if_pos d0, if_pos d1, if_pos m0, if_pos m1, pct_nums, hw1, Option.bind_some, if_pos hp]
theorem rq_l1 (M : Nat) (hM : M < 140737488355328) (x0 : ByteArray) (wd : Nat) (hw : wd ≤ x0.size) (hs : x0.size ≤ 1099511627776) (K d : Nat) : ∀ (i : Nat) (acc : List UInt8), i + d = wd → acc.length + 3 * d ≤ M →
 cloisterref26_Quote.l1 (K + 1 + d) x0 (nums8 acc) wd i = cloisterref26_Quote.l0 K (x0.extract wd x0.size) (nums8 (acc ++ ((x0.data.toList.take wd).drop i).flatMap sc.pct)) := by
 induction d with
 | zero =>
  intro i acc hi hl
  have hd : (x0.data.toList.take wd).drop i = [] := by
   apply List.drop_eq_nil_of_le
   have := List.length_take_le wd x0.data.toList
   omega
  rw [hd, Nat.add_zero, l1_end (by omega) (by omega) (by omega), List.flatMap_nil, List.append_nil]
  rfl
 | succ d ih =>
  intro i acc hi hl
  have hil : i < x0.data.toList.length := by rw [← Lib.size_eq]; omega
  obtain ⟨b, hb⟩ : ∃ b, x0.data.toList[i]? = some b := ⟨_, List.getElem?_eq_getElem hil⟩
  have hbt := bt_of x0 i b hb
  have ih := ih (i + 1) (acc ++ sc.pct b) (by omega) (by rw [List.length_append, pct_len]; omega)
  have hd : (x0.data.toList.take wd).drop i = b :: (x0.data.toList.take wd).drop (i + 1) := by
   have hi2 : i < (x0.data.toList.take wd).length := by simp only [List.length_take]; omega
   rw [List.drop_eq_getElem_cons hi2]
   congr 1
   have : (x0.data.toList.take wd)[i]? = some b := by rw [List.getElem?_take, if_pos (by omega), hb]
   exact (List.getElem?_eq_some_iff.1 this).2
  have hlen : (nums8 acc).length + 3 < 140737488355328 := by rw [nums8_length]; omega
  rw [← Nat.add_assoc, l1_step (b := b) (by omega) (by omega) hbt hlen (by omega), ← nums8_append, ih, hd, List.flatMap_cons, List.append_assoc]
theorem j1_eq (k : Nat) (x0 : ByteArray) (x3 : List Int) (c wd : Nat) (x6 : Bool) :
 cloisterref26_Quote.j1 (k + 1) x0 x3 (c : Int) (wd : Int) x6 = cloisterref26_Quote.j2 k x0 x3 (wd : Int) (x6 && (decide (32 < c) && decide (c ≤ 126) && c != 34 && c != 37 || decide (161 ≤ c))) := by
 rw [cloisterref26_Quote.j1]
 cases x6 with
 | false => rfl
 | true =>
  rw [if_pos rfl, Bool.true_and]
  have e161 : decide ((c : Int) ≥ 161) = decide (161 ≤ c) := decide_eq_decide.2 (by omega)
  rw [e161]
  by_cases h1 : 32 < c
  · rw [if_pos (show (c : Int) ≥ 33 by omega)]
    by_cases h2 : c ≤ 126
    · rw [if_pos (show (c : Int) ≤ 126 by omega)]
      by_cases h3 : c = 34
      · rw [if_pos (show (c : Int) = 34 by omega)]; subst h3; rfl
      rw [if_neg (show ¬ (c : Int) = 34 by omega)]
      by_cases h4 : c = 37
      · rw [if_pos (show (c : Int) = 37 by omega)]; subst h4; rfl
      rw [if_neg (show ¬ (c : Int) = 37 by omega)]
      congr 1
      simp [h1, h2, h3, h4]
    rw [if_neg (show ¬ (c : Int) ≤ 126 by omega)]
    congr 1
    simp [h2]
  rw [if_neg (show ¬ (c : Int) ≥ 33 by omega)]
  congr 1
  simp [h1]
theorem l0_j2 (k : Nat) (x : ByteArray) (x3 : List Int) (h : x.size ≠ 0) : cloisterref26_Quote.l0 (k + 2) x x3 = cloisterref26_Quote.j2 k x x3 (((Lib.decodeGo x).2 : Nat) : Int) (sc.qok (Lib.decodeGo x).1 (Lib.decodeGo x).2) := by
 have h0 : (x.size : Int) > 0 := by omega
 rw [cloisterref26_Quote.l0, if_pos h0]
 unfold utf8_DecodeRuneInString.f
 rw [Option.bind_some]
 by_cases hc : (Lib.decodeGo x).1 = 65533
 · rw [if_pos (by show ((Lib.decodeGo x).1 : Int) = 65533; rw [hc]; rfl), j1_eq]
   congr 1
   unfold sc.qok
   rw [hc]
   congr 1
   have e : (((Lib.decodeGo x).2 : Int) > 1) ↔ 1 < (Lib.decodeGo x).2 := Int.ofNat_lt
   simp [e]
 rw [if_neg (by show ¬ ((Lib.decodeGo x).1 : Int) = 65533; intro h; exact hc (by omega)), j1_eq]
 congr 1
 unfold sc.qok
 simp [hc]
theorem l0_end (k : Nat) (x : ByteArray) (acc : List UInt8) (h : x.size = 0) (hl : acc.length < 140737488355328) : cloisterref26_Quote.l0 (k + 1) x (nums8 acc) = some ⟨(acc ++ [34]).toArray⟩ := by
 have h0 : ¬ (x.size : Int) > 0 := by omega
 have hl' : (nums8 acc).length < 140737488355328 := by rw [nums8_length]; exact hl
 rw [cloisterref26_Quote.l0, if_neg h0, if_pos hl']
 congr 1
 rw [← strOf_nums8, nums8_append]
 rfl
theorem decGo_L (x : ByteArray) (h : x.size ≠ 0) : Lib.decodeGo x = Lib.decodeL x.data.toList := by
 unfold Lib.decodeGo
 rw [if_neg h]
 rfl
theorem ext_drop (x : ByteArray) (n : Nat) : (x.extract n x.size).data.toList = x.data.toList.drop n := by
 rw [extract_data, List.take_of_length_le]
 rw [List.length_drop, data_length]
 exact Nat.le_refl _
theorem rq_l0 (M : Nat) (hM : M < 140737488355328) (n : Nat) : ∀ (x : ByteArray) (acc : List UInt8), x.size ≤ n → x.size ≤ 1099511627776 → acc.length + 3 * x.size ≤ M →
 ∃ k, cloisterref26_Quote.l0 k x (nums8 acc) = some ⟨(acc ++ (sc.qt x.data.toList ++ [34])).toArray⟩ := by
 induction n with
 | zero =>
  intro x acc h1 _ h2
  have h0 : x.size = 0 := by omega
  have hd : x.data.toList = [] := List.length_eq_zero_iff.1 (by rw [data_length]; exact h0)
  refine ⟨1, ?_⟩
  rw [l0_end 0 x acc h0 (by omega), hd]
  rfl
 | succ n ih =>
  intro x acc h1 hb h2
  by_cases h0 : x.size = 0
  · exact ih x acc (by omega) hb h2
  have hne : x.data.toList ≠ [] := fun h => h0 (by rw [← data_length, h]; rfl)
  have hw := sc.width_posL x.data.toList
  have hw2 := Lib.decodeL_le _ hne
  rw [data_length] at hw2
  have hq := sc.qt_step hne
  have hql := sc.qform_length x.data.toList (Lib.decodeL x.data.toList).1 (Lib.decodeL x.data.toList).2
  generalize hC : (Lib.decodeL x.data.toList).1 = C at hq hql
  generalize hW : (Lib.decodeL x.data.toList).2 = W at hq hw hw2 hql
  have hsz : (x.extract W x.size).size = x.size - W := by rw [← data_length, ext_drop, List.length_drop, data_length]
  have hacc : (acc ++ sc.qform x.data.toList C W).length + 3 * (x.extract W x.size).size ≤ M := by
   rw [List.length_append, hsz]; omega
  obtain ⟨K, hK⟩ := ih (x.extract W x.size) (acc ++ sc.qform x.data.toList C W) (by omega) (by omega) hacc
  rw [ext_drop] at hK
  rw [hq]
  have hres : ∀ t : List UInt8, acc ++ (sc.qform x.data.toList C W ++ t ++ [34]) = acc ++ sc.qform x.data.toList C W ++ (t ++ [34]) := fun t => by simp only [List.append_assoc]
  rw [hres, ← hK]
  cases hok : sc.qok C W with
  | true =>
   refine ⟨K + 1 + 2, ?_⟩
   have hx : (x.extract 0 (W : Int).toNat).size = W := by
    rw [← data_length, extract_data, Int.toNat_natCast, List.drop_zero, Nat.sub_zero, List.length_take, data_length]; exact Nat.min_eq_left hw2
   have hg : (nums8 acc).length + (x.extract 0 (W : Int).toNat).size < 140737488355328 := by rw [hx, nums8_length]; omega
   rw [l0_j2 _ _ _ h0, decGo_L x h0, hC, hW, hok, cloisterref26_Quote.j2, if_pos rfl, if_pos (Int.natCast_nonneg W), if_pos (Int.ofNat_le.2 hw2), if_pos hg]
   rw [bytesOf_nums8, ← nums8_append, Int.toNat_natCast, extract_data, List.drop_zero, Nat.sub_zero]
   unfold sc.qform
   rw [hok, if_pos rfl]
  | false =>
   refine ⟨K + 1 + W + 1 + 2, ?_⟩
   rw [l0_j2 _ _ _ h0, decGo_L x h0, hC, hW, hok, cloisterref26_Quote.j2, if_neg Bool.false_ne_true]
   have := rq_l1 M hM x W hw2 hb K W 0 acc (Nat.zero_add W) (by omega)
   rw [show ((0 : Nat) : Int) = 0 from rfl] at this
   rw [this]
   unfold sc.qform
   rw [hok, if_neg Bool.false_ne_true, List.drop_zero]
theorem rq_f (x : ByteArray) (h : x.size ≤ 1099511627776) : ∃ k, cloisterref26_Quote.f k x = some ⟨(sc.quoteL x.data.toList).toArray⟩ := by
 obtain ⟨k, hk⟩ := rq_l0 (3 * x.size + 1) (by omega) x.size x [34] (Nat.le_refl _) h (by show 1 + 3 * x.size ≤ _; omega)
 exact ⟨k, hk⟩
theorem Cat_ {α : Type} {d : Kd α} {w : World} {A : Option Addr} {n : Nat} {xs : List α} (h : d.C w A n xs) {j : Nat} {x : α} (hj : xs[j]? = some x) (hs : 0 < d.sz) :
 ∃ b o cs, A = some ⟨b, o, none⟩ ∧ d.K w x cs ∧ (∀ i u, cs[i]? = some u → w.cell? ⟨b, o + (j * d.sz + i), none⟩ = some u) := by
 obtain ⟨h1, h2, h3⟩ := h
 have hjl : j < xs.length := (List.getElem?_eq_some_iff.1 hj).1
 obtain ⟨ad, rfl, hc⟩ := h3 (by omega)
 obtain ⟨cs, hl, hK, hcell⟩ := hc j x hj
 obtain ⟨cs0, hl0, _, hcell0⟩ := hc 0 xs[0] (List.getElem?_eq_getElem (by omega))
 have h0 := hcell0 0 cs0[0] (List.getElem?_eq_getElem (by omega))
 have hz : ad.add (0 * d.sz + 0) = ad := by unfold Addr.add; simp
 rw [hz] at h0
 have hsp := spot_of h0
 obtain ⟨b, o, sp⟩ := ad
 cases hsp
 refine ⟨b, o, cs, rfl, hK, fun i u hi => ?_⟩
 have := hcell i u hi
 rwa [addPlainQ] at this
theorem nilC {α : Type} (d : Kd α) (w : World) : d.C w none 0 [] := ⟨rfl, by decide, fun h => absurd h (by decide)⟩
def alikeB (a b : S49) : Bool := decide (a.f0 = b.f0 ∧ (a.f1.f0 = b.f1.f0 ∧ a.f1.f1 = b.f1.f1) ∧ a.f2 = b.f2 ∧ a.f3 = b.f3 ∧ a.f4 = b.f4 ∧ a.f6 = b.f6 ∧ a.f5.length = b.f5.length)
theorem toList_inj {a b : ByteArray} : a.toList = b.toList ↔ a = b := by
 constructor
 · intro h
   rw [Lib.toList_data, Lib.toList_data] at h
   obtain ⟨⟨a⟩⟩ := a
   obtain ⟨⟨b⟩⟩ := b
   simp at h
   rw [h]
 rintro rfl; rfl
theorem alike_f (a b : S49) : script_alike.f a.f0 a.f1.f0 a.f1.f1 a.f2 a.f3 a.f4 a.f5 a.f6 b.f0 b.f1.f0 b.f1.f1 b.f2 b.f3 b.f4 b.f5 b.f6 = some (alikeB a b) := by
 unfold script_alike.f alikeB
 by_cases h1 : a.f0 = b.f0
 · rw [if_pos h1]
   by_cases h2 : a.f1.f0 = b.f1.f0 ∧ a.f1.f1 = b.f1.f1
   · rw [if_pos (by simp [h2])]
     by_cases h3 : a.f2 = b.f2
     · rw [if_pos h3]
       by_cases h4 : a.f3 = b.f3
       · rw [if_pos (toList_inj.2 h4)]
         by_cases h5 : a.f4 = b.f4
         · rw [if_pos (toList_inj.2 h5)]
           by_cases h6 : a.f6 = b.f6
           · rw [if_pos h6]
             congr 1
             rw [Bool.eq_iff_iff]
             simp [h1, h2, h3, h4, h5, h6]
             omega
           simp [h6]
         rw [if_neg (fun h => h5 (toList_inj.1 h))]; simp [h5]
       rw [if_neg (fun h => h4 (toList_inj.1 h))]; simp [h4]
     simp [h3]
   rw [if_neg (by simpa using h2)]; simp [h2]
 simp [h1]
theorem may_j0 (f0 f1 qk life num qplace : Int) (key to_ : ByteArray) (A8 : Option Addr) (val : List Int) (c8 : Nat) (lim place : Int) (A11 : Option Addr) (n11 c11 : Nat) (w : World) (h1 : 2 ≤ f0 ∧ f0 ≤ 5) (h2 : f1 = 0) (hval : Kd.C (Kd.int .u8) w A8 val.length val) (hc8 : val.length ≤ c8) (h4 : alikeB (⟨qk, ⟨life, num⟩, qplace, key, to_, val, lim⟩ : S49) z49 = true) (h5 : place = 0) :
 Calls Tryz.prog 31 #[.agg #[.int .i64 f0, .int .i64 f1, .int .i64 qk, .int .i64 life, .int .i64 num, .int .i64 qplace, .string key, .string to_, .slice A8 val.length c8, .int .i64 lim, .int .i64 place, .slice A11 n11 c11]] w fun e w' => e = .returned (.bool true) ∧ Below w.heap.size w w' := by
 have HAL := am_ (fun (W1 : World) (hW1 : Below w.heap.size w W1) => script_alike.calls qk life num qplace key to_ A8 c8 val lim 0 0 0 0 ⟨#[]⟩ ⟨#[]⟩ none 0 [] 0 true W1 (Kd.C_below hval hW1) hc8 (nilC _ W1) (Nat.le_refl _) ((alike_f (⟨qk, ⟨life, num⟩, qplace, key, to_, val, lim⟩ : S49) z49).trans (by rw [h4])))
 have e0 : ((w.alloc (.cells #[.int .i64 f0, .int .i64 f1, .int .i64 qk, .int .i64 life, .int .i64 num, .int .i64 qplace, .string key, .string to_, .slice A8 val.length c8, .int .i64 lim, .int .i64 place, .slice A11 n11 c11] 52)).alloc (.cells #[.int .i64 qk, .int .i64 life, .int .i64 num, .int .i64 qplace, .string key, .string to_, .slice A8 val.length c8, .int .i64 lim] 49)).cell? ⟨w.heap.size, 0, none⟩ = some (.int .i64 f0) := wld.cellA (wld.cell_of (wld.alloc_same w _) rfl) _
 have e10 : ((w.alloc (.cells #[.int .i64 f0, .int .i64 f1, .int .i64 qk, .int .i64 life, .int .i64 num, .int .i64 qplace, .string key, .string to_, .slice A8 val.length c8, .int .i64 lim, .int .i64 place, .slice A11 n11 c11] 52)).alloc (.cells #[.int .i64 qk, .int .i64 life, .int .i64 num, .int .i64 qplace, .string key, .string to_, .slice A8 val.length c8, .int .i64 lim] 49)).cell? ⟨w.heap.size, 10, none⟩ = some (.int .i64 place) := wld.cellA (wld.cell_of (wld.alloc_same w _) rfl) _
 have HE := am_ (And.intro e0 e10)
 clear hval hc8 e0 e10
 clear h4
 subst h2
 subst h5
 have g0 : (f0 == 1) = false := by simp; omega
 have g1 : decide (f0 < 1) = false := by simp; omega
 have g2 : decide (5 < f0) = false := by simp; omega
 clear h1
 go_enter Tryz.func31, Tryz.ntmps31
 go_wp2_with (go_at_call 57; refine (HAL.out _ (b1_ (b1_ (Below.refl _ _) _) _)).mono ?_; rintro e w1 ⟨rfl, hbx⟩; have k0 := (hbx.cell (p := ⟨w.heap.size, 0, none⟩) (by simp; omega)).trans HE.out.1; have k10 := (hbx.cell (p := ⟨w.heap.size, 10, none⟩) (by simp; omega)).trans HE.out.2; have HBX := am_ hbx; clear hbx)
 go_ret
 refine ⟨rfl, ?_⟩
 exact (b1_ (b1_ (Below.refl _ _) _) _).trans (HBX.out.mono (by simp; omega))
def utoaB (n : Int) : ByteArray := ⟨(Lib.decDigits n.toNat).toArray⟩
theorem utoa_c (n : Int) (h0 : 0 ≤ n) (h1 : n < 18446744073709551616) (w : World) (hE : sc.Env w) : Calls Tryz.prog 27 #[.int .u64 n, .int .i64 10] w fun e w' => e = .returned (.string (utoaB n)) ∧ Below w.heap.size w w' := by
 have := sc.formatUint_c n.toNat (by omega) w hE
 rwa [Int.toNat_of_nonneg h0] at this
theorem line_lit (W w : World) (pb : Nat) (lines ws : List ByteArray) (h : PInvE W w pb lines) (hne : ws ≠ []) (hn : ws.length ≤ 100) (hl : lines.length ≤ 4294967296) (hj : (joinB ws ⟨#[32]⟩).size ≤ 140737488355328) (m : Nat) (hm : ws.length = m) :
 Calls Tryz.prog 32 #[.pointer (some ⟨pb, 0, none⟩), .slice (some ⟨w.heap.size, 0, none⟩) m m] (w.alloc (.cells (ws.map Value.string).toArray 9)) fun e w' => e = .returned (.tuple #[]) ∧ PInvE W w' pb (lines ++ [joinB ws ⟨#[32]⟩]) := by
 subst hm
 obtain ⟨A', c', e, h1, h2⟩ := Kd.R_reads (R_strings w ws w.heap.size (Nat.le_refl _) hne (by unfold maxLen; omega))
 injection e with e1 e2 e3
 subst e1
 exact pline_calls W _ pb lines ws _ _ (h.alloc _) h2 (Nat.le_refl _) hl (by omega) hj
theorem cell_lift {W wr : World} (hB : Below W.heap.size W wr) {p : Addr} {v : Value} (h : W.cell? p = some v) : wr.cell? p = some v := (hB.cell (World.block_lt_of_cell? W _ h)).trans h
end Go.Proofs.YtndbbgihpoiojaaGreatDoor.Q
namespace Go.Proofs.YtndbbgihpoiojaaGreatDoor.Q
open Go.RowKit Go.Proofs.YtndbbgihpoiojaaGreatDoorW.PrintWords Go.Proofs.YtndbbgihpoiojaaGreatDoorW.PrintLast Go.Proofs.YtndbbgihpoiojaaGreatDoorW.PrintMore
theorem up_ {α : Type} {f : Nat → Option α} (hm : ∀ k, LeO (f k) (f (k + 1))) {k : Nat} {r : α} (h : f k = some r) {m : Nat} (hk : k ≤ m) : f m = some r := by
 induction hk with
 | refl => exact h
 | step _ ih => exact hm _ _ ih
section
def QK (K : Nat) (x : ByteArray) : Prop := ∀ m, K ≤ m → cloisterref26_Quote.f m x = some (quoteB x)
theorem qk_of {x : ByteArray} (h : x.size ≤ 1099511627776) : ∃ K, QK K x := by
 obtain ⟨k, hk⟩ := rq_f x h
 exact ⟨k, fun m hm => up_ (cloisterref26_Quote.mono x) hk hm⟩
end
end Go.Proofs.YtndbbgihpoiojaaGreatDoor.Q
namespace Go.Proofs.YtndbbgihpoiojaaGreatDoor.Q
open Go.RowKit Go.Proofs.YtndbbgihpoiojaaGreatDoorW.PrintWords Go.Proofs.YtndbbgihpoiojaaGreatDoorW.PrintLast Go.Proofs.YtndbbgihpoiojaaGreatDoorW.PrintMore
attribute [local go_sem] max2_int min2_int max_two min_two max_three min_three max_four min_four   -- for this text's walks alone
def cloisterref26_digits.l0 : Nat → ByteArray → Int → Option (Bool)
 | 0, _, _ => none
 | k + 1, x0, x3 => if x3 < (x0.size : Int) then (if 0 ≤ x3 then (if (bt x0 x3) < 48 then (some false) else (if (bt x0 x3) > 57 then (some false) else (cloisterref26_digits.l0 k x0 (wrap64 (x3 + 1))))) else (none)) else (if x0.toList = ([48] : List UInt8) then (some true) else (if x0.toList = ([] : List UInt8) then (some false) else (if 0 < (x0.size : Int) then (some ((bt x0 0) != 48)) else (none))))
def cloisterref26_digits.f (k : Nat) (a0 : ByteArray) : Option (Bool) := cloisterref26_digits.l0 k a0 0
theorem cloisterref26_digits.calls (k : Nat) (a0 : ByteArray) (r : Bool) (w : World) (h : cloisterref26_digits.f k a0 = some r) :
 Calls Tryz.prog 70 #[.string a0] w fun e w' => e = .returned (.bool r) ∧ Drawn0 w w' := by
 have H : (cloisterref26_digits.l0 k a0 0) = some r := h
 clear h
 have H' := am_ H
 clear H
 go_enter Tryz.func70, Tryz.ntmps70
 go_wp2
 go_loopg [3] k (fun kq v3 w' => ∃ (x3_1 : Int), v3 = .int .i64 x3_1 ∧ Aside0 (cloisterref26_digits.l0 kq a0 x3_1 = some r) ∧ Aside0 (kq ≤ k) ∧ Drawn0 w w')
 case atStart => exact ⟨(0), rf_, H', ⟨Nat.le_refl _⟩, by repeat (first | exact Drawn0.refl _ | apply Drawn0.step)⟩
 case round =>
  clear H'
  obtain ⟨x3_1, rfl, HA, HK1, ⟨m1, rfl⟩⟩ := hrel
  cases gk with
  | zero => exact absurd HA.out (by simp [cloisterref26_digits.l0])
  | succ k1 =>
   have H := HA.out
   clear HA
   simp only [cloisterref26_digits.l0] at H
   by_cases c2 : x3_1 < (a0.size : Int)
   · rw [if_pos c2] at H
     have c2b0 := decide_eq_true c2
     clear c2
     by_cases c3 : 0 ≤ x3_1
     · rw [if_pos c3] at H
       have c3b0 := decide_eq_true c3
       clear c3
       by_cases c5 : (bt a0 x3_1) < 48
       · rw [if_pos c5] at H
         have c5b0 := decide_eq_true c5
         clear c5
         obtain rfl := Option.some.inj H
         have p4 : 0 ≤ (x3_1 : Int) := od_
         have q4 : x3_1 < (a0.size : Int) := od_
         have hx4 := bt_at a0 x3_1
         replace p4 := eq_true p4
         replace q4 := eq_true q4
         go_wp2
         go_ret
         exact ⟨by first | rfl | (simp; done) | (simp [*]; done), by repeat (first | exact Drawn0.refl _ | apply Drawn0.step)⟩
       rw [if_neg c5] at H
       have c5b0 := decide_eq_false c5
       clear c5
       by_cases c7 : (bt a0 x3_1) > 57
       · rw [if_pos c7] at H
         have c7b0 : decide (57 < (bt a0 x3_1)) = true := decide_eq_true c7
         clear c7
         obtain rfl := Option.some.inj H
         have p4 : 0 ≤ (x3_1 : Int) := od_
         have q4 : x3_1 < (a0.size : Int) := od_
         have hx4 := bt_at a0 x3_1
         replace p4 := eq_true p4
         replace q4 := eq_true q4
         have p6 : 0 ≤ (x3_1 : Int) := od_
         have q6 : x3_1 < (a0.size : Int) := od_
         have hx6 := bt_at a0 x3_1
         replace p6 := eq_true p6
         replace q6 := eq_true q6
         go_wp2
         go_ret
         exact ⟨by first | rfl | (simp; done) | (simp [*]; done), by repeat (first | exact Drawn0.refl _ | apply Drawn0.step)⟩
       rw [if_neg c7] at H
       have c7b0 : decide (57 < (bt a0 x3_1)) = false := decide_eq_false c7
       clear c7
       have H' := am_ H
       clear H
       have p4 : 0 ≤ (x3_1 : Int) := od_
       have q4 : x3_1 < (a0.size : Int) := od_
       have hx4 := bt_at a0 x3_1
       replace p4 := eq_true p4
       replace q4 := eq_true q4
       have p6 : 0 ≤ (x3_1 : Int) := od_
       have q6 : x3_1 < (a0.size : Int) := od_
       have hx6 := bt_at a0 x3_1
       replace p6 := eq_true p6
       replace q6 := eq_true q6
       go_wp2
       go_roundg k1
       case measure => have := HK1.out; omega
       case rel => exact ⟨(wrap64 (x3_1 + 1)), rf_, H', ⟨by have := HK1.out; omega⟩, by repeat (first | exact Drawn0.refl _ | apply Drawn0.step)⟩
     rw [if_neg c3] at H
     exact absurd H (by simp)
   rw [if_neg c2] at H
   have c2b0 := decide_eq_false c2
   clear c2
   by_cases c8 : a0.toList = ([48] : List UInt8)
   · rw [if_pos c8] at H
     have c8b0 := eb_ c8
     have c8b1 := nb_ c8
     clear c8
     obtain rfl := Option.some.inj H
     go_wp2
     go_ret
     exact ⟨by first | rfl | (simp; done) | (simp [*]; done), by repeat (first | exact Drawn0.refl _ | apply Drawn0.step)⟩
   rw [if_neg c8] at H
   have c8b0 := ec_ c8
   have c8b1 := nc_ c8
   by_cases c9 : a0.toList = ([] : List UInt8)
   · rw [if_pos c9] at H
     have c9b0 := eb_ c9
     have c9b1 := nb_ c9
     clear c9
     obtain rfl := Option.some.inj H
     go_wp2
     go_ret
     exact ⟨by first | rfl | (simp; done) | (simp [*]; done), by repeat (first | exact Drawn0.refl _ | apply Drawn0.step)⟩
   rw [if_neg c9] at H
   have c9b0 := ec_ c9
   have c9b1 := nc_ c9
   by_cases c10 : 0 < (a0.size : Int)
   · rw [if_pos c10] at H
     have c10b0 := decide_eq_true c10
     have c10b1 : decide (0 < a0.size) = true := decide_eq_true (by omega)
     clear c10
     obtain rfl := Option.some.inj H
     have p11 : 0 ≤ (0 : Int) := (by omega)
     have q11 : 0 < a0.size := (by have : (0 : Int) < (a0.size : Int) := od_; omega)
     have hx11 : ∀ h : 0 < a0.size, ((a0[0]'h).toNat : Int) = bt a0 0 := bt_at a0 0
     clear p11
     have qi11 : (0 < (a0.size : Int)) = True := eq_true (od_)
     replace q11 := eq_true q11
     go_wp2
     go_ret
     exact ⟨by first | rfl | (simp; done) | (simp [*]; done), by repeat (first | exact Drawn0.refl _ | apply Drawn0.step)⟩
   rw [if_neg c10] at H
   exact absurd H (by simp)
def cloisterref26_Label.l0 : Nat → ByteArray → Int → Int → Option (Int × Bool)
 | 0, _, _, _ => none
 | k + 1, x0, x5, x6 => if x6 < (x0.size : Int) then (if 0 ≤ x6 then (if x5 > ((18446744073709551615 - (((bt x0 x6) - 48) % 256)) / 10) then (some (0, false)) else (cloisterref26_Label.l0 k x0 (IntKind.u64.wrap ((IntKind.u64.wrap (10 * x5)) + (((bt x0 x6) - 48) % 256))) (wrap64 (x6 + 1)))) else (none)) else (some (x5, true))
def cloisterref26_Label.f (k : Nat) (a0 : ByteArray) : Option (Int × Bool) := (cloisterref26_digits.f k a0).bind fun t318 => (if t318 = true then (cloisterref26_Label.l0 k a0 0 0) else (some (0, false)))
theorem cloisterref26_Label.calls (k : Nat) (a0 : ByteArray) (r1 : Int) (r2 : Bool) (w : World) (h : cloisterref26_Label.f k a0 = some (r1, r2)) :
 Calls Tryz.prog 43 #[.string a0] w fun e w' => e = .returned (.tuple #[.int .u64 r1, .bool r2]) ∧ Drawn0 w w' := by
 have H : ((cloisterref26_digits.f k a0).bind fun t318 => (if t318 = true then (cloisterref26_Label.l0 k a0 0 0) else (some (0, false)))) = some (r1, r2) := h
 clear h
 replace H := Option.bind_eq_some_iff.mp H
 obtain ⟨t318, A20, H⟩ := H
 have A2 := am_ A20
 clear A20
 by_cases c3 : t318 = true
 · subst c3
   have H1 : (cloisterref26_Label.l0 k a0 0 0) = some (r1, r2) := by rw [if_pos rfl] at H; exact H
   clear H
   have H := H1
   clear H1
   have H' := am_ H
   clear H
   go_enter Tryz.func43, Tryz.ntmps43
   go_wp2_with (first | ((with_reducible refine gate_callee (f := 70) rfl ?_); refine goesL_ (some 9) rfl rfl Tryz.func70 (by kernel_rfl) rfl #[.string a0] rfl ha_ ?_; (with_reducible refine (cloisterref26_digits.calls k a0 _ _ A2.out).mono ?_); rintro e w' ⟨rfl, ⟨nd, rfl⟩⟩; refine ⟨_, rfl, ?_⟩))
   go_loopg [5, 6] k (fun kq v5 v6 w' => ∃ (x5_1 : Int) (x6_1 : Int), v5 = .int .u64 x5_1 ∧ v6 = .int .i64 x6_1 ∧ Aside0 (cloisterref26_Label.l0 kq a0 x5_1 x6_1 = some (r1, r2)) ∧ Aside0 (kq ≤ k) ∧ Drawn0 w w')
   case atStart => exact ⟨(0), (0), rf_, rf_, H', ⟨Nat.le_refl _⟩, by repeat (first | exact Drawn0.refl _ | apply Drawn0.step)⟩
   case round =>
    clear H'
    try clear p2
    try clear c3
    obtain ⟨x5_1, x6_1, rfl, rfl, HA, HK1, ⟨m1, rfl⟩⟩ := hrel
    cases gk with
    | zero => exact absurd HA.out (by simp [cloisterref26_Label.l0])
    | succ k1 =>
     have H := HA.out
     clear HA
     simp only [cloisterref26_Label.l0] at H
     by_cases c4 : x6_1 < (a0.size : Int)
     · rw [if_pos c4] at H
       have c4b0 := decide_eq_true c4
       clear c4
       by_cases c5 : 0 ≤ x6_1
       · rw [if_pos c5] at H
         have c5b0 := decide_eq_true c5
         clear c5
         by_cases c7 : x5_1 > ((18446744073709551615 - (((bt a0 x6_1) - 48) % 256)) / 10)
         · rw [if_pos c7] at H
           have c7b0 : decide (((18446744073709551615 - (((bt a0 x6_1) - 48) % 256)) / 10) < x5_1) = true := decide_eq_true c7
           clear c7
           simp only [Option.some.injEq, Prod.mk.injEq] at H
           obtain ⟨rfl, rfl⟩ := H
           have p6 : 0 ≤ (x6_1 : Int) := od_
           have q6 : x6_1 < (a0.size : Int) := od_
           have hx6 := bt_at a0 x6_1
           replace p6 := eq_true p6
           replace q6 := eq_true q6
           go_wp2
           go_ret2
           exact ⟨by first | rfl | (simp; done) | (simp [*]; done), by repeat (first | exact Drawn0.refl _ | apply Drawn0.step)⟩
         rw [if_neg c7] at H
         have c7b0 : decide (((18446744073709551615 - (((bt a0 x6_1) - 48) % 256)) / 10) < x5_1) = false := decide_eq_false c7
         clear c7
         have H' := am_ H
         clear H
         have p6 : 0 ≤ (x6_1 : Int) := od_
         have q6 : x6_1 < (a0.size : Int) := od_
         have hx6 := bt_at a0 x6_1
         replace p6 := eq_true p6
         replace q6 := eq_true q6
         go_wp2
         go_roundg k1
         case measure => have := HK1.out; omega
         case rel => exact ⟨(IntKind.u64.wrap ((IntKind.u64.wrap (10 * x5_1)) + (((bt a0 x6_1) - 48) % 256))), (wrap64 (x6_1 + 1)), rf_, rf_, H', ⟨by have := HK1.out; omega⟩, by repeat (first | exact Drawn0.refl _ | apply Drawn0.step)⟩
       rw [if_neg c5] at H
       exact absurd H (by simp)
     rw [if_neg c4] at H
     have c4b0 := decide_eq_false c4
     clear c4
     simp only [Option.some.injEq, Prod.mk.injEq] at H
     obtain ⟨rfl, rfl⟩ := H
     go_wp2
     go_ret2
     exact ⟨by first | rfl | (simp; done) | (simp [*]; done), by repeat (first | exact Drawn0.refl _ | apply Drawn0.step)⟩
 replace c3 := Bool.eq_false_iff.mpr c3
 subst c3
 have H1 : (some (0, false)) = some (r1, r2) := by rw [if_neg (show ¬ (false = true) by decide)] at H; exact H
 clear H
 have H := H1
 clear H1
 simp only [Option.some.injEq, Prod.mk.injEq] at H
 obtain ⟨rfl, rfl⟩ := H
 go_enter Tryz.func43, Tryz.ntmps43
 go_wp2_with (first | ((with_reducible refine gate_callee (f := 70) rfl ?_); refine goesL_ (some 9) rfl rfl Tryz.func70 (by kernel_rfl) rfl #[.string a0] rfl ha_ ?_; (with_reducible refine (cloisterref26_digits.calls k a0 _ _ A2.out).mono ?_); rintro e w' ⟨rfl, ⟨nd, rfl⟩⟩; refine ⟨_, rfl, ?_⟩))
 go_ret2
 exact ⟨by first | rfl | (simp; done) | (simp [*]; done), by repeat (first | exact Drawn0.refl _ | apply Drawn0.step)⟩
mutual
def cloisterref26_Number.j0 : Nat → ByteArray → Bool → Option (Int × Bool)
 | 0, _, _ => none
 | k + 1, x0, x4 => if x4 = true then (if 1 ≤ (x0.size : Int) then (cloisterref26_Number.j1 k (x0.extract 1 x0.size) x4) else (none)) else (cloisterref26_Number.j1 k x0 x4)
def cloisterref26_Number.j1 : Nat → ByteArray → Bool → Option (Int × Bool)
 | 0, _, _ => none
 | k + 1, x0, x4 => (cloisterref26_digits.f k x0).bind fun t319 => (if t319 = true then (if x4 = true then (cloisterref26_Number.j2 k x0 x4 (x0.toList == ([48] : List UInt8))) else (cloisterref26_Number.j2 k x0 x4 false)) else (cloisterref26_Number.j2 k x0 x4 true))
def cloisterref26_Number.j2 : Nat → ByteArray → Bool → Bool → Option (Int × Bool)
 | 0, _, _, _ => none
 | k + 1, x0, x4, x28 => if x28 = true then (some (0, false)) else (cloisterref26_Number.l0 k x0 x4 0 0)
def cloisterref26_Number.l0 : Nat → ByteArray → Bool → Int → Int → Option (Int × Bool)
 | 0, _, _, _, _ => none
 | k + 1, x0, x4, x6, x7 => if x7 < (x0.size : Int) then (if 0 ≤ x7 then (if x6 < (Int.tdiv ((-9223372036854775808) + (((bt x0 x7) - 48) % 256)) 10) then (some (0, false)) else (cloisterref26_Number.l0 k x0 x4 (wrap64 ((wrap64 (10 * x6)) - (((bt x0 x7) - 48) % 256))) (wrap64 (x7 + 1)))) else (none)) else (if x4 = true then (some (x6, true)) else (some (wrap64 (-x6), (x6 != (-9223372036854775808)))))
end
def cloisterref26_Number.f (k : Nat) (a0 : ByteArray) : Option (Int × Bool) := if a0.toList = ([] : List UInt8) then (cloisterref26_Number.j0 k a0 false) else (if 0 < (a0.size : Int) then (cloisterref26_Number.j0 k a0 ((bt a0 0) == 45)) else (none))
theorem cloisterref26_Number.calls (k : Nat) (a0 : ByteArray) (r1 : Int) (r2 : Bool) (w : World) (h : cloisterref26_Number.f k a0 = some (r1, r2)) :
 Calls Tryz.prog 45 #[.string a0] w fun e w' => e = .returned (.tuple #[.int .i64 r1, .bool r2]) ∧ Drawn0 w w' := by
 have H : (if a0.toList = ([] : List UInt8) then (cloisterref26_Number.j0 k a0 false) else (if 0 < (a0.size : Int) then (cloisterref26_Number.j0 k a0 ((bt a0 0) == 45)) else (none))) = some (r1, r2) := h
 clear h
 have HC2 := am_ H
 clear H
 go_enter Tryz.func45, Tryz.ntmps45
 go_upto_region 1 with (fail)
 go_cut [4] (fun v4 wc => ∃ (kq : Nat) (x4_1 : Bool), v4 = .bool x4_1 ∧ Aside0 (cloisterref26_Number.j0 kq a0 x4_1 = some (r1, r2)) ∧ Aside0 (kq ≤ k) ∧ Drawn0 w wc)
 case first =>
  have H := HC2.out
  clear HC2
  by_cases c3 : a0.toList = ([] : List UInt8)
  · rw [if_pos c3] at H
    have c3b0 := eb_ c3
    have c3b1 := nb_ c3
    clear c3
    (first | rw [c3b0] | rw [c3b1] | rw [c3b2] | (simp only [i64_w, i32_w]; rw [c3b0]) | (simp only [i64_w, i32_w]; rw [c3b1]) | skip)
    have H' := am_ H
    clear H
    go_wp2
    go_meet
    case rel => exact ⟨_, (false), rf_, H', ⟨by first | omega | exact Nat.le_refl _⟩, by repeat (first | exact Drawn0.refl _ | apply Drawn0.step)⟩
  rw [if_neg c3] at H
  have c3b0 := ec_ c3
  have c3b1 := nc_ c3
  (first | rw [c3b0] | rw [c3b1] | rw [c3b2] | (simp only [i64_w, i32_w]; rw [c3b0]) | (simp only [i64_w, i32_w]; rw [c3b1]) | skip)
  by_cases c4 : 0 < (a0.size : Int)
  · rw [if_pos c4] at H
    have c4b0 := decide_eq_true c4
    have c4b1 : decide (0 < a0.size) = true := decide_eq_true (by omega)
    clear c4
    have H' := am_ H
    clear H
    have p5 : 0 ≤ (0 : Int) := (by omega)
    have q5 : 0 < a0.size := (by have : (0 : Int) < (a0.size : Int) := od_; omega)
    have hx5 : ∀ h : 0 < a0.size, ((a0[0]'h).toNat : Int) = bt a0 0 := bt_at a0 0
    clear p5
    have qi5 : (0 < (a0.size : Int)) = True := eq_true (od_)
    replace q5 := eq_true q5
    go_wp2
    go_meet
    case rel => exact ⟨_, (((bt a0 0) == 45)), rf_, H', ⟨by first | omega | exact Nat.le_refl _⟩, by repeat (first | exact Drawn0.refl _ | apply Drawn0.step)⟩
  rw [if_neg c4] at H
  exact absurd H (by simp)
 case rest =>
  clear HC2
  try clear p2
  try clear c3
  try clear c3b0
  try clear c3b1
  try clear c3b2
  try clear c4
  try clear c4b0
  try clear c4b1
  try clear p5
  try clear q5
  try clear hx5
  try clear qi5
  try clear p5
  try clear q5
  obtain ⟨kq, x4_1, rfl, HA, HJ1, ⟨mc1, rfl⟩⟩ := hcut
  cases kq with
  | zero => exact absurd HA.out (by simp [cloisterref26_Number.j0])
  | succ kj1 =>
   have H := HA.out
   clear HA
   simp only [cloisterref26_Number.j0] at H
   have HC6 := am_ H
   clear H
   go_upto_if 16 with (fail)
   go_cut [0] (fun v0 wc => ∃ (kq : Nat) (x0_5 : ByteArray), v0 = .string x0_5 ∧ Aside0 (cloisterref26_Number.j1 kq x0_5 x4_1 = some (r1, r2)) ∧ Aside0 (kq ≤ kj1) ∧ Drawn0 w wc)
   case first =>
    have H := HC6.out
    clear HC6
    by_cases c7 : x4_1 = true
    · subst c7
      have H1 : (if 1 ≤ (a0.size : Int) then (cloisterref26_Number.j1 kj1 (a0.extract 1 a0.size) true) else (none)) = some (r1, r2) := by rw [if_pos rfl] at H; exact H
      clear H
      have H := H1
      clear H1
      by_cases c8 : 1 ≤ (a0.size : Int)
      · rw [if_pos c8] at H
        have c8b0 := eq_true c8
        have c8b1 := decide_eq_true c8
        clear c8
        have H' := am_ H
        clear H
        go_wp2
        go_meet
        case rel => exact ⟨_, (a0.extract 1 a0.size), rf_, H', ⟨by have := HJ1.out; first | omega | exact Nat.le_refl _⟩, by repeat (first | exact Drawn0.refl _ | apply Drawn0.step)⟩
      rw [if_neg c8] at H
      exact absurd H (by simp)
    replace c7 := Bool.eq_false_iff.mpr c7
    subst c7
    have H1 : (cloisterref26_Number.j1 kj1 a0 false) = some (r1, r2) := by rw [if_neg (show ¬ (false = true) by decide)] at H; exact H
    clear H
    have H := H1
    clear H1
    have H' := am_ H
    clear H
    go_wp2
    go_meet
    case rel => exact ⟨_, (a0), rf_, H', ⟨by have := HJ1.out; first | omega | exact Nat.le_refl _⟩, by repeat (first | exact Drawn0.refl _ | apply Drawn0.step)⟩
   case rest =>
    clear HC6
    try clear c1
    try clear p2
    try clear c3
    try clear c3b0
    try clear c3b1
    try clear c3b2
    try clear c4
    try clear c4b0
    try clear c4b1
    try clear p5
    try clear q5
    try clear hx5
    try clear qi5
    try clear c7
    try clear c8
    try clear c8b0
    try clear c8b1
    try clear p2
    try clear p5
    try clear q5
    obtain ⟨kq, x0_5, rfl, HA, HJ5, ⟨mc5, rfl⟩⟩ := hcut
    cases kq with
    | zero => exact absurd HA.out (by simp [cloisterref26_Number.j1])
    | succ kj5 =>
     have H := HA.out
     clear HA
     simp only [cloisterref26_Number.j1] at H
     have HC9 := am_ H
     clear H
     go_upto_region 4 with (fail)
     go_cut [28] (fun v28 wc => ∃ (kq : Nat) (x28_8 : Bool), v28 = .bool x28_8 ∧ Aside0 (cloisterref26_Number.j2 kq x0_5 x4_1 x28_8 = some (r1, r2)) ∧ Aside0 (kq ≤ kj5) ∧ Drawn0 w wc)
     case first =>
      have H := HC9.out
      clear HC9
      replace H := Option.bind_eq_some_iff.mp H
      obtain ⟨t319, A100, H⟩ := H
      have A10 := am_ A100
      clear A100
      by_cases c11 : t319 = true
      · subst c11
        have H1 : (if x4_1 = true then (cloisterref26_Number.j2 kj5 x0_5 x4_1 (x0_5.toList == ([48] : List UInt8))) else (cloisterref26_Number.j2 kj5 x0_5 x4_1 false)) = some (r1, r2) := by rw [if_pos rfl] at H; exact H
        clear H
        have H := H1
        clear H1
        by_cases c12 : x4_1 = true
        · subst c12
          have H1 : (cloisterref26_Number.j2 kj5 x0_5 true (x0_5.toList == ([48] : List UInt8))) = some (r1, r2) := by rw [if_pos rfl] at H; exact H
          clear H
          have H := H1
          clear H1
          have H' := am_ H
          clear H
          go_wp2_with (first | ((with_reducible refine gate_callee (f := 70) rfl ?_); refine goesL_ (some 20) rfl rfl Tryz.func70 (by kernel_rfl) rfl #[.string x0_5] rfl ha_ ?_; (with_reducible refine (cloisterref26_digits.calls kj5 x0_5 _ _ A10.out).mono ?_); rintro e w' ⟨rfl, ⟨nd, rfl⟩⟩; refine ⟨_, rfl, ?_⟩))
          go_meet
          case rel => exact ⟨_, ((x0_5.toList == ([48] : List UInt8))), rf_, H', ⟨by have := HJ1.out; have := HJ5.out; first | omega | exact Nat.le_refl _⟩, by repeat (first | exact Drawn0.refl _ | apply Drawn0.step)⟩
        replace c12 := Bool.eq_false_iff.mpr c12
        subst c12
        have H1 : (cloisterref26_Number.j2 kj5 x0_5 false false) = some (r1, r2) := by rw [if_neg (show ¬ (false = true) by decide)] at H; exact H
        clear H
        have H := H1
        clear H1
        have H' := am_ H
        clear H
        go_wp2_with (first | ((with_reducible refine gate_callee (f := 70) rfl ?_); refine goesL_ (some 20) rfl rfl Tryz.func70 (by kernel_rfl) rfl #[.string x0_5] rfl ha_ ?_; (with_reducible refine (cloisterref26_digits.calls kj5 x0_5 _ _ A10.out).mono ?_); rintro e w' ⟨rfl, ⟨nd, rfl⟩⟩; refine ⟨_, rfl, ?_⟩))
        go_meet
        case rel => exact ⟨_, (false), rf_, H', ⟨by have := HJ1.out; have := HJ5.out; first | omega | exact Nat.le_refl _⟩, by repeat (first | exact Drawn0.refl _ | apply Drawn0.step)⟩
      replace c11 := Bool.eq_false_iff.mpr c11
      subst c11
      have H1 : (cloisterref26_Number.j2 kj5 x0_5 x4_1 true) = some (r1, r2) := by rw [if_neg (show ¬ (false = true) by decide)] at H; exact H
      clear H
      have H := H1
      clear H1
      have H' := am_ H
      clear H
      go_wp2_with (first | ((with_reducible refine gate_callee (f := 70) rfl ?_); refine goesL_ (some 20) rfl rfl Tryz.func70 (by kernel_rfl) rfl #[.string x0_5] rfl ha_ ?_; (with_reducible refine (cloisterref26_digits.calls kj5 x0_5 _ _ A10.out).mono ?_); rintro e w' ⟨rfl, ⟨nd, rfl⟩⟩; refine ⟨_, rfl, ?_⟩))
      go_meet
      case rel => exact ⟨_, (true), rf_, H', ⟨by have := HJ1.out; have := HJ5.out; first | omega | exact Nat.le_refl _⟩, by repeat (first | exact Drawn0.refl _ | apply Drawn0.step)⟩
     case rest =>
      clear HC9
      try clear c1
      try clear p2
      try clear c3
      try clear c3b0
      try clear c3b1
      try clear c3b2
      try clear c4
      try clear c4b0
      try clear c4b1
      try clear c5
      try clear p5
      try clear q5
      try clear hx5
      try clear qi5
      try clear c7
      try clear c8
      try clear c8b0
      try clear c8b1
      try clear c11
      try clear c12
      try clear p2
      try clear p5
      try clear q5
      obtain ⟨kq, x28_8, rfl, HA, HJ8, ⟨mc8, rfl⟩⟩ := hcut
      cases kq with
      | zero => exact absurd HA.out (by simp [cloisterref26_Number.j2])
      | succ kj8 =>
       have H := HA.out
       clear HA
       simp only [cloisterref26_Number.j2] at H
       by_cases c13 : x28_8 = true
       · subst c13
         have H1 : (some (0, false)) = some (r1, r2) := by rw [if_pos rfl] at H; exact H
         clear H
         have H := H1
         clear H1
         simp only [Option.some.injEq, Prod.mk.injEq] at H
         obtain ⟨rfl, rfl⟩ := H
         go_wp2
         go_ret2
         exact ⟨by first | rfl | (simp; done) | (simp [*]; done), by repeat (first | exact Drawn0.refl _ | apply Drawn0.step)⟩
       replace c13 := Bool.eq_false_iff.mpr c13
       subst c13
       have H1 : (cloisterref26_Number.l0 kj8 x0_5 x4_1 0 0) = some (r1, r2) := by rw [if_neg (show ¬ (false = true) by decide)] at H; exact H
       clear H
       have H := H1
       clear H1
       have H' := am_ H
       clear H
       go_wp2
       go_loopg [6, 7] kj8 (fun kq v6 v7 w' => ∃ (x6_4 : Int) (x7_4 : Int), v6 = .int .i64 x6_4 ∧ v7 = .int .i64 x7_4 ∧ Aside0 (cloisterref26_Number.l0 kq x0_5 x4_1 x6_4 x7_4 = some (r1, r2)) ∧ Aside0 (kq ≤ kj8) ∧ Drawn0 w w')
       case atStart => exact ⟨(0), (0), rf_, rf_, H', ⟨Nat.le_refl _⟩, by repeat (first | exact Drawn0.refl _ | apply Drawn0.step)⟩
       case round =>
        clear H'
        try clear c1
        try clear p2
        try clear c3
        try clear c3b0
        try clear c3b1
        try clear c3b2
        try clear c4
        try clear c4b0
        try clear c4b1
        try clear c5
        try clear p5
        try clear q5
        try clear hx5
        try clear qi5
        try clear c7
        try clear c8
        try clear c8b0
        try clear c8b1
        try clear c11
        try clear c12
        try clear c13
        try clear p2
        try clear p5
        try clear q5
        obtain ⟨x6_4, x7_4, rfl, rfl, HA, HK4, ⟨m4, rfl⟩⟩ := hrel
        cases gk with
        | zero => exact absurd HA.out (by simp [cloisterref26_Number.l0])
        | succ k4 =>
         have H := HA.out
         clear HA
         simp only [cloisterref26_Number.l0] at H
         by_cases c14 : x7_4 < (x0_5.size : Int)
         · rw [if_pos c14] at H
           have c14b0 := decide_eq_true c14
           clear c14
           by_cases c15 : 0 ≤ x7_4
           · rw [if_pos c15] at H
             have c15b0 := decide_eq_true c15
             clear c15
             by_cases c17 : x6_4 < (Int.tdiv ((-9223372036854775808) + (((bt x0_5 x7_4) - 48) % 256)) 10)
             · rw [if_pos c17] at H
               have c17b0 := decide_eq_true c17
               clear c17
               simp only [Option.some.injEq, Prod.mk.injEq] at H
               obtain ⟨rfl, rfl⟩ := H
               have p16 : 0 ≤ (x7_4 : Int) := od_
               have q16 : x7_4 < (x0_5.size : Int) := od_
               have hx16 := bt_at x0_5 x7_4
               replace p16 := eq_true p16
               replace q16 := eq_true q16
               go_wp2
               go_ret2
               exact ⟨by first | rfl | (simp; done) | (simp [*]; done), by repeat (first | exact Drawn0.refl _ | apply Drawn0.step)⟩
             rw [if_neg c17] at H
             have c17b0 := decide_eq_false c17
             clear c17
             have H' := am_ H
             clear H
             have p16 : 0 ≤ (x7_4 : Int) := od_
             have q16 : x7_4 < (x0_5.size : Int) := od_
             have hx16 := bt_at x0_5 x7_4
             replace p16 := eq_true p16
             replace q16 := eq_true q16
             go_wp2
             go_roundg k4
             case measure => have := HJ1.out; have := HJ5.out; have := HJ8.out; have := HK4.out; omega
             case rel => exact ⟨(wrap64 ((wrap64 (10 * x6_4)) - (((bt x0_5 x7_4) - 48) % 256))), (wrap64 (x7_4 + 1)), rf_, rf_, H', ⟨by have := HJ1.out; have := HJ5.out; have := HJ8.out; have := HK4.out; omega⟩, by repeat (first | exact Drawn0.refl _ | apply Drawn0.step)⟩
           rw [if_neg c15] at H
           exact absurd H (by simp)
         rw [if_neg c14] at H
         have c14b0 := decide_eq_false c14
         clear c14
         by_cases c18 : x4_1 = true
         · subst c18
           have H1 : (some (x6_4, true)) = some (r1, r2) := by rw [if_pos rfl] at H; exact H
           clear H
           have H := H1
           clear H1
           simp only [Option.some.injEq, Prod.mk.injEq] at H
           obtain ⟨rfl, rfl⟩ := H
           go_wp2
           go_ret2
           exact ⟨by first | rfl | (simp; done) | (simp [*]; done), by repeat (first | exact Drawn0.refl _ | apply Drawn0.step)⟩
         replace c18 := Bool.eq_false_iff.mpr c18
         subst c18
         have H1 : (some (wrap64 (-x6_4), (x6_4 != (-9223372036854775808)))) = some (r1, r2) := by rw [if_neg (show ¬ (false = true) by decide)] at H; exact H
         clear H
         have H := H1
         clear H1
         simp only [Option.some.injEq, Prod.mk.injEq] at H
         obtain ⟨rfl, rfl⟩ := H
         go_wp2
         go_ret2
         exact ⟨by first | rfl | (simp; done) | (simp [*]; done), by repeat (first | exact Drawn0.refl _ | apply Drawn0.step)⟩
def cloisterref26_numbers.l0 : Nat → List Int → List ByteArray → Int → Int → Option (List Int × Bool)
 | 0, _, _, _, _ => none
 | k + 1, x4, x9, x10, x11 => if x11 < x10 then (if 0 ≤ x11 then (if x11 < (x9.length : Int) then ((cloisterref26_Number.f k (rdOf ByteArray.empty x9 x11)).bind fun bt321 => (if bt321.2 = true then (if x4.length < 17592186044416 then (cloisterref26_numbers.l0 k (x4 ++ [bt321.1]) x9 x10 (wrap64 (x11 + 1))) else (none)) else (some (([] : List Int), false)))) else (none)) else (none)) else (some (x4, true))
def cloisterref26_numbers.f (k : Nat) (l0 : List ByteArray) : Option (List Int × Bool) := cloisterref26_numbers.l0 k ([] : List Int) l0 (l0.length : Int) 0
theorem cloisterref26_numbers.calls (k : Nat) (A0 : Option Addr) (c0 : Nat) (l0 : List ByteArray) (r1 : List Int) (r2 : Bool) (w : World) (hr0 : Kd.C Kd.string w A0 l0.length l0) (hc0 : l0.length ≤ c0) (h : cloisterref26_numbers.f k l0 = some (r1, r2)) :
 Calls Tryz.prog 44 #[.slice A0 l0.length c0] w fun e w' => ∃ v0_ : Value, e = .returned (.tuple #[v0_, .bool r2]) ∧ Kd.R (Kd.int .i64) 3 w' w.heap.size (fun _ => True) v0_ r1 ∧ Below w.heap.size w w' := by
 have HR0 := am_ hr0
 have HC0 := am_ hc0
 clear hr0 hc0
 have HB := am_ (Below.refl w.heap.size w)
 have H : (cloisterref26_numbers.l0 k ([] : List Int) l0 (l0.length : Int) 0) = some (r1, r2) := h
 clear h
 have H' := am_ H
 clear H
 go_enter Tryz.func44, Tryz.ntmps44
 go_wp2
 go_loopg [4, 11] k (fun kq v4 v11 w' => ∃ (x4_1 : List Int) (x11_1 : Int), v11 = .int .i64 x11_1 ∧ Aside0 (cloisterref26_numbers.l0 kq x4_1 l0 (l0.length : Int) x11_1 = some (r1, r2)) ∧ Aside0 (kq ≤ k) ∧ Aside0 (Kd.R (Kd.int .i64) 3 w' w.heap.size (fun _ => True) v4 x4_1) ∧ Aside0 (Below w.heap.size w w'))
 case atStart => exact ⟨(([] : List Int)), (0), rf_, H', ⟨Nat.le_refl _⟩, ⟨by first | exact Kd.R_nil _ _ _ _ _ | exact Kd.N_nil _ _ _ _ _ | exact Kd.V_nil _ _ _ _ _ | exact Kd.Q_nil _ _ _ _ _ | exact Kd.S_nil _ _ _ _ _⟩, ⟨cb_ HB⟩⟩
 case round =>
  clear H'
  obtain ⟨x4_1, x11_1, rfl, HA, HK1, HO_4, HB⟩ := hrel
  cases gk with
  | zero => exact absurd HA.out (by simp [cloisterref26_numbers.l0])
  | succ k1 =>
   have H := HA.out
   clear HA
   simp only [cloisterref26_numbers.l0] at H
   by_cases c2 : x11_1 < (l0.length : Int)
   · rw [if_pos c2] at H
     have c2b0 := decide_eq_true c2
     clear c2
     by_cases c3 : 0 ≤ x11_1
     · rw [if_pos c3] at H
       have c3b0 := decide_eq_true c3
       clear c3
       by_cases c4 : x11_1 < (l0.length : Int)
       · rw [if_pos c4] at H
         have c4b0 := decide_eq_true c4
         clear c4
         replace H := Option.bind_eq_some_iff.mp H
         obtain ⟨⟨t321, t322⟩, A50, H⟩ := H
         replace H : (if t322 = true then (if x4_1.length < 17592186044416 then (cloisterref26_numbers.l0 k1 (x4_1 ++ [t321]) l0 (l0.length : Int) (wrap64 (x11_1 + 1))) else (none)) else (some (([] : List Int), false))) = some (r1, r2) := H
         have A5 := am_ A50
         clear A50
         by_cases c6 : t322 = true
         · subst c6
           have H1 : (if x4_1.length < 17592186044416 then (cloisterref26_numbers.l0 k1 (x4_1 ++ [t321]) l0 (l0.length : Int) (wrap64 (x11_1 + 1))) else (none)) = some (r1, r2) := by rw [if_pos rfl] at H; exact H
           clear H
           have H := H1
           clear H1
           by_cases c7 : x4_1.length < 17592186044416
           · rw [if_pos c7] at H
             have LMc7 := am_ c7
             clear c7
             obtain ⟨y323, hy323⟩ : ∃ y_ : List Int, y_ = (x4_1 ++ [t321]) := ⟨_, rfl⟩
             replace H : (cloisterref26_numbers.l0 k1 y323 l0 (l0.length : Int) (wrap64 (x11_1 + 1))) = some (r1, r2) := by first | (rw [hy323]; with_reducible exact H) | (have H2_ := (Option.bind_some _ _).symm.trans H; rw [hy323]; with_reducible exact H2_) | (have H2_ := (Option.bind_some _ _).symm.trans H; with_reducible exact H2_) | with_reducible exact H | (rw [hy323]; exact H) | exact H
             have Ny323 := am_ hy323
             clear hy323
             have H' := am_ H
             clear H
             have p320 : 0 ≤ (x11_1 : Int) := od_
             have q320 : x11_1 < (l0.length : Int) := od_
             obtain ⟨ad320, e320, hx320_0⟩ := Kd.at_string HR0.out x11_1 p320 q320
             cases e320
             replace hx320_0 := (HB.out.cell (World.block_lt_of_cell? w _ hx320_0)).trans hx320_0
             replace p320 := eq_true p320
             replace q320 := eq_true q320
             go_wp2_with (first | ((with_reducible refine gate_callee (f := 45) rfl ?_); refine goesL_ (some 17) rfl rfl Tryz.func45 (by kernel_rfl) rfl #[.string (rdOf ByteArray.empty l0 x11_1)] rfl ha_ ?_; (with_reducible refine (cloisterref26_Number.calls k1 (rdOf ByteArray.empty l0 x11_1) _ _ _ A5.out).mono ?_); rintro e w' ⟨rfl, ⟨nd, rfl⟩⟩; refine ⟨_, rfl, ?_⟩) | ((with_reducible refine gate_builtin (b := .append) (xs := #[.tmp 22, .tmp 24]) rfl ?_); at_builtin; refine Kd.R_append (Kd.int .i64) (w0 := w) w.heap.size rfl (.tmp 22) (.tmp 24) 24 3 (.int .i64 0) 8 rfl Tryz.underlying24 info3 rfl (by decide) (by omega) u4 x4_1 t321 [.int .i64 t321] (fun _ => True) (fun _ => False) rfl rfl ?aP (fun _ hk => hk.elim) ?aF ?aO ?aB ?aS ?aL ?_; (case aP => exact rfl); (case aB => exact (cb_ HB)); (case aF => exact (fun _ _ => trivial)); (case aO => exact (cq_ HO_4)); (case aS => exact (below_size (cb_ HB))); (case aL => have := LMc7.out; omega); intro v324 w8 ho hb hg hat; rw [← Ny323.out] at ho; replace HB := am_ (hb); have HO325 := am_ (ho); clear HO_4; clear ho hb hg hat))
             go_roundg k1
             case measure => have := HK1.out; omega
             case rel => exact ⟨(y323), (wrap64 (x11_1 + 1)), rf_, H', ⟨by have := HK1.out; omega⟩, cr_ HO325, ⟨cb_ HB⟩⟩
           rw [if_neg c7] at H
           exact absurd H (by simp)
         replace c6 := Bool.eq_false_iff.mpr c6
         subst c6
         have H1 : (some (([] : List Int), false)) = some (r1, r2) := by rw [if_neg (show ¬ (false = true) by decide)] at H; exact H
         clear H
         have H := H1
         clear H1
         simp only [Option.some.injEq, Prod.mk.injEq] at H
         obtain ⟨rfl, rfl⟩ := H
         have p320 : 0 ≤ (x11_1 : Int) := od_
         have q320 : x11_1 < (l0.length : Int) := od_
         obtain ⟨ad320, e320, hx320_0⟩ := Kd.at_string HR0.out x11_1 p320 q320
         cases e320
         replace hx320_0 := (HB.out.cell (World.block_lt_of_cell? w _ hx320_0)).trans hx320_0
         replace p320 := eq_true p320
         replace q320 := eq_true q320
         go_wp2_with (first | ((with_reducible refine gate_callee (f := 45) rfl ?_); refine goesL_ (some 17) rfl rfl Tryz.func45 (by kernel_rfl) rfl #[.string (rdOf ByteArray.empty l0 x11_1)] rfl ha_ ?_; (with_reducible refine (cloisterref26_Number.calls k1 (rdOf ByteArray.empty l0 x11_1) _ _ _ A5.out).mono ?_); rintro e w' ⟨rfl, ⟨nd, rfl⟩⟩; refine ⟨_, rfl, ?_⟩))
         go_ret2
         exact ⟨_, re_, by first | exact Kd.R_nil _ _ _ _ _ | exact Kd.N_nil _ _ _ _ _ | exact Kd.V_nil _ _ _ _ _ | exact Kd.Q_nil _ _ _ _ _ | exact Kd.S_nil _ _ _ _ _, cb_ HB⟩
       rw [if_neg c4] at H
       exact absurd H (by simp)
     rw [if_neg c3] at H
     exact absurd H (by simp)
   rw [if_neg c2] at H
   have c2b0 := decide_eq_false c2
   clear c2
   simp only [Option.some.injEq, Prod.mk.injEq] at H
   obtain ⟨rfl, rfl⟩ := H
   go_wp2
   go_ret2
   exact ⟨_, re_, by (with_reducible repeat (first | apply r1_ | apply r2_ | apply r3_)); exact HO_4.out, cb_ HB⟩
def cloisterref26_map4.f (a0 : ByteArray) : Option (Int) := if a0.toList = ([116, 105, 99, 107] : List UInt8) then (some 2) else (if a0.toList = ([118, 97, 99, 117, 117, 109] : List UInt8) then (some 3) else (if a0.toList = ([99, 104, 101, 99, 107, 112, 111, 105, 110, 116] : List UInt8) then (some 4) else (some 5)))
theorem cloisterref26_map4.calls (a0 : ByteArray) (r : Int) (w : World) (h : cloisterref26_map4.f a0 = some r) :
 Calls Tryz.prog 47 #[.string a0] w fun e w' => e = .returned (.int .i64 r) ∧ Drawn0 w w' := by
 have H : (if a0.toList = ([116, 105, 99, 107] : List UInt8) then (some 2) else (if a0.toList = ([118, 97, 99, 117, 117, 109] : List UInt8) then (some 3) else (if a0.toList = ([99, 104, 101, 99, 107, 112, 111, 105, 110, 116] : List UInt8) then (some 4) else (some 5)))) = some r := h
 clear h
 by_cases c2 : a0.toList = ([116, 105, 99, 107] : List UInt8)
 rw [if_pos c2] at H
 have c2b0 := eb_ c2
 have c2b1 := nb_ c2
 clear c2
 rotate_left
 rw [if_neg c2] at H
 have c2b0 := ec_ c2
 have c2b1 := nc_ c2
 by_cases c3 : a0.toList = ([118, 97, 99, 117, 117, 109] : List UInt8)
 rw [if_pos c3] at H
 have c3b0 := eb_ c3
 have c3b1 := nb_ c3
 clear c3
 rotate_left
 rw [if_neg c3] at H
 have c3b0 := ec_ c3
 have c3b1 := nc_ c3
 by_cases c4 : a0.toList = ([99, 104, 101, 99, 107, 112, 111, 105, 110, 116] : List UInt8)
 rw [if_pos c4] at H
 have c4b0 := eb_ c4
 have c4b1 := nb_ c4
 clear c4
 rotate_left
 rw [if_neg c4] at H
 have c4b0 := ec_ c4
 have c4b1 := nc_ c4
 rotate_left
 all_goals
  obtain rfl := Option.some.inj H
  go_enter Tryz.func47, Tryz.ntmps47
  go_wp2
  go_ret
  exact ⟨by first | rfl | (simp; done) | (simp [*]; done), by repeat (first | exact Drawn0.refl _ | apply Drawn0.step)⟩
def cloisterref26_Fate.l0 : Nat → ByteArray → List ByteArray → Int → Int → Option (Int × Int × Int × Bool)
 | 0, _, _, _, _ => none
 | k + 1, x0, x4, x5, x6 => if x6 ≤ (x0.size : Int) then (if x6 = (x0.size : Int) then (if 0 ≤ x5 then (if x5 ≤ x6 then (if x4.length < 8796093022208 then (cloisterref26_Fate.l0 k x0 (x4 ++ [x0.extract (x5 : Int).toNat (x6 : Int).toNat]) (wrap64 (x6 + 1)) (wrap64 (x6 + 1))) else (none)) else (none)) else (none)) else (if 0 ≤ x6 then (if x6 < (x0.size : Int) then (if (bt x0 x6) = 44 then (if 0 ≤ x5 then (if x5 ≤ x6 then (if x4.length < 8796093022208 then (cloisterref26_Fate.l0 k x0 (x4 ++ [x0.extract (x5 : Int).toNat (x6 : Int).toNat]) (wrap64 (x6 + 1)) (wrap64 (x6 + 1))) else (none)) else (none)) else (none)) else (cloisterref26_Fate.l0 k x0 x4 x5 (wrap64 (x6 + 1)))) else (none)) else (none))) else (if (x4.length : Int) = 3 then (if 0 < (x4.length : Int) then ((cloisterref26_Number.f k (rdOf ByteArray.empty x4 0)).bind fun bt334 => (if 1 < (x4.length : Int) then ((cloisterref26_Number.f k (rdOf ByteArray.empty x4 1)).bind fun bt337 => (if 2 < (x4.length : Int) then ((cloisterref26_Number.f k (rdOf ByteArray.empty x4 2)).bind fun bt340 => (if bt334.2 = true then (if bt337.2 = true then (if bt340.2 = true then (if bt340.1 < 0 then (some (0, 0, 0, false)) else (if bt340.1 > 255 then (some (0, 0, 0, false)) else (some (bt334.1, bt337.1, (bt340.1) % 256, true)))) else (some (0, 0, 0, false))) else (some (0, 0, 0, false))) else (some (0, 0, 0, false)))) else (none))) else (none))) else (none)) else (some (0, 0, 0, false)))
def cloisterref26_Fate.f (k : Nat) (a0 : ByteArray) : Option (Int × Int × Int × Bool) := cloisterref26_Fate.l0 k a0 ([] : List ByteArray) 0 0
theorem cloisterref26_Fate.calls (k : Nat) (a0 : ByteArray) (r1 : Int) (r2 : Int) (r3 : Int) (r4 : Bool) (w : World) (h : cloisterref26_Fate.f k a0 = some (r1, r2, r3, r4)) :
 Calls Tryz.prog 72 #[.string a0] w fun e w' => e = .returned (.tuple #[.agg #[.int .i64 r1, .int .i64 r2, .int .u8 r3], .bool r4]) ∧ Below w.heap.size w w' := by
 have hu66 := Tryz.underlying66
 have HB := am_ (Below.refl w.heap.size w)
 have H : (cloisterref26_Fate.l0 k a0 ([] : List ByteArray) 0 0) = some (r1, r2, r3, r4) := h
 clear h
 have H' := am_ H
 clear H
 go_enter Tryz.func72, Tryz.ntmps72
 go_wp2_with (first | ((with_reducible refine gate_dst (N := 2) rfl ?_); refine box_event ?hg (N := 2) ?hd (cs := #[.int .i64 0, .int .i64 0, .int .u8 0]) (t := 66) ?hr ?_; (case hd => rfl); (case hg => rfl); (case hr => first | (go_simp; done) | (go_simp; rfl)); intro gb326 hg w2 hbox hb; have BK326 := am_ (hbox); have GW326 := am_ ((by rw [hg]; exact (below_size (cb_ HB)) : w.heap.size ≤ gb326)); have GE326 := am_ ((by rw [hg]; exact (below_size (cb_ HB)) : w.heap.size ≤ gb326)); replace HB := am_ (below_step (cb_ HB) hb); clear hb hbox hg))
 go_loopg [4, 5, 6] k (fun kq v4 v5 v6 w' => ∃ (x4_1 : List ByteArray) (x5_1 : Int) (x6_1 : Int), v5 = .int .i64 x5_1 ∧ v6 = .int .i64 x6_1 ∧ Aside0 (cloisterref26_Fate.l0 kq a0 x4_1 x5_1 x6_1 = some (r1, r2, r3, r4)) ∧ Aside0 (kq ≤ k) ∧ Aside0 (Kd.R Kd.string 9 w' w.heap.size (fun _ => True) v4 x4_1) ∧ Aside0 (w'.heap[gb326]? = some (.cells #[.int .i64 0, .int .i64 0, .int .u8 0] 66 (0, 0))) ∧ Aside0 (Below w.heap.size w w'))
 case atStart => exact ⟨(([] : List ByteArray)), (0), (0), rf_, rf_, H', ⟨Nat.le_refl _⟩, ⟨by first | exact Kd.R_nil _ _ _ _ _ | exact Kd.N_nil _ _ _ _ _ | exact Kd.V_nil _ _ _ _ _ | exact Kd.Q_nil _ _ _ _ _ | exact Kd.S_nil _ _ _ _ _⟩, ⟨cd_ BK326⟩, ⟨cb_ HB⟩⟩
 case round =>
  clear H'
  try clear p2
  obtain ⟨x4_1, x5_1, x6_1, rfl, rfl, HA, HK1, HO_4, BK326, HB⟩ := hrel
  cases gk with
  | zero => exact absurd HA.out (by simp [cloisterref26_Fate.l0])
  | succ k1 =>
   have H := HA.out
   clear HA
   simp only [cloisterref26_Fate.l0] at H
   by_cases c3 : x6_1 ≤ (a0.size : Int)
   · rw [if_pos c3] at H
     have c3b0 := decide_eq_true c3
     clear c3
     by_cases c4 : x6_1 = (a0.size : Int)
     · rw [if_pos c4] at H
       have c4b0 := eb_ c4
       have c4b1 := nb_ c4
       clear c4
       by_cases c5 : 0 ≤ x5_1
       · rw [if_pos c5] at H
         have c5b0 := eq_true c5
         have c5b1 := decide_eq_true c5
         clear c5
         by_cases c6 : x5_1 ≤ x6_1
         · rw [if_pos c6] at H
           have c6b0 := eq_true c6
           have c6b1 := decide_eq_true c6
           clear c6
           have c7b0 := eq_true (od_ : x6_1 ≤ (a0.size : Int))
           by_cases c8 : x4_1.length < 8796093022208
           · rw [if_pos c8] at H
             have LMc8 := am_ c8
             clear c8
             obtain ⟨y327, hy327⟩ : ∃ y_ : List ByteArray, y_ = (x4_1 ++ [a0.extract (x5_1 : Int).toNat (x6_1 : Int).toNat]) := ⟨_, rfl⟩
             replace H : (cloisterref26_Fate.l0 k1 a0 y327 (wrap64 (x6_1 + 1)) (wrap64 (x6_1 + 1))) = some (r1, r2, r3, r4) := by first | (rw [hy327]; with_reducible exact H) | (have H2_ := (Option.bind_some _ _).symm.trans H; rw [hy327]; with_reducible exact H2_) | (have H2_ := (Option.bind_some _ _).symm.trans H; with_reducible exact H2_) | with_reducible exact H | (rw [hy327]; exact H) | exact H
             have Ny327 := am_ hy327
             clear hy327
             have H' := am_ H
             clear H
             go_wp2_with (first | ((with_reducible refine gate_builtin (b := .append) (xs := #[.tmp 29, .tmp 34]) rfl ?_); at_builtin; refine Kd.R_append Kd.string (w0 := w) w.heap.size rfl (.tmp 29) (.tmp 34) 71 9 (.string ⟨#[]⟩) 16 rfl Tryz.underlying71 info9 rfl (by decide) (by omega) u4 x4_1 (a0.extract (x5_1 : Int).toNat (x6_1 : Int).toNat) [.string (a0.extract (x5_1 : Int).toNat (x6_1 : Int).toNat)] (fun _ => True) (fun _ => False) rfl rfl ?aP (fun _ hk => hk.elim) ?aF ?aO ?aB ?aS ?aL ?_; (case aP => exact rfl); (case aB => exact (cb_ HB)); (case aF => exact (fun _ _ => trivial)); (case aO => exact (cq_ HO_4)); (case aS => exact (below_size (cb_ HB))); (case aL => have := LMc8.out; omega); intro v328 w9 ho hb hg hat; rw [← Ny327.out] at ho; replace BK326 := am_ (blk_grown (g := gb326) (o := .cells #[.int .i64 0, .int .i64 0, .int .u8 0] 66 (0, 0)) (cd_ BK326) hg (Kd.R_ne HO_4.out BK326.out (by decide))); replace HB := am_ (hb); have HO329 := am_ (ho); clear HO_4; clear ho hb hg hat))
             go_roundg k1
             case measure => have := HK1.out; omega
             case rel => exact ⟨(y327), (wrap64 (x6_1 + 1)), (wrap64 (x6_1 + 1)), rf_, rf_, H', ⟨by have := HK1.out; omega⟩, cr_ HO329, ⟨cd_ BK326⟩, ⟨cb_ HB⟩⟩
           rw [if_neg c8] at H
           exact absurd H (by simp)
         rw [if_neg c6] at H
         exact absurd H (by simp)
       rw [if_neg c5] at H
       exact absurd H (by simp)
     rw [if_neg c4] at H
     have c4b0 := ec_ c4
     have c4b1 := nc_ c4
     by_cases c10 : 0 ≤ x6_1
     · rw [if_pos c10] at H
       have c10b0 := decide_eq_true c10
       clear c10
       by_cases c11 : x6_1 < (a0.size : Int)
       · rw [if_pos c11] at H
         have c11b0 := decide_eq_true c11
         clear c11
         by_cases c13 : (bt a0 x6_1) = 44
         · rw [if_pos c13] at H
           have c13b0 := eb_ c13
           have c13b1 := nb_ c13
           clear c13
           by_cases c14 : 0 ≤ x5_1
           · rw [if_pos c14] at H
             have c14b0 := eq_true c14
             have c14b1 := decide_eq_true c14
             clear c14
             by_cases c15 : x5_1 ≤ x6_1
             · rw [if_pos c15] at H
               have c15b0 := eq_true c15
               have c15b1 := decide_eq_true c15
               clear c15
               have c16b0 := eq_true (od_ : x6_1 ≤ (a0.size : Int))
               by_cases c17 : x4_1.length < 8796093022208
               · rw [if_pos c17] at H
                 have LMc17 := am_ c17
                 clear c17
                 obtain ⟨y330, hy330⟩ : ∃ y_ : List ByteArray, y_ = (x4_1 ++ [a0.extract (x5_1 : Int).toNat (x6_1 : Int).toNat]) := ⟨_, rfl⟩
                 replace H : (cloisterref26_Fate.l0 k1 a0 y330 (wrap64 (x6_1 + 1)) (wrap64 (x6_1 + 1))) = some (r1, r2, r3, r4) := by first | (rw [hy330]; with_reducible exact H) | (have H2_ := (Option.bind_some _ _).symm.trans H; rw [hy330]; with_reducible exact H2_) | (have H2_ := (Option.bind_some _ _).symm.trans H; with_reducible exact H2_) | with_reducible exact H | (rw [hy330]; exact H) | exact H
                 have Ny330 := am_ hy330
                 clear hy330
                 have H' := am_ H
                 clear H
                 have p12 : 0 ≤ (x6_1 : Int) := od_
                 have q12 : x6_1 < (a0.size : Int) := od_
                 have hx12 := bt_at a0 x6_1
                 replace p12 := eq_true p12
                 replace q12 := eq_true q12
                 go_wp2_with (first | ((with_reducible refine gate_builtin (b := .append) (xs := #[.tmp 29, .tmp 34]) rfl ?_); at_builtin; refine Kd.R_append Kd.string (w0 := w) w.heap.size rfl (.tmp 29) (.tmp 34) 71 9 (.string ⟨#[]⟩) 16 rfl Tryz.underlying71 info9 rfl (by decide) (by omega) u4 x4_1 (a0.extract (x5_1 : Int).toNat (x6_1 : Int).toNat) [.string (a0.extract (x5_1 : Int).toNat (x6_1 : Int).toNat)] (fun _ => True) (fun _ => False) rfl rfl ?aP (fun _ hk => hk.elim) ?aF ?aO ?aB ?aS ?aL ?_; (case aP => exact rfl); (case aB => exact (cb_ HB)); (case aF => exact (fun _ _ => trivial)); (case aO => exact (cq_ HO_4)); (case aS => exact (below_size (cb_ HB))); (case aL => have := LMc17.out; omega); intro v331 w18 ho hb hg hat; rw [← Ny330.out] at ho; replace BK326 := am_ (blk_grown (g := gb326) (o := .cells #[.int .i64 0, .int .i64 0, .int .u8 0] 66 (0, 0)) (cd_ BK326) hg (Kd.R_ne HO_4.out BK326.out (by decide))); replace HB := am_ (hb); have HO332 := am_ (ho); clear HO_4; clear ho hb hg hat))
                 go_roundg k1
                 case measure => have := HK1.out; omega
                 case rel => exact ⟨(y330), (wrap64 (x6_1 + 1)), (wrap64 (x6_1 + 1)), rf_, rf_, H', ⟨by have := HK1.out; omega⟩, cr_ HO332, ⟨cd_ BK326⟩, ⟨cb_ HB⟩⟩
               rw [if_neg c17] at H
               exact absurd H (by simp)
             rw [if_neg c15] at H
             exact absurd H (by simp)
           rw [if_neg c14] at H
           exact absurd H (by simp)
         rw [if_neg c13] at H
         have c13b0 := ec_ c13
         have c13b1 := nc_ c13
         have H' := am_ H
         clear H
         have p12 : 0 ≤ (x6_1 : Int) := od_
         have q12 : x6_1 < (a0.size : Int) := od_
         have hx12 := bt_at a0 x6_1
         replace p12 := eq_true p12
         replace q12 := eq_true q12
         go_wp2
         go_roundg k1
         case measure => have := HK1.out; omega
         case rel => exact ⟨(x4_1), (x5_1), (wrap64 (x6_1 + 1)), rf_, rf_, H', ⟨by have := HK1.out; omega⟩, cr_ HO_4, ⟨cd_ BK326⟩, ⟨cb_ HB⟩⟩
       rw [if_neg c11] at H
       exact absurd H (by simp)
     rw [if_neg c10] at H
     exact absurd H (by simp)
   rw [if_neg c3] at H
   have c3b0 := decide_eq_false c3
   clear c3
   by_cases c19 : (x4_1.length : Int) = 3
   · rw [if_pos c19] at H
     have c19b0 := eb_ c19
     have c19b1 := nb_ c19
     clear c19
     by_cases c20 : 0 < (x4_1.length : Int)
     · rw [if_pos c20] at H
       have c20b0 := decide_eq_true c20
       have c20b1 : decide (0 < x4_1.length) = true := decide_eq_true (by omega)
       clear c20
       replace H := Option.bind_eq_some_iff.mp H
       obtain ⟨⟨t334, t335⟩, A210, H⟩ := H
       replace H : (if 1 < (x4_1.length : Int) then ((cloisterref26_Number.f k1 (rdOf ByteArray.empty x4_1 1)).bind fun bt337 => (if 2 < (x4_1.length : Int) then ((cloisterref26_Number.f k1 (rdOf ByteArray.empty x4_1 2)).bind fun bt340 => (if t335 = true then (if bt337.2 = true then (if bt340.2 = true then (if bt340.1 < 0 then (some (0, 0, 0, false)) else (if bt340.1 > 255 then (some (0, 0, 0, false)) else (some (t334, bt337.1, (bt340.1) % 256, true)))) else (some (0, 0, 0, false))) else (some (0, 0, 0, false))) else (some (0, 0, 0, false)))) else (none))) else (none)) = some (r1, r2, r3, r4) := H
       have A21 := am_ A210
       clear A210
       by_cases c22 : 1 < (x4_1.length : Int)
       · rw [if_pos c22] at H
         have c22b0 := decide_eq_true c22
         have c22b1 : decide (1 < x4_1.length) = true := decide_eq_true (by omega)
         clear c22
         replace H := Option.bind_eq_some_iff.mp H
         obtain ⟨⟨t337, t338⟩, A230, H⟩ := H
         replace H : (if 2 < (x4_1.length : Int) then ((cloisterref26_Number.f k1 (rdOf ByteArray.empty x4_1 2)).bind fun bt340 => (if t335 = true then (if t338 = true then (if bt340.2 = true then (if bt340.1 < 0 then (some (0, 0, 0, false)) else (if bt340.1 > 255 then (some (0, 0, 0, false)) else (some (t334, t337, (bt340.1) % 256, true)))) else (some (0, 0, 0, false))) else (some (0, 0, 0, false))) else (some (0, 0, 0, false)))) else (none)) = some (r1, r2, r3, r4) := H
         have A23 := am_ A230
         clear A230
         by_cases c24 : 2 < (x4_1.length : Int)
         · rw [if_pos c24] at H
           have c24b0 := decide_eq_true c24
           have c24b1 : decide (2 < x4_1.length) = true := decide_eq_true (by omega)
           clear c24
           replace H := Option.bind_eq_some_iff.mp H
           obtain ⟨⟨t340, t341⟩, A250, H⟩ := H
           replace H : (if t335 = true then (if t338 = true then (if t341 = true then (if t340 < 0 then (some (0, 0, 0, false)) else (if t340 > 255 then (some (0, 0, 0, false)) else (some (t334, t337, (t340) % 256, true)))) else (some (0, 0, 0, false))) else (some (0, 0, 0, false))) else (some (0, 0, 0, false))) = some (r1, r2, r3, r4) := H
           have A25 := am_ A250
           clear A250
           by_cases c26 : t335 = true
           subst c26
           have H1 : (if t338 = true then (if t341 = true then (if t340 < 0 then (some (0, 0, 0, false)) else (if t340 > 255 then (some (0, 0, 0, false)) else (some (t334, t337, (t340) % 256, true)))) else (some (0, 0, 0, false))) else (some (0, 0, 0, false))) = some (r1, r2, r3, r4) := by rw [if_pos rfl] at H; exact H
           clear H
           have H := H1
           clear H1
           by_cases c27 : t338 = true
           subst c27
           have H1 : (if t341 = true then (if t340 < 0 then (some (0, 0, 0, false)) else (if t340 > 255 then (some (0, 0, 0, false)) else (some (t334, t337, (t340) % 256, true)))) else (some (0, 0, 0, false))) = some (r1, r2, r3, r4) := by rw [if_pos rfl] at H; exact H
           clear H
           have H := H1
           clear H1
           by_cases c28 : t341 = true
           subst c28
           have H1 : (if t340 < 0 then (some (0, 0, 0, false)) else (if t340 > 255 then (some (0, 0, 0, false)) else (some (t334, t337, (t340) % 256, true)))) = some (r1, r2, r3, r4) := by rw [if_pos rfl] at H; exact H
           clear H
           have H := H1
           clear H1
           by_cases c29 : t340 < 0
           rw [if_pos c29] at H
           have c29b0 := decide_eq_true c29
           clear c29
           rotate_left
           rw [if_neg c29] at H
           have c29b0 := decide_eq_false c29
           clear c29
           by_cases c32 : t340 > 255
           rw [if_pos c32] at H
           have c32b0 : decide (255 < t340) = true := decide_eq_true c32
           clear c32
           rotate_left
           · rw [if_neg c32] at H
             have c32b0 : decide (255 < t340) = false := decide_eq_false c32
             clear c32
             simp only [Option.some.injEq, Prod.mk.injEq] at H
             obtain ⟨rfl, rfl, rfl, rfl⟩ := H
             obtain ⟨Ao35, co35, eo35⟩ := Kd.R_slice HO_4.out
             subst eo35
             have p333 : 0 ≤ (0 : Int) := (by omega)
             have q333 : 0 < (x4_1.length : Int) := od_
             obtain ⟨ad333, e333, hx333_0⟩ := Kd.at_string (Kd.R_reads' HO_4.out).2.2 0 p333 q333
             cases e333
             have qi333 : (0 < x4_1.length) = True := eq_true (by omega)
             (try rw [show ((0 : Int)).toNat = 0 from rfl] at hx333_0)
             (try rw [Addr.add_zero'] at hx333_0)
             replace p333 := eq_true p333
             replace q333 := eq_true q333
             try go_wp2_with (first | ((with_reducible refine gate_callee (f := 45) rfl ?_); refine goesL_ (some 46) rfl rfl Tryz.func45 (by kernel_rfl) rfl #[.string (rdOf ByteArray.empty x4_1 0)] rfl ha_ ?_; (with_reducible refine (cloisterref26_Number.calls k1 (rdOf ByteArray.empty x4_1 0) _ _ _ A21.out).mono ?_); rintro e w' ⟨rfl, ⟨nd, rfl⟩⟩; refine ⟨_, rfl, ?_⟩; (try (rw [drewN_self wr]; generalize hq_ : World.drewN wr _ = wr; have n0_ : Aside0 (Kd.R Kd.string 9 wr w.heap.size (fun _ => True) (.slice (some ad333) x4_1.length co35) x4_1) := ⟨by rw [← hq_]; exact (cq_ HO_4)⟩; have n1_ : Aside0 (wr.heap[gb326]? = some (.cells #[.int .i64 0, .int .i64 0, .int .u8 0] 66 (0, 0))) := ⟨by rw [← hq_]; exact (cd_ BK326)⟩; have n2_ : Aside0 (Below w.heap.size w wr) := ⟨by rw [← hq_]; exact (cb_ HB)⟩; clear HO_4 BK326 HB hq_; have HO_4 := n0_; have BK326 := n1_; have HB := n2_; clear n0_ n1_ n2_)); have p336 : 0 ≤ (1 : Int) := (by omega); have q336 : 1 < (x4_1.length : Int) := od_; obtain ⟨ad336, e336, hx336_0⟩ := Kd.at_string (Kd.R_reads' HO_4.out).2.2 1 p336 q336; obtain rfl : ad333 = ad336 := (by injection e336); (try simp only [show (1 : Int).toNat = 1 from rfl, Nat.reduceMul, Nat.reduceEqDiff, Go.Addr.add, ↓reduceIte] at hx336_0); have qi336 : (1 < x4_1.length) = True := eq_true (by omega); (try rw [show ((1 : Int)).toNat = 1 from rfl] at hx336_0); replace p336 := eq_true p336; replace q336 := eq_true q336) | ((with_reducible refine gate_callee (f := 45) rfl ?_); refine goesL_ (some 53) rfl rfl Tryz.func45 (by kernel_rfl) rfl #[.string (rdOf ByteArray.empty x4_1 1)] rfl ha_ ?_; (with_reducible refine (cloisterref26_Number.calls k1 (rdOf ByteArray.empty x4_1 1) _ _ _ A23.out).mono ?_); rintro e w' ⟨rfl, ⟨nd, rfl⟩⟩; refine ⟨_, rfl, ?_⟩; (try (rw [drewN_self wr]; generalize hq_ : World.drewN wr _ = wr; have n0_ : Aside0 (Kd.R Kd.string 9 wr w.heap.size (fun _ => True) (.slice (some ad333) x4_1.length co35) x4_1) := ⟨by rw [← hq_]; exact (cq_ HO_4)⟩; have n1_ : Aside0 (wr.heap[gb326]? = some (.cells #[.int .i64 0, .int .i64 0, .int .u8 0] 66 (0, 0))) := ⟨by rw [← hq_]; exact (cd_ BK326)⟩; have n2_ : Aside0 (Below w.heap.size w wr) := ⟨by rw [← hq_]; exact (cb_ HB)⟩; clear HO_4 BK326 HB hq_; have HO_4 := n0_; have BK326 := n1_; have HB := n2_; clear n0_ n1_ n2_)); have p339 : 0 ≤ (2 : Int) := (by omega); have q339 : 2 < (x4_1.length : Int) := od_; obtain ⟨ad339, e339, hx339_0⟩ := Kd.at_string (Kd.R_reads' HO_4.out).2.2 2 p339 q339; obtain rfl : ad333 = ad339 := (by injection e339); (try simp only [show (2 : Int).toNat = 2 from rfl, Nat.reduceMul, Nat.reduceEqDiff, Go.Addr.add, ↓reduceIte] at hx339_0); have qi339 : (2 < x4_1.length) = True := eq_true (by omega); (try rw [show ((2 : Int)).toNat = 2 from rfl] at hx339_0); replace p339 := eq_true p339; replace q339 := eq_true q339) | ((with_reducible refine gate_callee (f := 45) rfl ?_); refine goesL_ (some 60) rfl rfl Tryz.func45 (by kernel_rfl) rfl #[.string (rdOf ByteArray.empty x4_1 2)] rfl ha_ ?_; (with_reducible refine (cloisterref26_Number.calls k1 (rdOf ByteArray.empty x4_1 2) _ _ _ A25.out).mono ?_); rintro e w' ⟨rfl, ⟨nd, rfl⟩⟩; refine ⟨_, rfl, ?_⟩; (try (rw [drewN_self wr]; generalize hq_ : World.drewN wr _ = wr; have n0_ : Aside0 (Kd.R Kd.string 9 wr w.heap.size (fun _ => True) (.slice (some ad333) x4_1.length co35) x4_1) := ⟨by rw [← hq_]; exact (cq_ HO_4)⟩; have n1_ : Aside0 (wr.heap[gb326]? = some (.cells #[.int .i64 0, .int .i64 0, .int .u8 0] 66 (0, 0))) := ⟨by rw [← hq_]; exact (cd_ BK326)⟩; have n2_ : Aside0 (Below w.heap.size w wr) := ⟨by rw [← hq_]; exact (cb_ HB)⟩; clear HO_4 BK326 HB hq_; have HO_4 := n0_; have BK326 := n1_; have HB := n2_; clear n0_ n1_ n2_)); have hcz36_0 : wr.cell? ⟨gb326, 0, none⟩ = some (.int .i64 0) := (blk_cell BK326.out 0).trans rfl; have hcz36_1 : wr.cell? ⟨gb326, 1, none⟩ = some (.int .i64 0) := (blk_cell BK326.out 1).trans rfl; have hcz36_2 : wr.cell? ⟨gb326, 2, none⟩ = some (.int .u8 0) := (blk_cell BK326.out 2).trans rfl; have hfz36_0 := blk_frozen BK326.out 0; have hfz36_1 := blk_frozen BK326.out 1; have hfz36_2 := blk_frozen BK326.out 2))
             refine bodyPost_ret (results_ct rfl _ _ gb326 66 #[.int .i64 t334, .int .i64 t337, .int .u8 ((t340) % 256)] (0, 0) _ rfl (by (with_reducible repeat (first | refine d1_ ?_ _ | refine d2_ ?_ | refine d3_ ?_ _)); refine blk_put (cs := #[.int .i64 t334, .int .i64 t337, .int .u8 0]) ?_ 2 _ rfl; (with_reducible repeat (first | refine d1_ ?_ _ | refine d2_ ?_ | refine d3_ ?_ _)); refine blk_put (cs := #[.int .i64 t334, .int .i64 0, .int .u8 0]) ?_ 1 _ rfl; (with_reducible repeat (first | refine d1_ ?_ _ | refine d2_ ?_ | refine d3_ ?_ _)); refine blk_put (cs := #[.int .i64 0, .int .i64 0, .int .u8 0]) ?_ 0 _ rfl; (with_reducible repeat (first | refine d1_ ?_ _ | refine d2_ ?_ | refine d3_ ?_ _)); exact BK326.out) Tryz.underlying66 rfl (by kernel_rfl)) rfl ?_
             exact ⟨re_, cb_ HB⟩
           replace c28 := Bool.eq_false_iff.mpr c28
           subst c28
           have H1 : (some (0, 0, 0, false)) = some (r1, r2, r3, r4) := by rw [if_neg (show ¬ (false = true) by decide)] at H; exact H
           clear H
           have H := H1
           clear H1
           rotate_left
           replace c27 := Bool.eq_false_iff.mpr c27
           subst c27
           have H1 : (some (0, 0, 0, false)) = some (r1, r2, r3, r4) := by rw [if_neg (show ¬ (false = true) by decide)] at H; exact H
           clear H
           have H := H1
           clear H1
           rotate_left
           replace c26 := Bool.eq_false_iff.mpr c26
           subst c26
           have H1 : (some (0, 0, 0, false)) = some (r1, r2, r3, r4) := by rw [if_neg (show ¬ (false = true) by decide)] at H; exact H
           clear H
           have H := H1
           clear H1
           rotate_left
           all_goals
            simp only [Option.some.injEq, Prod.mk.injEq] at H
            obtain ⟨rfl, rfl, rfl, rfl⟩ := H
            obtain ⟨Ao30, co30, eo30⟩ := Kd.R_slice HO_4.out
            subst eo30
            have p333 : 0 ≤ (0 : Int) := (by omega)
            have q333 : 0 < (x4_1.length : Int) := od_
            obtain ⟨ad333, e333, hx333_0⟩ := Kd.at_string (Kd.R_reads' HO_4.out).2.2 0 p333 q333
            cases e333
            have qi333 : (0 < x4_1.length) = True := eq_true (by omega)
            (try rw [show ((0 : Int)).toNat = 0 from rfl] at hx333_0)
            (try rw [Addr.add_zero'] at hx333_0)
            replace p333 := eq_true p333
            replace q333 := eq_true q333
            try go_wp2_with (first | ((with_reducible refine gate_callee (f := 45) rfl ?_); refine goesL_ (some 46) rfl rfl Tryz.func45 (by kernel_rfl) rfl #[.string (rdOf ByteArray.empty x4_1 0)] rfl ha_ ?_; (with_reducible refine (cloisterref26_Number.calls k1 (rdOf ByteArray.empty x4_1 0) _ _ _ A21.out).mono ?_); rintro e w' ⟨rfl, ⟨nd, rfl⟩⟩; refine ⟨_, rfl, ?_⟩; (try (rw [drewN_self wr]; generalize hq_ : World.drewN wr _ = wr; have n0_ : Aside0 (Kd.R Kd.string 9 wr w.heap.size (fun _ => True) (.slice (some ad333) x4_1.length co30) x4_1) := ⟨by rw [← hq_]; exact (cq_ HO_4)⟩; have n1_ : Aside0 (wr.heap[gb326]? = some (.cells #[.int .i64 0, .int .i64 0, .int .u8 0] 66 (0, 0))) := ⟨by rw [← hq_]; exact (cd_ BK326)⟩; have n2_ : Aside0 (Below w.heap.size w wr) := ⟨by rw [← hq_]; exact (cb_ HB)⟩; clear HO_4 BK326 HB hq_; have HO_4 := n0_; have BK326 := n1_; have HB := n2_; clear n0_ n1_ n2_)); have p336 : 0 ≤ (1 : Int) := (by omega); have q336 : 1 < (x4_1.length : Int) := od_; obtain ⟨ad336, e336, hx336_0⟩ := Kd.at_string (Kd.R_reads' HO_4.out).2.2 1 p336 q336; obtain rfl : ad333 = ad336 := (by injection e336); (try simp only [show (1 : Int).toNat = 1 from rfl, Nat.reduceMul, Nat.reduceEqDiff, Go.Addr.add, ↓reduceIte] at hx336_0); have qi336 : (1 < x4_1.length) = True := eq_true (by omega); (try rw [show ((1 : Int)).toNat = 1 from rfl] at hx336_0); replace p336 := eq_true p336; replace q336 := eq_true q336) | ((with_reducible refine gate_callee (f := 45) rfl ?_); refine goesL_ (some 53) rfl rfl Tryz.func45 (by kernel_rfl) rfl #[.string (rdOf ByteArray.empty x4_1 1)] rfl ha_ ?_; (with_reducible refine (cloisterref26_Number.calls k1 (rdOf ByteArray.empty x4_1 1) _ _ _ A23.out).mono ?_); rintro e w' ⟨rfl, ⟨nd, rfl⟩⟩; refine ⟨_, rfl, ?_⟩; (try (rw [drewN_self wr]; generalize hq_ : World.drewN wr _ = wr; have n0_ : Aside0 (Kd.R Kd.string 9 wr w.heap.size (fun _ => True) (.slice (some ad333) x4_1.length co30) x4_1) := ⟨by rw [← hq_]; exact (cq_ HO_4)⟩; have n1_ : Aside0 (wr.heap[gb326]? = some (.cells #[.int .i64 0, .int .i64 0, .int .u8 0] 66 (0, 0))) := ⟨by rw [← hq_]; exact (cd_ BK326)⟩; have n2_ : Aside0 (Below w.heap.size w wr) := ⟨by rw [← hq_]; exact (cb_ HB)⟩; clear HO_4 BK326 HB hq_; have HO_4 := n0_; have BK326 := n1_; have HB := n2_; clear n0_ n1_ n2_)); have p339 : 0 ≤ (2 : Int) := (by omega); have q339 : 2 < (x4_1.length : Int) := od_; obtain ⟨ad339, e339, hx339_0⟩ := Kd.at_string (Kd.R_reads' HO_4.out).2.2 2 p339 q339; obtain rfl : ad333 = ad339 := (by injection e339); (try simp only [show (2 : Int).toNat = 2 from rfl, Nat.reduceMul, Nat.reduceEqDiff, Go.Addr.add, ↓reduceIte] at hx339_0); have qi339 : (2 < x4_1.length) = True := eq_true (by omega); (try rw [show ((2 : Int)).toNat = 2 from rfl] at hx339_0); replace p339 := eq_true p339; replace q339 := eq_true q339) | ((with_reducible refine gate_callee (f := 45) rfl ?_); refine goesL_ (some 60) rfl rfl Tryz.func45 (by kernel_rfl) rfl #[.string (rdOf ByteArray.empty x4_1 2)] rfl ha_ ?_; (with_reducible refine (cloisterref26_Number.calls k1 (rdOf ByteArray.empty x4_1 2) _ _ _ A25.out).mono ?_); rintro e w' ⟨rfl, ⟨nd, rfl⟩⟩; refine ⟨_, rfl, ?_⟩; (try (rw [drewN_self wr]; generalize hq_ : World.drewN wr _ = wr; have n0_ : Aside0 (Kd.R Kd.string 9 wr w.heap.size (fun _ => True) (.slice (some ad333) x4_1.length co30) x4_1) := ⟨by rw [← hq_]; exact (cq_ HO_4)⟩; have n1_ : Aside0 (wr.heap[gb326]? = some (.cells #[.int .i64 0, .int .i64 0, .int .u8 0] 66 (0, 0))) := ⟨by rw [← hq_]; exact (cd_ BK326)⟩; have n2_ : Aside0 (Below w.heap.size w wr) := ⟨by rw [← hq_]; exact (cb_ HB)⟩; clear HO_4 BK326 HB hq_; have HO_4 := n0_; have BK326 := n1_; have HB := n2_; clear n0_ n1_ n2_)); have hcz31_0 : wr.cell? ⟨gb326, 0, none⟩ = some (.int .i64 0) := (blk_cell BK326.out 0).trans rfl; have hcz31_1 : wr.cell? ⟨gb326, 1, none⟩ = some (.int .i64 0) := (blk_cell BK326.out 1).trans rfl; have hcz31_2 : wr.cell? ⟨gb326, 2, none⟩ = some (.int .u8 0) := (blk_cell BK326.out 2).trans rfl; have hfz31_0 := blk_frozen BK326.out 0; have hfz31_1 := blk_frozen BK326.out 1; have hfz31_2 := blk_frozen BK326.out 2))
            refine bodyPost_ret (results_ct rfl _ _ gb326 66 #[.int .i64 0, .int .i64 0, .int .u8 0] (0, 0) _ rfl (by (with_reducible repeat (first | refine d1_ ?_ _ | refine d2_ ?_ | refine d3_ ?_ _)); refine blk_put (cs := #[.int .i64 0, .int .i64 0, .int .u8 0]) ?_ 2 _ rfl; (with_reducible repeat (first | refine d1_ ?_ _ | refine d2_ ?_ | refine d3_ ?_ _)); refine blk_put (cs := #[.int .i64 0, .int .i64 0, .int .u8 0]) ?_ 1 _ rfl; (with_reducible repeat (first | refine d1_ ?_ _ | refine d2_ ?_ | refine d3_ ?_ _)); refine blk_put (cs := #[.int .i64 0, .int .i64 0, .int .u8 0]) ?_ 0 _ rfl; (with_reducible repeat (first | refine d1_ ?_ _ | refine d2_ ?_ | refine d3_ ?_ _)); exact BK326.out) Tryz.underlying66 rfl (by kernel_rfl)) rfl ?_
            exact ⟨re_, cb_ HB⟩
         rw [if_neg c24] at H
         exact absurd H (by simp)
       rw [if_neg c22] at H
       exact absurd H (by simp)
     rw [if_neg c20] at H
     exact absurd H (by simp)
   rw [if_neg c19] at H
   have c19b0 := ec_ c19
   have c19b1 := nc_ c19
   simp only [Option.some.injEq, Prod.mk.injEq] at H
   obtain ⟨rfl, rfl, rfl, rfl⟩ := H
   obtain ⟨Ao43, co43, eo43⟩ := Kd.R_slice HO_4.out
   subst eo43
   have hcz44_0 : wr.cell? ⟨gb326, 0, none⟩ = some (.int .i64 0) := (blk_cell BK326.out 0).trans rfl
   have hcz44_1 : wr.cell? ⟨gb326, 1, none⟩ = some (.int .i64 0) := (blk_cell BK326.out 1).trans rfl
   have hcz44_2 : wr.cell? ⟨gb326, 2, none⟩ = some (.int .u8 0) := (blk_cell BK326.out 2).trans rfl
   have hfz44_0 := blk_frozen BK326.out 0
   have hfz44_1 := blk_frozen BK326.out 1
   have hfz44_2 := blk_frozen BK326.out 2
   go_wp2
   refine bodyPost_ret (results_ct rfl _ _ gb326 66 #[.int .i64 0, .int .i64 0, .int .u8 0] (0, 0) _ rfl (by (with_reducible repeat (first | refine d1_ ?_ _ | refine d2_ ?_ | refine d3_ ?_ _)); refine blk_put (cs := #[.int .i64 0, .int .i64 0, .int .u8 0]) ?_ 2 _ rfl; (with_reducible repeat (first | refine d1_ ?_ _ | refine d2_ ?_ | refine d3_ ?_ _)); refine blk_put (cs := #[.int .i64 0, .int .i64 0, .int .u8 0]) ?_ 1 _ rfl; (with_reducible repeat (first | refine d1_ ?_ _ | refine d2_ ?_ | refine d3_ ?_ _)); refine blk_put (cs := #[.int .i64 0, .int .i64 0, .int .u8 0]) ?_ 0 _ rfl; (with_reducible repeat (first | refine d1_ ?_ _ | refine d2_ ?_ | refine d3_ ?_ _)); exact BK326.out) Tryz.underlying66 rfl (by kernel_rfl)) rfl ?_
   exact ⟨re_, cb_ HB⟩
def cloisterref26_Strikes.l0 : Nat → List (List (S66)) → List ByteArray → Int → Int → Option ((List (List (S66))) × Bool)
 | 0, _, _, _, _ => none
 | k + 1, x4, x9, x10, x11 => if x11 < x10 then (if 0 ≤ x11 then (if x11 < (x9.length : Int) then (if (rdOf ByteArray.empty x9 x11).toList = ([47] : List UInt8) then (if x4.length < 5864062014805 then (cloisterref26_Strikes.l0 k (x4 ++ [(([] : List (S66)))]) x9 x10 (wrap64 (x11 + 1))) else (none)) else ((cloisterref26_Fate.f k (rdOf ByteArray.empty x9 x11)).bind fun bt349 => (if bt349.2.2.2 = true then (if (x4.length : Int) = 0 then (some (([] : List (List (S66))), false)) else (if 0 ≤ (wrap64 ((x4.length : Int) - 1)) then (if (wrap64 ((x4.length : Int) - 1)) < (x4.length : Int) then (if (rd_L7 x4 (wrap64 ((x4.length : Int) - 1))).length < 5864062014805 then (cloisterref26_Strikes.l0 k (x4.set ((wrap64 ((x4.length : Int) - 1)) : Int).toNat ((rd_L7 x4 (wrap64 ((x4.length : Int) - 1))) ++ [(⟨bt349.1, bt349.2.1, bt349.2.2.1⟩ : S66)])) x9 x10 (wrap64 (x11 + 1))) else (none)) else (none)) else (none))) else (some (([] : List (List (S66))), false))))) else (none)) else (none)) else (some (x4, true))
def cloisterref26_Strikes.f (k : Nat) (l0 : List ByteArray) : Option ((List (List (S66))) × Bool) := cloisterref26_Strikes.l0 k ([] : List (List (S66))) l0 (l0.length : Int) 0
def cloisterref26_Strikes.T10 : Bool × List (List Nat × List Nat) := (true, [([], []), ([], []), ([1], [1]), ([2], [2]), ([], []), ([], []), ([5], [5]), ([6], [6]), ([4, 7], [4, 7]), ([8], [8]), ([], []), ([10], [10]), ([9, 11], [9, 11]), ([0, 3, 0, 1, 2, 3, 4, 5, 6, 7, 8, 9, 10, 11, 12], [0, 3]), ([13, 12, 12, 0, 1, 2, 3, 4, 5, 6, 7, 8, 9, 10, 11, 12], [12, 13])])
def cloisterref26_Strikes.B10 : List Nat := [0, 0, 2, 6, 0, 0, 32, 96, 240, 496, 0, 1024, 4080, 8191, 16383]
theorem cloisterref26_Strikes.tab10 : rtab .any (opsOf Tryz.f48 10) = cloisterref26_Strikes.T10 := by kernel_rfl
theorem cloisterref26_Strikes.bits10 : waitsOk cloisterref26_Strikes.T10.2 cloisterref26_Strikes.B10 = true := by kernel_rfl
theorem cloisterref26_Strikes.calls (k : Nat) (A0 : Option Addr) (c0 : Nat) (l0 : List ByteArray) (r1 : List (List (S66))) (r2 : Bool) (w : World) (hr0 : Kd.C Kd.string w A0 l0.length l0) (hc0 : l0.length ≤ c0) (h : cloisterref26_Strikes.f k l0 = some (r1, r2)) :
 Calls Tryz.prog 48 #[.slice A0 l0.length c0] w fun e w' => ∃ v0_ : Value, e = .returned (.tuple #[v0_, .bool r2]) ∧ Kd.S (Kd.slice 66 k66) 64 w' w.heap.size (fun _ => True) v0_ r1 ∧ Below w.heap.size w w' := by
 have hu66 := Tryz.underlying66
 have HR0 := am_ hr0
 have HC0 := am_ hc0
 clear hr0 hc0
 have HB := am_ (Below.refl w.heap.size w)
 have H : (cloisterref26_Strikes.l0 k ([] : List (List (S66))) l0 (l0.length : Int) 0) = some (r1, r2) := h
 clear h
 have H' := am_ H
 clear H
 go_enter Tryz.func48, Tryz.ntmps48
 go_wp2
 go_loopg [4, 11] k (fun kq v4 v11 w' => ∃ (x4_1 : List (List (S66))) (x11_1 : Int), v11 = .int .i64 x11_1 ∧ Aside0 (cloisterref26_Strikes.l0 kq x4_1 l0 (l0.length : Int) x11_1 = some (r1, r2)) ∧ Aside0 (kq ≤ k) ∧ Aside0 (Kd.S (Kd.slice 66 k66) 64 w' w.heap.size (fun _ => True) v4 x4_1) ∧ Aside0 (Below w.heap.size w w'))
 case atStart => exact ⟨(([] : List (List (S66)))), (0), rf_, H', ⟨Nat.le_refl _⟩, ⟨by first | exact Kd.S_nil _ _ _ _ _ | exact Kd.N_nil _ _ _ _ _ | exact Kd.V_nil _ _ _ _ _ | exact Kd.Q_nil _ _ _ _ _ | exact Kd.R_nil _ _ _ _ _⟩, ⟨cb_ HB⟩⟩
 case round =>
  clear H'
  obtain ⟨x4_1, x11_1, rfl, HA, HK1, HO_4, HB⟩ := hrel
  cases gk with
  | zero => exact absurd HA.out (by simp [cloisterref26_Strikes.l0])
  | succ k1 =>
   have H := HA.out
   clear HA
   simp only [cloisterref26_Strikes.l0] at H
   by_cases c2 : x11_1 < (l0.length : Int)
   · rw [if_pos c2] at H
     have c2b0 := decide_eq_true c2
     clear c2
     by_cases c3 : 0 ≤ x11_1
     · rw [if_pos c3] at H
       have c3b0 := decide_eq_true c3
       clear c3
       by_cases c4 : x11_1 < (l0.length : Int)
       · rw [if_pos c4] at H
         have c4b0 := decide_eq_true c4
         clear c4
         by_cases c5 : (rdOf ByteArray.empty l0 x11_1).toList = ([47] : List UInt8)
         · rw [if_pos c5] at H
           have c5b0 := eb_ c5
           have c5b1 := nb_ c5
           clear c5
           obtain ⟨y343, hy343⟩ : ∃ y_ : List (S66), y_ = (([] : List (S66))) := ⟨_, rfl⟩
           replace H : (if x4_1.length < 5864062014805 then (cloisterref26_Strikes.l0 k1 (x4_1 ++ [y343]) l0 (l0.length : Int) (wrap64 (x11_1 + 1))) else (none)) = some (r1, r2) := by first | (rw [hy343]; with_reducible exact H) | (have H2_ := (Option.bind_some _ _).symm.trans H; rw [hy343]; with_reducible exact H2_) | (have H2_ := (Option.bind_some _ _).symm.trans H; with_reducible exact H2_) | with_reducible exact H | (rw [hy343]; exact H) | exact H
           have Ny343 := am_ hy343
           clear hy343
           by_cases c6 : x4_1.length < 5864062014805
           · rw [if_pos c6] at H
             have LMc6 := am_ c6
             clear c6
             obtain ⟨y346, hy346⟩ : ∃ y_ : List (List (S66)), y_ = (x4_1 ++ [y343]) := ⟨_, rfl⟩
             replace H : (cloisterref26_Strikes.l0 k1 y346 l0 (l0.length : Int) (wrap64 (x11_1 + 1))) = some (r1, r2) := by first | (rw [hy346]; with_reducible exact H) | (have H2_ := (Option.bind_some _ _).symm.trans H; rw [hy346]; with_reducible exact H2_) | (have H2_ := (Option.bind_some _ _).symm.trans H; with_reducible exact H2_) | with_reducible exact H | (rw [hy346]; exact H) | exact H
             have Ny346 := am_ hy346
             clear hy346
             have H' := am_ H
             clear H
             have p342 : 0 ≤ (x11_1 : Int) := od_
             have q342 : x11_1 < (l0.length : Int) := od_
             obtain ⟨ad342, e342, hx342_0⟩ := Kd.at_string HR0.out x11_1 p342 q342
             cases e342
             replace hx342_0 := (HB.out.cell (World.block_lt_of_cell? w _ hx342_0)).trans hx342_0
             replace p342 := eq_true p342
             replace q342 := eq_true q342
             try go_wp2_with (first | ((with_reducible refine gate_dst (N := 18) rfl ?_); (try (refine gate_guard (by rfl) ?_; dsimp only)); refine Kd.R_lit k66 _ 66 ?hg (N := 18) ?hd (xs := ([] : List (S66))) (inner := []) (ok := fun _ => True) (okp := fun _ => True) ?hr ?hp (fun _ hk => hk) trivial (Below.refl _ _) (Nat.le_refl _) (by simp) ?_; (case hd => rfl); (case hg => rfl); (case hr => first | (go_simp; done) | (go_simp; rfl)); (case hp => exact (Reps.none _ _)); intro v344 w7 ho8 hb hg_ hnew_; clear hg_ hnew_; (first | rw [← Ny343.out] at ho8 | (simp only [Int.reduceToNat] at ho8; rw [← Ny343.out] at ho8)); replace HO_4 := am_ (Kd.S_elder' (cs_ HO_4) (Kd.R_base ho8) hb); have HO345 := am_ (Kd.R_lower ho8 (below_size (cb_ HB))); replace HB := am_ (below_step (cb_ HB) hb); clear hb ho8; obtain ⟨Ao10, co10, eo10⟩ := Kd.R_slice HO345.out; subst eo10) | ((with_reducible refine gate_builtin (b := .append) (xs := #[.tmp 17, .tmp 19]) rfl ?_); (try (refine gate_guard (by rfl) ?_; dsimp only)); at_builtin; refine Kd.S_append (Kd.slice 66 k66) (w0 := w) w.heap.size rfl (.tmp 17) (.tmp 19) 50 64 (.slice none 0 0) 24 rfl Tryz.underlying50 info64 rfl (by decide) (by omega) u4 x4_1 y343 [.slice Ao10 y343.length co10] (fun _ => True) (fun k_ => some k_ = (.slice Ao10 y343.length co10 : Value).ownBlock) rfl rfl ?aP (fun k_ hk_ => ((Kd.R_mono (ok' := fun k_ => ((fun _ => True)) k_ ∧ some k_ ≠ (u4 : Value).ownBlock) (Kd.R_apart' (HO345.out) (Kd.S_typed HO_4.out) (by decide)) (fun k_ hk => ⟨trivial, hk.2⟩))).1 k_ hk_.symm) ?aF ?aO ?aB ?aS ?aL ?_; (case aP => exact Kd.M_row (Kd.R_mono (Kd.R_tight rfl (Kd.R_mono (ok' := fun k_ => ((fun _ => True)) k_ ∧ some k_ ≠ (u4 : Value).ownBlock) (Kd.R_apart' (HO345.out) (Kd.S_typed HO_4.out) (by decide)) (fun k_ hk => ⟨trivial, hk.2⟩))) (fun _ h_ => h_))); (case aB => exact (cb_ HB)); (case aF => exact (fun _ _ => trivial)); (case aO => exact (by (with_reducible repeat (first | apply Kd.S_alloc | apply Kd.S_drewN | apply Kd.S_drew)); exact Kd.S_mono HO_4.out (fun k_ hk => ⟨trivial, fun e_ => hk.2 e_⟩))); (case aS => exact (below_size (cb_ HB))); (case aL => have := LMc6.out; omega); intro v347 w9 ho hb hg hat; rw [← Ny346.out] at ho; replace HB := am_ (hb); have HO348 := am_ (ho); clear HO_4 HO345; clear ho hb hg hat))
             go_roundg k1
             case measure => have := HK1.out; omega
             case rel => exact ⟨(y346), (wrap64 (x11_1 + 1)), rf_, H', ⟨by have := HK1.out; omega⟩, ⟨cs_ HO348⟩, ⟨cb_ HB⟩⟩
           rw [if_neg c6] at H
           exact absurd H (by simp)
         rw [if_neg c5] at H
         have c5b0 := ec_ c5
         have c5b1 := nc_ c5
         replace H := Option.bind_eq_some_iff.mp H
         obtain ⟨⟨t349, t350, t351, t352⟩, A110, H⟩ := H
         replace H : (if t352 = true then (if (x4_1.length : Int) = 0 then (some (([] : List (List (S66))), false)) else (if 0 ≤ (wrap64 ((x4_1.length : Int) - 1)) then (if (wrap64 ((x4_1.length : Int) - 1)) < (x4_1.length : Int) then (if (rd_L7 x4_1 (wrap64 ((x4_1.length : Int) - 1))).length < 5864062014805 then (cloisterref26_Strikes.l0 k1 (x4_1.set ((wrap64 ((x4_1.length : Int) - 1)) : Int).toNat ((rd_L7 x4_1 (wrap64 ((x4_1.length : Int) - 1))) ++ [(⟨t349, t350, t351⟩ : S66)])) l0 (l0.length : Int) (wrap64 (x11_1 + 1))) else (none)) else (none)) else (none))) else (some (([] : List (List (S66))), false))) = some (r1, r2) := H
         have A11 := am_ A110
         clear A110
         by_cases c12 : t352 = true
         · subst c12
           have H1 : (if (x4_1.length : Int) = 0 then (some (([] : List (List (S66))), false)) else (if 0 ≤ (wrap64 ((x4_1.length : Int) - 1)) then (if (wrap64 ((x4_1.length : Int) - 1)) < (x4_1.length : Int) then (if (rd_L7 x4_1 (wrap64 ((x4_1.length : Int) - 1))).length < 5864062014805 then (cloisterref26_Strikes.l0 k1 (x4_1.set ((wrap64 ((x4_1.length : Int) - 1)) : Int).toNat ((rd_L7 x4_1 (wrap64 ((x4_1.length : Int) - 1))) ++ [(⟨t349, t350, t351⟩ : S66)])) l0 (l0.length : Int) (wrap64 (x11_1 + 1))) else (none)) else (none)) else (none))) = some (r1, r2) := by rw [if_pos rfl] at H; exact H
           clear H
           have H := H1
           clear H1
           by_cases c13 : (x4_1.length : Int) = 0
           · rw [if_pos c13] at H
             have c13b0 := eb_ c13
             have c13b1 := nb_ c13
             clear c13
             simp only [Option.some.injEq, Prod.mk.injEq] at H
             obtain ⟨rfl, rfl⟩ := H
             have p342 : 0 ≤ (x11_1 : Int) := od_
             have q342 : x11_1 < (l0.length : Int) := od_
             obtain ⟨ad342, e342, hx342_0⟩ := Kd.at_string HR0.out x11_1 p342 q342
             cases e342
             replace hx342_0 := (HB.out.cell (World.block_lt_of_cell? w _ hx342_0)).trans hx342_0
             replace p342 := eq_true p342
             replace q342 := eq_true q342
             try go_wp2_with (first | ((with_reducible refine gate_callee (f := 72) rfl ?_); refine goesL_ (some 23) rfl rfl Tryz.func72 (by kernel_rfl) rfl #[.string (rdOf ByteArray.empty l0 x11_1)] rfl ha_ ?_; (with_reducible refine (cloisterref26_Fate.calls k1 (rdOf ByteArray.empty l0 x11_1) _ _ _ _ _ A11.out).mono ?_); rintro e w14 ⟨rfl, hb⟩; refine ⟨_, rfl, ?_⟩; replace HO_4 := am_ (Kd.S_below (cs_ HO_4) hb); replace HB := am_ (below_step (cb_ HB) hb); (try clear hb); (try clear hk)) | ((with_reducible refine gate_dst (N := 7) rfl ?_); (try (refine gate_guard (by rfl) ?_; dsimp only)); refine box_event ?hg (N := 7) ?hd (cs := #[.int .i64 0, .int .i64 0, .int .u8 0]) (t := 66) ?hr ?_; (case hd => rfl); (case hg => rfl); (case hr => first | (go_simp; done) | (go_simp; rfl)); intro gb353 hg w15 hbox hb; replace HO_4 := am_ (Kd.S_below (Kd.S_elderB (cs_ HO_4) gb353 (Nat.le_of_eq hg.symm)) hb); have BK353 := am_ (hbox); have GW353 := am_ ((by rw [hg]; exact (below_size (cb_ HB)) : w.heap.size ≤ gb353)); have GE353 := am_ ((by rw [hg]; exact (below_size (cb_ HB)) : w.heap.size ≤ gb353)); replace HB := am_ (below_step (cb_ HB) hb); clear hb hbox hg; have hcz16_0 : w15.cell? ⟨gb353, 0, none⟩ = some (.int .i64 0) := (blk_cell BK353.out 0).trans rfl; have hcz16_1 : w15.cell? ⟨gb353, 1, none⟩ = some (.int .i64 0) := (blk_cell BK353.out 1).trans rfl; have hcz16_2 : w15.cell? ⟨gb353, 2, none⟩ = some (.int .u8 0) := (blk_cell BK353.out 2).trans rfl; have hfz16_0 := blk_frozen BK353.out 0; have hfz16_1 := blk_frozen BK353.out 1; have hfz16_2 := blk_frozen BK353.out 2; obtain ⟨Ao17, co17, eo17⟩ := Kd.S_slice HO_4.out; subst eo17))
             go_ret2
             exact ⟨_, re_, by first | exact Kd.S_nil _ _ _ _ _ | exact Kd.N_nil _ _ _ _ _ | exact Kd.V_nil _ _ _ _ _ | exact Kd.Q_nil _ _ _ _ _ | exact Kd.R_nil _ _ _ _ _, cb_ HB⟩
           rw [if_neg c13] at H
           have c13b0 := ec_ c13
           have c13b1 := nc_ c13
           have c13b2 : ¬ (x4_1 = []) := fun h_ => c13 (by rw [h_]; rfl)
           obtain ⟨ji18, hji18⟩ : ∃ j_ : Int, (wrap64 ((x4_1.length : Int) - 1)) = j_ := ⟨_, rfl⟩
           replace H : (if 0 ≤ (ji18) then (if (ji18) < (x4_1.length : Int) then (if (rd_L7 x4_1 (ji18)).length < 5864062014805 then (cloisterref26_Strikes.l0 k1 (x4_1.set ((ji18) : Int).toNat ((rd_L7 x4_1 (ji18)) ++ [(⟨t349, t350, t351⟩ : S66)])) l0 (l0.length : Int) (wrap64 (x11_1 + 1))) else (none)) else (none)) else (none)) = some (r1, r2) := by first | (rw [hji18] at H; exact H) | (simp only [hji18] at H ⊢; exact H)
           (try rw [hji18] at A11)
           have hji18w : (IntKind.i64.wrap ((x4_1.length : Int) - 1)) = ji18 := (i64_w _).trans hji18
           by_cases c19 : 0 ≤ (ji18)
           · rw [if_pos c19] at H
             have c19b0 := decide_eq_true c19
             clear c19
             by_cases c20 : (ji18) < (x4_1.length : Int)
             · rw [if_pos c20] at H
               have c20b0 := decide_eq_true c20
               clear c20
               by_cases c21 : (rd_L7 x4_1 (ji18)).length < 5864062014805
               · rw [if_pos c21] at H
                 have LMc21 := am_ c21
                 clear c21
                 obtain ⟨y355, hy355⟩ : ∃ y_ : List (S66), y_ = ((rd_L7 x4_1 (ji18)) ++ [(⟨t349, t350, t351⟩ : S66)]) := ⟨_, rfl⟩
                 replace H : (cloisterref26_Strikes.l0 k1 (x4_1.set ((ji18) : Int).toNat y355) l0 (l0.length : Int) (wrap64 (x11_1 + 1))) = some (r1, r2) := by first | (rw [hy355]; with_reducible exact H) | (have H2_ := (Option.bind_some _ _).symm.trans H; rw [hy355]; with_reducible exact H2_) | (have H2_ := (Option.bind_some _ _).symm.trans H; with_reducible exact H2_) | with_reducible exact H | (rw [hy355]; exact H) | exact H
                 have Ny355 := am_ hy355
                 clear hy355
                 obtain ⟨y358, hy358⟩ : ∃ y_ : List (List (S66)), y_ = (x4_1.set ((ji18) : Int).toNat y355) := ⟨_, rfl⟩
                 replace H : (cloisterref26_Strikes.l0 k1 y358 l0 (l0.length : Int) (wrap64 (x11_1 + 1))) = some (r1, r2) := by first | (rw [hy358]; with_reducible exact H) | (have H2_ := (Option.bind_some _ _).symm.trans H; rw [hy358]; with_reducible exact H2_) | (have H2_ := (Option.bind_some _ _).symm.trans H; with_reducible exact H2_) | with_reducible exact H | (rw [hy358]; exact H) | exact H
                 have Ny358 := am_ hy358
                 clear hy358
                 have H' := am_ H
                 clear H
                 have p342 : 0 ≤ (x11_1 : Int) := od_
                 have q342 : x11_1 < (l0.length : Int) := od_
                 obtain ⟨ad342, e342, hx342_0⟩ := Kd.at_string HR0.out x11_1 p342 q342
                 cases e342
                 replace hx342_0 := (HB.out.cell (World.block_lt_of_cell? w _ hx342_0)).trans hx342_0
                 replace p342 := eq_true p342
                 replace q342 := eq_true q342
                 try go_wp2_with (first | ((with_reducible refine gate_callee (f := 72) rfl ?_); refine goesL_ (some 23) rfl rfl Tryz.func72 (by kernel_rfl) rfl #[.string (rdOf ByteArray.empty l0 x11_1)] rfl ha_ ?_; (with_reducible refine (cloisterref26_Fate.calls k1 (rdOf ByteArray.empty l0 x11_1) _ _ _ _ _ A11.out).mono ?_); rintro e w23 ⟨rfl, hb⟩; refine ⟨_, rfl, ?_⟩; replace HO_4 := am_ (Kd.S_below (cs_ HO_4) hb); replace HB := am_ (below_step (cb_ HB) hb); (try clear hb); (try clear hk)) | ((with_reducible refine gate_dst (N := 7) rfl ?_); (try (refine gate_guard (by rfl) ?_; dsimp only)); refine box_event ?hg (N := 7) ?hd (cs := #[.int .i64 0, .int .i64 0, .int .u8 0]) (t := 66) ?hr ?_; (case hd => rfl); (case hg => rfl); (case hr => first | (go_simp; done) | (go_simp; rfl)); intro gb353 hg w24 hbox hb; replace HO_4 := am_ (Kd.S_below (Kd.S_elderB (cs_ HO_4) gb353 (Nat.le_of_eq hg.symm)) hb); have BK353 := am_ (hbox); have GW353 := am_ ((by rw [hg]; exact (below_size (cb_ HB)) : w.heap.size ≤ gb353)); have GE353 := am_ ((by rw [hg]; exact (below_size (cb_ HB)) : w.heap.size ≤ gb353)); replace HB := am_ (below_step (cb_ HB) hb); clear hb hbox hg; have hcz25_0 : w24.cell? ⟨gb353, 0, none⟩ = some (.int .i64 0) := (blk_cell BK353.out 0).trans rfl; have hcz25_1 : w24.cell? ⟨gb353, 1, none⟩ = some (.int .i64 0) := (blk_cell BK353.out 1).trans rfl; have hcz25_2 : w24.cell? ⟨gb353, 2, none⟩ = some (.int .u8 0) := (blk_cell BK353.out 2).trans rfl; have hfz25_0 := blk_frozen BK353.out 0; have hfz25_1 := blk_frozen BK353.out 1; have hfz25_2 := blk_frozen BK353.out 2; obtain ⟨Ao26, co26, eo26⟩ := Kd.S_slice HO_4.out; subst eo26))
                 have n0_ : Aside0 (Kd.S (Kd.slice 66 k66) 64 (((w24.setCell ⟨gb353, 0, none⟩ (.int .i64 t349)).setCell ⟨gb353, 1, none⟩ (.int .i64 t350)).setCell ⟨gb353, 2, none⟩ (.int .u8 t351)) w.heap.size (fun k_ => k_ ≠ gb353) (.slice Ao26 x4_1.length co26) x4_1) := ⟨by (with_reducible repeat (first | apply Kd.S_alloc | apply Kd.S_drewN | apply Kd.S_drew)); exact Kd.S_mono (Kd.S_far (p := ⟨gb353, 2, none⟩) (Kd.S_far (p := ⟨gb353, 1, none⟩) (Kd.S_far (p := ⟨gb353, 0, none⟩) (Kd.S_mono HO_4.out (fun k_ hk => (⟨hk, hk.2⟩ : _ ∧ k_ ≠ gb353))) (fun _ hk => hk.2) (.int .i64 t349)) (fun _ hk => hk.2) (.int .i64 t350)) (fun _ hk => hk.2) (.int .u8 t351)) (fun _ hk => hk.1.2)⟩
                 have n1_ : Aside0 ((((w24.setCell ⟨gb353, 0, none⟩ (.int .i64 t349)).setCell ⟨gb353, 1, none⟩ (.int .i64 t350)).setCell ⟨gb353, 2, none⟩ (.int .u8 t351)).heap[gb353]? = some (.cells #[.int .i64 t349, .int .i64 t350, .int .u8 t351] 66 (0, 0))) := ⟨by (with_reducible repeat (first | refine d1_ ?_ _ | refine d2_ ?_ | refine d3_ ?_ _)); refine blk_put (cs := #[.int .i64 t349, .int .i64 t350, .int .u8 0]) ?_ 2 _ rfl; (with_reducible repeat (first | refine d1_ ?_ _ | refine d2_ ?_ | refine d3_ ?_ _)); refine blk_put (cs := #[.int .i64 t349, .int .i64 0, .int .u8 0]) ?_ 1 _ rfl; (with_reducible repeat (first | refine d1_ ?_ _ | refine d2_ ?_ | refine d3_ ?_ _)); refine blk_put (cs := #[.int .i64 0, .int .i64 0, .int .u8 0]) ?_ 0 _ rfl; (with_reducible repeat (first | refine d1_ ?_ _ | refine d2_ ?_ | refine d3_ ?_ _)); exact BK353.out⟩
                 have n2_ : Aside0 (Below w.heap.size w (((w24.setCell ⟨gb353, 0, none⟩ (.int .i64 t349)).setCell ⟨gb353, 1, none⟩ (.int .i64 t350)).setCell ⟨gb353, 2, none⟩ (.int .u8 t351))) := ⟨cb_ HB⟩
                 (try clear HO_4)
                 (try clear BK353)
                 (try clear HB)
                 generalize (((w24.setCell ⟨gb353, 0, none⟩ (.int .i64 t349)).setCell ⟨gb353, 1, none⟩ (.int .i64 t350)).setCell ⟨gb353, 2, none⟩ (.int .u8 t351)) = w27 at n0_ n1_ n2_ ⊢
                 have HO_4 := n0_
                 have BK353 := n1_
                 have HB := n2_
                 clear n0_ n1_ n2_
                 replace HO_4 := am_ (Kd.S_drew HO_4.out)
                 replace BK353 := am_ (d2_ BK353.out)
                 replace HB := am_ (b3_ HB.out)
                 have p354 : 0 ≤ ((ji18) : Int) := od_
                 have q354 : (ji18) < (x4_1.length : Int) := od_
                 obtain ⟨ad354, A354_0, c354_0, e354, hx354_0, hl354_0, hi354_0⟩ := at_L7 (Kd.S_reads' HO_4.out).2.2 (ji18) p354 q354
                 cases e354
                 obtain ⟨ce354, hce354, hMe354, hcc354⟩ := Kd.S_get HO_4.out [] (ji18) p354 (by first | exact q354 | exact od_ | (have e_ := (Kd.S_reads' HO_4.out).1; omega))
                 obtain ⟨ve354_0, rfl, ge354_0⟩ := hMe354
                 have hv354_0 := hcc354 0 _ rfl
                 rw [Nat.add_zero, show ((Kd.slice 66 k66)).sz = 1 from rfl, Nat.mul_one] at hv354_0
                 replace hv354_0 := Option.some.inj (hv354_0.symm.trans hx354_0)
                 rw [hv354_0] at ge354_0
                 have HL354_0 := am_ (show Kd.R k66 66 _ _ _ _ (rd_L7 x4_1 (ji18)) from ge354_0)
                 clear hv354_0 ge354_0
                 have HX354_0 := am_ hx354_0
                 clear hcc354 hce354
                 have HR354_0 := am_ hi354_0
                 have HC354_0 := am_ hl354_0
                 clear hi354_0 hl354_0
                 replace p354 := eq_true p354
                 replace q354 := eq_true q354
                 obtain ⟨go29, co29, eo29, gb29, gl29, cl29, HG29⟩ := Kd.S_form HO_4.out (by have h_ : ((ji18) : Int) < ((x4_1.length : Int) : Int) := od_; have h2_ : 0 ≤ ((ji18) : Int) := (od_); omega)
                 (first | cases eo29 | (injection eo29 with ea_ en_ ec_; (first | subst ea_ | (injection ea_ with ea_; subst ea_)); subst ec_; clear en_))
                 have GB29 := am_ gb29
                 have GG29 := am_ HG29
                 clear gb29 gl29 HG29
                 (first | simp only [add_plain] at hx354_0 | skip)
                 obtain ⟨oki29, ce29, hcl29, hM29, hcc29, _, _, hH29⟩ := Kd.S_elem HO_4.out [] ((ji18) : Int) (od_) (by have h_ : ((ji18) : Int) < ((x4_1.length : Int) : Int) := od_; first | exact h_ | (have e_ := (Kd.S_reads' HO_4.out).1; omega) | simpa using h_)
                 obtain ⟨ve29_0, rfl, ge29_0⟩ := hM29
                 have hv29 := hcc29 0 _ rfl
                 have hX29 := HX354_0.out
                 (try simp only [add_plain] at hX29)
                 (try simp only [Nat.add_zero] at hv29)
                 (try rw [show ((Kd.slice 66 k66)).sz = 1 from rfl, Nat.mul_one] at hv29)
                 replace hv29 := Option.some.inj (hv29.symm.trans hX29)
                 subst hv29
                 clear hX29 hcc29 hcl29
                 have UU29 := am_ (show Kd.R k66 66 _ w.heap.size oki29 (.slice A354_0 (rd_L7 x4_1 (ji18)).length c354_0) (rd_L7 x4_1 (ji18)) from ge29_0)
                 have HH29 := am_ hH29
                 have HN29 := am_ (Kd.S_reads' HO_4.out).1
                 clear hH29 ge29_0
                 refine start_ (n := 15) (S := fun w' => w'.cell? ⟨gb353, 0, none⟩ = some (.int .i64 t349) ∧ w'.cell? ⟨gb353, 1, none⟩ = some (.int .i64 t350) ∧ w'.cell? ⟨gb353, 2, none⟩ = some (.int .u8 t351) ∧ w'.cell? ⟨go29, ((ji18)).toNat, none⟩ = some (.slice A354_0 (rd_L7 x4_1 (ji18)).length c354_0)) (ds := [14]) (bs_ 15 0) (by kernel_rfl) rfl rfl ⟨(blk_cell BK353.out 0).trans rfl, (blk_cell BK353.out 1).trans rfl, (blk_cell BK353.out 2).trans rfl, hx354_0⟩ (fun hHeld => ?_); refine with_tabW cloisterref26_Strikes.tab10 cloisterref26_Strikes.bits10 (fun HT_ HW_ => ?_)
                 generalize w27.drew = w28 at HO_4 BK353 HB GG29 HH29 HL354_0 HR354_0 HX354_0 UU29 hx354_0 hHeld ⊢
                 refine pB_ HT_ 0 33 (bs_ 15 1) ?_
                 refine pB_ HT_ 1 34 (bs_ 15 3) ?_
                 refine pB_ HT_ 2 35 (bs_ 15 7) ?_
                 refine pB_ HT_ 3 36 (bs_ 15 15) ?_
                 refine pB_ HT_ 4 37 (bs_ 15 31) ?_
                 refine pB_ HT_ 5 38 (bs_ 15 63) ?_
                 refine pB_ HT_ 6 39 (bs_ 15 127) ?_
                 refine pB_ HT_ 7 40 (bs_ 15 255) ?_
                 refine pB_ HT_ 8 41 (bs_ 15 511) ?_
                 refine tB_ HT_ HW_ hHeld 9 42 (bs_ 15 1023) ?_
                 refine tB_ HT_ HW_ hHeld 10 43 (bs_ 15 2047) ?_
                 refine oB_ HT_ 11 44 (bs_ 15 4095) (fun K hK => ?_)
                 refine vA_ ?_
                 refine hK.out _ _ ⟨(blk_cell (d3_ BK353.out _) 0).trans rfl, (blk_cell (d3_ BK353.out _) 1).trans rfl, (blk_cell (d3_ BK353.out _) 2).trans rfl, (World.cell?_alloc_lt _ _ _ (World.block_lt_of_cell? _ _ (hHeld.2.2.2))).trans (hHeld.2.2.2)⟩ (fun hHeld => ?_)
                 clear hK K
                 refine nA_ ?_
                 refine oB_ HT_ 12 45 (bs_ 15 8191) (fun K hK => ?_)
                 refine Kd.R_append_step k66 (w0 := w) w.heap.size (by rfl) (.tmp 42) (.tmp 44) 64 66 (.agg #[(.int .i64 0), (.int .i64 0), (.int .u8 0)]) 24 rfl Tryz.underlying64 info66 rfl (by decide) (by omega) (.slice A354_0 (rd_L7 x4_1 (ji18)).length c354_0) (rd_L7 x4_1 (ji18)) (⟨t349, t350, t351⟩ : S66) [.int .i64 t349, .int .i64 t350, .int .u8 t351] (fun k_ => oki29 k_ ∨ ((fun k_ => k_ ≠ gb353)) k_ ∧ w28.heap.size ≤ k_) (fun _ => False) rfl rfl ?aP (fun _ hk => hk.elim) ?aF ?aO ?aB ?aS ?aL ?_
                 (case aP => exact k66_mkM _ _ _ (⟨t349, t350, t351⟩ : S66))
                 (case aB => exact (cb_ HB))
                 (case aF => exact (fun k_ hk => .inr ⟨Kd.freshB (g := gb353) (o := .cells #[.int .i64 t349, .int .i64 t350, .int .u8 t351] 66 (0, 0)) (cd_ BK353) k_ hk, hk⟩))
                 (case aO => exact (by (with_reducible repeat (first | apply r1_ | apply r2_ | apply r3_)); exact Kd.R_mono UU29.out (fun _ hk => .inl hk)))
                 (case aS => exact (below_size (cb_ HB)))
                 (case aL => have := LMc21.out; omega)
                 intro v356 w30 ho hb hg hat
                 (first | have HS3_ := cell_grown hg (hHeld.2.2.2) (by first | (rw [add_block]; exact (fun e_ => ((HL354_0.out.1 _ e_.symm).2) rfl)) | (show some (Addr.add _ _).block ≠ _; rw [add_block]; exact (fun e_ => ((HL354_0.out.1 _ e_.symm).2) rfl)) | exact (fun e_ => ((HL354_0.out.1 _ e_.symm).2) rfl)) | have HS3_ := cell_grown hg (cell_unalloc (hHeld.2.2.2) (by first | (rw [add_block]; exact Kd.S_lt HO_4.out _ rfl) | (show (Addr.add _ _).block < _; rw [add_block]; exact Kd.S_lt HO_4.out _ rfl) | exact Kd.S_lt HO_4.out _ rfl)) (by first | (rw [add_block]; exact (fun e_ => ((HL354_0.out.1 _ e_.symm).2) rfl)) | (show some (Addr.add _ _).block ≠ _; rw [add_block]; exact (fun e_ => ((HL354_0.out.1 _ e_.symm).2) rfl)) | exact (fun e_ => ((HL354_0.out.1 _ e_.symm).2) rfl)))
                 rw [← Ny355.out] at ho
                 replace BK353 := am_ (blk_grown (g := gb353) (o := .cells #[.int .i64 t349, .int .i64 t350, .int .u8 t351] 66 (0, 0)) (cd_ BK353) hg (Kd.R_away HL354_0.out (fun _ hk => hk.1)))
                 replace HB := am_ (hb)
                 replace HH29 := am_ (Kd.H_grown (Kd.H_widen (by repeat (first | exact HH29.out | refine Kd.H_alloc ?_ _ | refine Kd.H_drewN ?_ _ | refine Kd.H_drew ?_))) hg (fun k_ e_ => .inl (UU29.out.1 k_ e_)))
                 have HO357 := am_ (ho)
                 clear HO_4 UU29 HL354_0
                 clear ho hb hg hat
                 have p22 : 0 ≤ ((ji18) : Int) := od_
                 have q22 : ((ji18) : Int) < ((x4_1.length : Int) : Int) := od_
                 replace p22 := eq_true p22
                 replace q22 := eq_true q22
                 obtain ⟨Ao33, co33, eo33⟩ := Kd.R_slice HO357.out
                 (first | subst eo33 | (injection eo33 with f1_ f2_ f3_; have f4_ := f1_.symm; have f5_ := f3_.symm; clear f1_ f2_ f3_; subst f4_; subst f5_))
                 obtain ⟨_, _, hraw31, _, _, hcc31, _⟩ := Kd.H_raw HH29.out (od_) (by have h_ : ((ji18) : Int) < ((x4_1.length : Int) : Int) := od_; first | exact h_ | (have e_ := (HN29.out); omega) | simpa using h_)
                 obtain ⟨_, hfr31⟩ := Kd.H_at HH29.out (od_) (by have h_ : ((ji18) : Int) < ((x4_1.length : Int) : Int) := od_; first | exact h_ | (have e_ := (HN29.out); omega) | simpa using h_)
                 have hx31_0 := hcc31 0 _ rfl
                 have hf31_0 := hfr31 0
                 (try simp only [Nat.add_zero] at hx31_0 hf31_0)
                 (try rw [show ((Kd.slice 66 k66)).sz = 1 from rfl, Nat.mul_one] at hx31_0)
                 (try rw [show ((Kd.slice 66 k66)).sz = 1 from rfl, Nat.mul_one] at hf31_0)
                 have HP31 := Kd.S_seg0 HH29.out (od_) (by have h_ : ((ji18) : Int) < ((x4_1.length : Int) : Int) := od_; first | exact h_ | (have e_ := (HN29.out); omega) | simpa using h_) (seg := [.slice Ao33 y355.length co33]) (j := 0) (show 1 ≤ 1 from by decide) (x' := y355) (Kd.M_row HO357.out) (fun _ hk => hk)
                 (try simp only [show ((Kd.slice 66 k66)).sz = 1 from rfl, Nat.mul_one, Nat.add_zero] at HP31)
                 clear hcc31 hfr31
                 have HNB353_go29 := am_ (show gb353 ≠ go29 from by have h_ := Kd.R_ne hraw31 BK353.out (by decide); intro e_; exact h_ (by rw [e_]; rfl))
                 have HS31 := HP31.1
                 rw [← Ny358.out] at HS31
                 have HQ31 := am_ HS31
                 obtain ⟨_, hgg31⟩ := Kd.R_typed hraw31 go29 rfl
                 have GG31_ := am_ hgg31
                 clear HP31 HS31 hgg31
                 refine hK.out _ _ ⟨(blk_cell BK353.out 0).trans rfl, (blk_cell BK353.out 1).trans rfl, (blk_cell BK353.out 2).trans rfl, HS3_⟩ (fun hHeld => ?_)
                 clear hK K
                 refine nA_ ?_
                 refine pB_ HT_ 13 46 (bs_ 15 16383) ?_
                 refine last_ (i := 14) (N := none) (bs_ 15 32767) rfl rfl (one_of HT_.out (by kernel_rfl)) (by decide) (fun K hK => ?_)
                 refine skip_ (w1 := ?_) (by rfl) rfl ?_ ?_
                 rotate_left
                 · go_simp
                   rfl
                 refine hK.out _ _ ?_
                 clear hK K
                 refine done_ (done_of HT_.out (by kernel_rfl)) ?_
                 try go_wp2
                 go_roundg k1
                 case measure => have := HK1.out; omega
                 case rel => exact ⟨(y358), (wrap64 (x11_1 + 1)), rf_, H', ⟨by have := HK1.out; omega⟩, ⟨by (with_reducible repeat (first | apply Kd.S_alloc | apply Kd.S_drewN | apply Kd.S_drew)); exact Kd.S_mono HQ31.out (fun _ hk => trivial)⟩, ⟨cb_ HB⟩⟩
               rw [if_neg c21] at H
               exact absurd H (by simp)
             rw [if_neg c20] at H
             exact absurd H (by simp)
           rw [if_neg c19] at H
           exact absurd H (by simp)
         replace c12 := Bool.eq_false_iff.mpr c12
         subst c12
         have H1 : (some (([] : List (List (S66))), false)) = some (r1, r2) := by rw [if_neg (show ¬ (false = true) by decide)] at H; exact H
         clear H
         have H := H1
         clear H1
         simp only [Option.some.injEq, Prod.mk.injEq] at H
         obtain ⟨rfl, rfl⟩ := H
         have p342 : 0 ≤ (x11_1 : Int) := od_
         have q342 : x11_1 < (l0.length : Int) := od_
         obtain ⟨ad342, e342, hx342_0⟩ := Kd.at_string HR0.out x11_1 p342 q342
         cases e342
         replace hx342_0 := (HB.out.cell (World.block_lt_of_cell? w _ hx342_0)).trans hx342_0
         replace p342 := eq_true p342
         replace q342 := eq_true q342
         try go_wp2_with (first | ((with_reducible refine gate_callee (f := 72) rfl ?_); refine goesL_ (some 23) rfl rfl Tryz.func72 (by kernel_rfl) rfl #[.string (rdOf ByteArray.empty l0 x11_1)] rfl ha_ ?_; (with_reducible refine (cloisterref26_Fate.calls k1 (rdOf ByteArray.empty l0 x11_1) _ _ _ _ _ A11.out).mono ?_); rintro e w34 ⟨rfl, hb⟩; refine ⟨_, rfl, ?_⟩; replace HO_4 := am_ (Kd.S_below (cs_ HO_4) hb); replace HB := am_ (below_step (cb_ HB) hb); (try clear hb); (try clear hk)) | ((with_reducible refine gate_dst (N := 7) rfl ?_); (try (refine gate_guard (by rfl) ?_; dsimp only)); refine box_event ?hg (N := 7) ?hd (cs := #[.int .i64 0, .int .i64 0, .int .u8 0]) (t := 66) ?hr ?_; (case hd => rfl); (case hg => rfl); (case hr => first | (go_simp; done) | (go_simp; rfl)); intro gb353 hg w35 hbox hb; replace HO_4 := am_ (Kd.S_below (Kd.S_elderB (cs_ HO_4) gb353 (Nat.le_of_eq hg.symm)) hb); have BK353 := am_ (hbox); have GW353 := am_ ((by rw [hg]; exact (below_size (cb_ HB)) : w.heap.size ≤ gb353)); have GE353 := am_ ((by rw [hg]; exact (below_size (cb_ HB)) : w.heap.size ≤ gb353)); replace HB := am_ (below_step (cb_ HB) hb); clear hb hbox hg; have hcz36_0 : w35.cell? ⟨gb353, 0, none⟩ = some (.int .i64 0) := (blk_cell BK353.out 0).trans rfl; have hcz36_1 : w35.cell? ⟨gb353, 1, none⟩ = some (.int .i64 0) := (blk_cell BK353.out 1).trans rfl; have hcz36_2 : w35.cell? ⟨gb353, 2, none⟩ = some (.int .u8 0) := (blk_cell BK353.out 2).trans rfl; have hfz36_0 := blk_frozen BK353.out 0; have hfz36_1 := blk_frozen BK353.out 1; have hfz36_2 := blk_frozen BK353.out 2))
         go_ret2
         exact ⟨_, re_, by first | exact Kd.S_nil _ _ _ _ _ | exact Kd.N_nil _ _ _ _ _ | exact Kd.V_nil _ _ _ _ _ | exact Kd.Q_nil _ _ _ _ _ | exact Kd.R_nil _ _ _ _ _, cb_ HB⟩
       rw [if_neg c4] at H
       exact absurd H (by simp)
     rw [if_neg c3] at H
     exact absurd H (by simp)
   rw [if_neg c2] at H
   have c2b0 := decide_eq_false c2
   clear c2
   simp only [Option.some.injEq, Prod.mk.injEq] at H
   obtain ⟨rfl, rfl⟩ := H
   go_wp2
   go_ret2
   exact ⟨_, re_, by (with_reducible repeat (first | apply Kd.S_alloc | apply Kd.S_drewN | apply Kd.S_drew)); exact HO_4.out, cb_ HB⟩
def cloisterref26_Lines.l0 : Nat → ByteArray → List ByteArray → ByteArray → Int → Option (List ByteArray)
 | 0, _, _, _, _ => none
 | k + 1, x0, x3, x4, x5 => if x5 < (x0.size : Int) then (if 0 ≤ x5 then (if (bt x0 x5) = 10 then (if x3.length < 8796093022208 then (cloisterref26_Lines.l0 k x0 (x3 ++ [x4]) (⟨#[]⟩ : ByteArray) (wrap64 (x5 + 1))) else (none)) else (if 0 ≤ (wrap64 (x5 - (x4.size : Int))) then (if (wrap64 (x5 - (x4.size : Int))) ≤ (wrap64 (x5 + 1)) then (if (wrap64 (x5 + 1)) ≤ (x0.size : Int) then (cloisterref26_Lines.l0 k x0 x3 (x0.extract ((wrap64 (x5 - (x4.size : Int))) : Int).toNat ((wrap64 (x5 + 1)) : Int).toNat) (wrap64 (x5 + 1))) else (none)) else (none)) else (none))) else (none)) else (if x4.toList = ([] : List UInt8) then (some x3) else (if x3.length < 8796093022208 then (some (x3 ++ [x4])) else (none)))
def cloisterref26_Lines.f (k : Nat) (a0 : ByteArray) : Option (List ByteArray) := cloisterref26_Lines.l0 k a0 ([] : List ByteArray) (⟨#[]⟩ : ByteArray) 0
theorem cloisterref26_Lines.calls (k : Nat) (a0 : ByteArray) (r : List ByteArray) (w : World) (h : cloisterref26_Lines.f k a0 = some r) :
 Calls Tryz.prog 40 #[.string a0] w fun e w' => ∃ v0_ : Value, e = .returned (v0_) ∧ Kd.R Kd.string 9 w' w.heap.size (fun _ => True) v0_ r ∧ Below w.heap.size w w' := by
 have HB := am_ (Below.refl w.heap.size w)
 have H : (cloisterref26_Lines.l0 k a0 ([] : List ByteArray) (⟨#[]⟩ : ByteArray) 0) = some r := h
 clear h
 have H' := am_ H
 clear H
 go_enter Tryz.func40, Tryz.ntmps40
 go_wp2
 go_loopg [3, 4, 5] k (fun kq v3 v4 v5 w' => ∃ (x3_1 : List ByteArray) (x4_1 : ByteArray) (x5_1 : Int), v4 = .string x4_1 ∧ v5 = .int .i64 x5_1 ∧ Aside0 (cloisterref26_Lines.l0 kq a0 x3_1 x4_1 x5_1 = some r) ∧ Aside0 (kq ≤ k) ∧ Aside0 (Kd.R Kd.string 9 w' w.heap.size (fun _ => True) v3 x3_1) ∧ Aside0 (Below w.heap.size w w'))
 case atStart => exact ⟨(([] : List ByteArray)), ((⟨#[]⟩ : ByteArray)), (0), rf_, rf_, H', ⟨Nat.le_refl _⟩, ⟨by first | exact Kd.R_nil _ _ _ _ _ | exact Kd.N_nil _ _ _ _ _ | exact Kd.V_nil _ _ _ _ _ | exact Kd.Q_nil _ _ _ _ _ | exact Kd.S_nil _ _ _ _ _⟩, ⟨cb_ HB⟩⟩
 case round =>
  clear H'
  obtain ⟨x3_1, x4_1, x5_1, rfl, rfl, HA, HK1, HO_3, HB⟩ := hrel
  cases gk with
  | zero => exact absurd HA.out (by simp [cloisterref26_Lines.l0])
  | succ k1 =>
   have H := HA.out
   clear HA
   simp only [cloisterref26_Lines.l0] at H
   by_cases c2 : x5_1 < (a0.size : Int)
   · rw [if_pos c2] at H
     have c2b0 := decide_eq_true c2
     clear c2
     by_cases c3 : 0 ≤ x5_1
     · rw [if_pos c3] at H
       have c3b0 := decide_eq_true c3
       clear c3
       by_cases c5 : (bt a0 x5_1) = 10
       · rw [if_pos c5] at H
         have c5b0 := eb_ c5
         have c5b1 := nb_ c5
         clear c5
         by_cases c6 : x3_1.length < 8796093022208
         · rw [if_pos c6] at H
           have LMc6 := am_ c6
           clear c6
           obtain ⟨y296, hy296⟩ : ∃ y_ : List ByteArray, y_ = (x3_1 ++ [x4_1]) := ⟨_, rfl⟩
           replace H : (cloisterref26_Lines.l0 k1 a0 y296 (⟨#[]⟩ : ByteArray) (wrap64 (x5_1 + 1))) = some r := by first | (rw [hy296]; with_reducible exact H) | (have H2_ := (Option.bind_some _ _).symm.trans H; rw [hy296]; with_reducible exact H2_) | (have H2_ := (Option.bind_some _ _).symm.trans H; with_reducible exact H2_) | with_reducible exact H | (rw [hy296]; exact H) | exact H
           have Ny296 := am_ hy296
           clear hy296
           have H' := am_ H
           clear H
           have p4 : 0 ≤ (x5_1 : Int) := od_
           have q4 : x5_1 < (a0.size : Int) := od_
           have hx4 := bt_at a0 x5_1
           replace p4 := eq_true p4
           replace q4 := eq_true q4
           go_wp2_with (first | ((with_reducible refine gate_builtin (b := .append) (xs := #[.tmp 16, .tmp 18]) rfl ?_); at_builtin; refine Kd.R_append Kd.string (w0 := w) w.heap.size rfl (.tmp 16) (.tmp 18) 71 9 (.string ⟨#[]⟩) 16 rfl Tryz.underlying71 info9 rfl (by decide) (by omega) u3 x3_1 x4_1 [.string x4_1] (fun _ => True) (fun _ => False) rfl rfl ?aP (fun _ hk => hk.elim) ?aF ?aO ?aB ?aS ?aL ?_; (case aP => exact rfl); (case aB => exact (cb_ HB)); (case aF => exact (fun _ _ => trivial)); (case aO => exact (cq_ HO_3)); (case aS => exact (below_size (cb_ HB))); (case aL => have := LMc6.out; omega); intro v297 w7 ho hb hg hat; rw [← Ny296.out] at ho; replace HB := am_ (hb); have HO298 := am_ (ho); clear HO_3; clear ho hb hg hat))
           go_roundg k1
           case measure => have := HK1.out; omega
           case rel => exact ⟨(y296), ((⟨#[]⟩ : ByteArray)), (wrap64 (x5_1 + 1)), rf_, rf_, H', ⟨by have := HK1.out; omega⟩, cr_ HO298, ⟨cb_ HB⟩⟩
         rw [if_neg c6] at H
         exact absurd H (by simp)
       rw [if_neg c5] at H
       have c5b0 := ec_ c5
       have c5b1 := nc_ c5
       obtain ⟨ji8, hji8⟩ : ∃ j_ : Int, (wrap64 (x5_1 - (x4_1.size : Int))) = j_ := ⟨_, rfl⟩
       replace H : (if 0 ≤ (ji8) then (if (ji8) ≤ (wrap64 (x5_1 + 1)) then (if (wrap64 (x5_1 + 1)) ≤ (a0.size : Int) then (cloisterref26_Lines.l0 k1 a0 x3_1 (a0.extract ((ji8) : Int).toNat ((wrap64 (x5_1 + 1)) : Int).toNat) (wrap64 (x5_1 + 1))) else (none)) else (none)) else (none)) = some r := by first | (rw [hji8] at H; exact H) | (simp only [hji8] at H ⊢; exact H)
       have hji8w : (IntKind.i64.wrap (x5_1 - (x4_1.size : Int))) = ji8 := (i64_w _).trans hji8
       by_cases c9 : 0 ≤ (ji8)
       · rw [if_pos c9] at H
         have c9b0 := eq_true c9
         have c9b1 := decide_eq_true c9
         clear c9
         by_cases c10 : (ji8) ≤ (wrap64 (x5_1 + 1))
         · rw [if_pos c10] at H
           have c10b0 := eq_true c10
           have c10b1 := decide_eq_true c10
           by_cases c11 : (wrap64 (x5_1 + 1)) ≤ (a0.size : Int)
           · rw [if_pos c11] at H
             have c11b0 := eq_true c11
             have c11b1 := decide_eq_true c11
             have H' := am_ H
             clear H
             have p4 : 0 ≤ (x5_1 : Int) := od_
             have q4 : x5_1 < (a0.size : Int) := od_
             have hx4 := bt_at a0 x5_1
             replace p4 := eq_true p4
             replace q4 := eq_true q4
             go_wp2
             go_roundg k1
             case measure => have := HK1.out; omega
             case rel => exact ⟨(x3_1), (a0.extract ((ji8) : Int).toNat ((wrap64 (x5_1 + 1)) : Int).toNat), (wrap64 (x5_1 + 1)), (by first | rfl | (simp; done) | (simp only [← hji8] <;> (first | rfl | simp)) | (simp [*]; done)), rf_, H', ⟨by have := HK1.out; omega⟩, cr_ HO_3, ⟨cb_ HB⟩⟩
           rw [if_neg c11] at H
           exact absurd H (by simp)
         rw [if_neg c10] at H
         exact absurd H (by simp)
       rw [if_neg c9] at H
       exact absurd H (by simp)
     rw [if_neg c3] at H
     exact absurd H (by simp)
   rw [if_neg c2] at H
   have c2b0 := decide_eq_false c2
   clear c2
   by_cases c12 : x4_1.toList = ([] : List UInt8)
   · rw [if_pos c12] at H
     have c12b0 := eb_ c12
     have c12b1 := nb_ c12
     clear c12
     obtain rfl := Option.some.inj H
     go_wp2
     go_ret
     exact ⟨_, re_, by (with_reducible repeat (first | apply r1_ | apply r2_ | apply r3_)); exact HO_3.out, cb_ HB⟩
   rw [if_neg c12] at H
   have c12b0 := ec_ c12
   have c12b1 := nc_ c12
   by_cases c13 : x3_1.length < 8796093022208
   · rw [if_pos c13] at H
     have LMc13 := am_ c13
     clear c13
     obtain ⟨y299, hy299⟩ : ∃ y_ : List ByteArray, y_ = (x3_1 ++ [x4_1]) := ⟨_, rfl⟩
     replace H : (some y299) = some r := by first | (rw [hy299]; with_reducible exact H) | (have H2_ := (Option.bind_some _ _).symm.trans H; rw [hy299]; with_reducible exact H2_) | (have H2_ := (Option.bind_some _ _).symm.trans H; with_reducible exact H2_) | with_reducible exact H | (rw [hy299]; exact H) | exact H
     have Ny299 := am_ hy299
     clear hy299
     obtain rfl := Option.some.inj H
     go_wp2_with (first | ((with_reducible refine gate_builtin (b := .append) (xs := #[.tmp 30, .tmp 32]) rfl ?_); at_builtin; refine Kd.R_append Kd.string (w0 := w) w.heap.size rfl (.tmp 30) (.tmp 32) 71 9 (.string ⟨#[]⟩) 16 rfl Tryz.underlying71 info9 rfl (by decide) (by omega) u3 x3_1 x4_1 [.string x4_1] (fun _ => True) (fun _ => False) rfl rfl ?aP (fun _ hk => hk.elim) ?aF ?aO ?aB ?aS ?aL ?_; (case aP => exact rfl); (case aB => exact (cb_ HB)); (case aF => exact (fun _ _ => trivial)); (case aO => exact (cq_ HO_3)); (case aS => exact (below_size (cb_ HB))); (case aL => have := LMc13.out; omega); intro v300 w14 ho hb hg hat; rw [← Ny299.out] at ho; replace HB := am_ (hb); have HO301 := am_ (ho); clear HO_3; clear ho hb hg hat))
     go_ret
     exact ⟨_, re_, by (with_reducible repeat (first | apply r1_ | apply r2_ | apply r3_)); exact HO301.out, cb_ HB⟩
   rw [if_neg c13] at H
   exact absurd H (by simp)
mutual
def cloisterref26_Words.l0 : Nat → ByteArray → List ByteArray → Int → Int → Option (List ByteArray)
 | 0, _, _, _, _ => none
 | k + 1, x0, x3, x4, x5 => if x5 ≤ (x0.size : Int) then (if x5 = (x0.size : Int) then (cloisterref26_Words.j1 k x0 x3 x4 x5 true) else (if 0 ≤ x5 then (if x5 < (x0.size : Int) then (cloisterref26_Words.j1 k x0 x3 x4 x5 ((bt x0 x5) == 32)) else (none)) else (none))) else (some x3)
def cloisterref26_Words.j1 : Nat → ByteArray → List ByteArray → Int → Int → Bool → Option (List ByteArray)
 | 0, _, _, _, _, _ => none
 | k + 1, x0, x3, x4, x5, x21 => if x21 = true then (if x5 > x4 then (if 0 ≤ x4 then (if x4 ≤ x5 then (if x5 ≤ (x0.size : Int) then (if x3.length < 8796093022208 then (cloisterref26_Words.l0 k x0 (x3 ++ [x0.extract (x4 : Int).toNat (x5 : Int).toNat]) (wrap64 (x5 + 1)) (wrap64 (x5 + 1))) else (none)) else (none)) else (none)) else (none)) else (cloisterref26_Words.l0 k x0 x3 (wrap64 (x5 + 1)) (wrap64 (x5 + 1)))) else (cloisterref26_Words.l0 k x0 x3 x4 (wrap64 (x5 + 1)))
end
def cloisterref26_Words.f (k : Nat) (a0 : ByteArray) : Option (List ByteArray) := cloisterref26_Words.l0 k a0 ([] : List ByteArray) 0 0
theorem cloisterref26_Words.calls (k : Nat) (a0 : ByteArray) (r : List ByteArray) (w : World) (h : cloisterref26_Words.f k a0 = some r) :
 Calls Tryz.prog 41 #[.string a0] w fun e w' => ∃ v0_ : Value, e = .returned (v0_) ∧ Kd.R Kd.string 9 w' w.heap.size (fun _ => True) v0_ r ∧ Below w.heap.size w w' := by
 have HB := am_ (Below.refl w.heap.size w)
 have H : (cloisterref26_Words.l0 k a0 ([] : List ByteArray) 0 0) = some r := h
 clear h
 have H' := am_ H
 clear H
 go_enter Tryz.func41, Tryz.ntmps41
 go_wp2
 go_loopg [3, 4, 5] k (fun kq v3 v4 v5 w' => ∃ (x3_1 : List ByteArray) (x4_1 : Int) (x5_1 : Int), v4 = .int .i64 x4_1 ∧ v5 = .int .i64 x5_1 ∧ Aside0 (cloisterref26_Words.l0 kq a0 x3_1 x4_1 x5_1 = some r) ∧ Aside0 (kq ≤ k) ∧ Aside0 (Kd.R Kd.string 9 w' w.heap.size (fun _ => True) v3 x3_1) ∧ Aside0 (Below w.heap.size w w'))
 case atStart => exact ⟨(([] : List ByteArray)), (0), (0), rf_, rf_, H', ⟨Nat.le_refl _⟩, ⟨by first | exact Kd.R_nil _ _ _ _ _ | exact Kd.N_nil _ _ _ _ _ | exact Kd.V_nil _ _ _ _ _ | exact Kd.Q_nil _ _ _ _ _ | exact Kd.S_nil _ _ _ _ _⟩, ⟨cb_ HB⟩⟩
 case round =>
  clear H'
  obtain ⟨x3_1, x4_1, x5_1, rfl, rfl, HA, HK1, HO_3, HB⟩ := hrel
  cases gk with
  | zero => exact absurd HA.out (by simp [cloisterref26_Words.l0])
  | succ k1 =>
   have H := HA.out
   clear HA
   simp only [cloisterref26_Words.l0] at H
   by_cases c2 : x5_1 ≤ (a0.size : Int)
   · rw [if_pos c2] at H
     have c2b0 := decide_eq_true c2
     clear c2
     have HC3 := am_ H
     clear H
     go_upto_region 6 with (fail)
     go_cut [21] (fun v21 wc => ∃ (kq : Nat) (x21_2 : Bool), v21 = .bool x21_2 ∧ Aside0 (cloisterref26_Words.j1 kq a0 x3_1 x4_1 x5_1 x21_2 = some r) ∧ Aside0 (kq ≤ k1) ∧ Aside0 (Kd.R Kd.string 9 wc w.heap.size (fun _ => True) u3 x3_1) ∧ Aside0 (Below w.heap.size w wc))
     case first =>
      have H := HC3.out
      clear HC3
      by_cases c4 : x5_1 = (a0.size : Int)
      · rw [if_pos c4] at H
        have c4b0 := eb_ c4
        have c4b1 := nb_ c4
        clear c4
        (first | rw [c4b0] | rw [c4b1] | rw [c4b2] | (simp only [i64_w, i32_w]; rw [c4b0]) | (simp only [i64_w, i32_w]; rw [c4b1]) | skip)
        have H' := am_ H
        clear H
        go_wp2
        go_meet
        case rel => exact ⟨_, (true), rf_, H', ⟨by have := HK1.out; first | omega | exact Nat.le_refl _⟩, cr_ HO_3, ⟨cb_ HB⟩⟩
      rw [if_neg c4] at H
      have c4b0 := ec_ c4
      have c4b1 := nc_ c4
      (first | rw [c4b0] | rw [c4b1] | rw [c4b2] | (simp only [i64_w, i32_w]; rw [c4b0]) | (simp only [i64_w, i32_w]; rw [c4b1]) | skip)
      by_cases c5 : 0 ≤ x5_1
      · rw [if_pos c5] at H
        have c5b0 := decide_eq_true c5
        clear c5
        by_cases c6 : x5_1 < (a0.size : Int)
        · rw [if_pos c6] at H
          have c6b0 := decide_eq_true c6
          clear c6
          have H' := am_ H
          clear H
          have p7 : 0 ≤ (x5_1 : Int) := od_
          have q7 : x5_1 < (a0.size : Int) := od_
          have hx7 := bt_at a0 x5_1
          replace p7 := eq_true p7
          replace q7 := eq_true q7
          go_wp2
          go_meet
          case rel => exact ⟨_, (((bt a0 x5_1) == 32)), rf_, H', ⟨by have := HK1.out; first | omega | exact Nat.le_refl _⟩, cr_ HO_3, ⟨cb_ HB⟩⟩
        rw [if_neg c6] at H
        exact absurd H (by simp)
      rw [if_neg c5] at H
      exact absurd H (by simp)
     case rest =>
      clear HC3
      try clear c2
      try clear c2b0
      try clear p2
      try clear c4
      try clear c4b0
      try clear c4b1
      try clear c4b2
      try clear c5
      try clear c5b0
      try clear c6
      try clear c6b0
      try clear p7
      try clear q7
      try clear hx7
      try clear p7
      try clear q7
      obtain ⟨kq, x21_2, rfl, HA, HJ2, HO_3, HB⟩ := hcut
      cases kq with
      | zero => exact absurd HA.out (by simp [cloisterref26_Words.j1])
      | succ kj2 =>
       have H := HA.out
       clear HA
       simp only [cloisterref26_Words.j1] at H
       by_cases c8 : x21_2 = true
       · subst c8
         have H1 : (if x5_1 > x4_1 then (if 0 ≤ x4_1 then (if x4_1 ≤ x5_1 then (if x5_1 ≤ (a0.size : Int) then (if x3_1.length < 8796093022208 then (cloisterref26_Words.l0 kj2 a0 (x3_1 ++ [a0.extract (x4_1 : Int).toNat (x5_1 : Int).toNat]) (wrap64 (x5_1 + 1)) (wrap64 (x5_1 + 1))) else (none)) else (none)) else (none)) else (none)) else (cloisterref26_Words.l0 kj2 a0 x3_1 (wrap64 (x5_1 + 1)) (wrap64 (x5_1 + 1)))) = some r := by rw [if_pos rfl] at H; exact H
         clear H
         have H := H1
         clear H1
         by_cases c9 : x5_1 > x4_1
         · rw [if_pos c9] at H
           have c9b0 : decide (x4_1 < x5_1) = true := decide_eq_true c9
           clear c9
           by_cases c10 : 0 ≤ x4_1
           · rw [if_pos c10] at H
             have c10b0 := eq_true c10
             have c10b1 := decide_eq_true c10
             clear c10
             by_cases c11 : x4_1 ≤ x5_1
             · rw [if_pos c11] at H
               have c11b0 := eq_true c11
               have c11b1 := decide_eq_true c11
               clear c11
               by_cases c12 : x5_1 ≤ (a0.size : Int)
               · rw [if_pos c12] at H
                 have c12b0 := eq_true c12
                 have c12b1 := decide_eq_true c12
                 clear c12
                 by_cases c13 : x3_1.length < 8796093022208
                 · rw [if_pos c13] at H
                   have LMc13 := am_ c13
                   clear c13
                   obtain ⟨y302, hy302⟩ : ∃ y_ : List ByteArray, y_ = (x3_1 ++ [a0.extract (x4_1 : Int).toNat (x5_1 : Int).toNat]) := ⟨_, rfl⟩
                   replace H : (cloisterref26_Words.l0 kj2 a0 y302 (wrap64 (x5_1 + 1)) (wrap64 (x5_1 + 1))) = some r := by first | (rw [hy302]; with_reducible exact H) | (have H2_ := (Option.bind_some _ _).symm.trans H; rw [hy302]; with_reducible exact H2_) | (have H2_ := (Option.bind_some _ _).symm.trans H; with_reducible exact H2_) | with_reducible exact H | (rw [hy302]; exact H) | exact H
                   have Ny302 := am_ hy302
                   clear hy302
                   have H' := am_ H
                   clear H
                   go_wp2_with (first | ((with_reducible refine gate_builtin (b := .append) (xs := #[.tmp 25, .tmp 30]) rfl ?_); at_builtin; refine Kd.R_append Kd.string (w0 := w) w.heap.size rfl (.tmp 25) (.tmp 30) 71 9 (.string ⟨#[]⟩) 16 rfl Tryz.underlying71 info9 rfl (by decide) (by omega) u3 x3_1 (a0.extract (x4_1 : Int).toNat (x5_1 : Int).toNat) [.string (a0.extract (x4_1 : Int).toNat (x5_1 : Int).toNat)] (fun _ => True) (fun _ => False) rfl rfl ?aP (fun _ hk => hk.elim) ?aF ?aO ?aB ?aS ?aL ?_; (case aP => exact rfl); (case aB => exact (cb_ HB)); (case aF => exact (fun _ _ => trivial)); (case aO => exact (cq_ HO_3)); (case aS => exact (below_size (cb_ HB))); (case aL => have := LMc13.out; omega); intro v303 w14 ho hb hg hat; rw [← Ny302.out] at ho; replace HB := am_ (hb); have HO304 := am_ (ho); clear HO_3; clear ho hb hg hat))
                   go_roundg kj2
                   case measure => have := HK1.out; have := HJ2.out; omega
                   case rel => exact ⟨(y302), (wrap64 (x5_1 + 1)), (wrap64 (x5_1 + 1)), rf_, rf_, H', ⟨by have := HK1.out; have := HJ2.out; omega⟩, cr_ HO304, ⟨cb_ HB⟩⟩
                 rw [if_neg c13] at H
                 exact absurd H (by simp)
               rw [if_neg c12] at H
               exact absurd H (by simp)
             rw [if_neg c11] at H
             exact absurd H (by simp)
           rw [if_neg c10] at H
           exact absurd H (by simp)
         rw [if_neg c9] at H
         have c9b0 : decide (x4_1 < x5_1) = false := decide_eq_false c9
         clear c9
         have H' := am_ H
         clear H
         go_wp2
         go_roundg kj2
         case measure => have := HK1.out; have := HJ2.out; omega
         case rel => exact ⟨(x3_1), (wrap64 (x5_1 + 1)), (wrap64 (x5_1 + 1)), rf_, rf_, H', ⟨by have := HK1.out; have := HJ2.out; omega⟩, cr_ HO_3, ⟨cb_ HB⟩⟩
       replace c8 := Bool.eq_false_iff.mpr c8
       subst c8
       have H1 : (cloisterref26_Words.l0 kj2 a0 x3_1 x4_1 (wrap64 (x5_1 + 1))) = some r := by rw [if_neg (show ¬ (false = true) by decide)] at H; exact H
       clear H
       have H := H1
       clear H1
       have H' := am_ H
       clear H
       go_wp2
       go_roundg kj2
       case measure => have := HK1.out; have := HJ2.out; omega
       case rel => exact ⟨(x3_1), (x4_1), (wrap64 (x5_1 + 1)), rf_, rf_, H', ⟨by have := HK1.out; have := HJ2.out; omega⟩, cr_ HO_3, ⟨cb_ HB⟩⟩
   rw [if_neg c2] at H
   have c2b0 := decide_eq_false c2
   clear c2
   obtain rfl := Option.some.inj H
   go_wp2
   go_ret
   exact ⟨_, re_, by (with_reducible repeat (first | apply r1_ | apply r2_ | apply r3_)); exact HO_3.out, cb_ HB⟩
def cloisterref26_kind.l0 : Nat → ByteArray → List ByteArray → Int → Int → Option (Int)
 | 0, _, _, _, _ => none
 | k + 1, x0, x5, x6, x7 => if x7 < x6 then (if 0 ≤ x7 then (if x7 < (x5.length : Int) then (if (rdOf ByteArray.empty x5 x7).toList = x0.toList then (some (wrap64 (x7 + 1))) else (cloisterref26_kind.l0 k x0 x5 x6 (wrap64 (x7 + 1)))) else (none)) else (none)) else (some 0)
def cloisterref26_kind.f (k : Nat) (a0 : ByteArray) : Option (Int) := (some (([(⟨#[98, 101, 103, 105, 110]⟩ : ByteArray), (⟨#[103, 101, 116]⟩ : ByteArray), (⟨#[115, 99, 97, 110]⟩ : ByteArray), (⟨#[112, 117, 116]⟩ : ByteArray), (⟨#[100, 101, 108, 101, 116, 101]⟩ : ByteArray), (⟨#[99, 111, 109, 109, 105, 116]⟩ : ByteArray), (⟨#[97, 98, 111, 114, 116]⟩ : ByteArray)] : List ByteArray) : List ByteArray)).bind fun y305 => (cloisterref26_kind.l0 k a0 y305 (y305.length : Int) 0)
theorem cloisterref26_kind.calls (k : Nat) (a0 : ByteArray) (r : Int) (w : World) (h : cloisterref26_kind.f k a0 = some r) :
 Calls Tryz.prog 69 #[.string a0] w fun e w' => e = .returned (.int .i64 r) ∧ Below w.heap.size w w' := by
 have HB := am_ (Below.refl w.heap.size w)
 have H : ((some (([(⟨#[98, 101, 103, 105, 110]⟩ : ByteArray), (⟨#[103, 101, 116]⟩ : ByteArray), (⟨#[115, 99, 97, 110]⟩ : ByteArray), (⟨#[112, 117, 116]⟩ : ByteArray), (⟨#[100, 101, 108, 101, 116, 101]⟩ : ByteArray), (⟨#[99, 111, 109, 109, 105, 116]⟩ : ByteArray), (⟨#[97, 98, 111, 114, 116]⟩ : ByteArray)] : List ByteArray) : List ByteArray)).bind fun y305 => (cloisterref26_kind.l0 k a0 y305 (y305.length : Int) 0)) = some r := h
 clear h
 obtain ⟨y305, hy305⟩ : ∃ y_ : List ByteArray, y_ = (([(⟨#[98, 101, 103, 105, 110]⟩ : ByteArray), (⟨#[103, 101, 116]⟩ : ByteArray), (⟨#[115, 99, 97, 110]⟩ : ByteArray), (⟨#[112, 117, 116]⟩ : ByteArray), (⟨#[100, 101, 108, 101, 116, 101]⟩ : ByteArray), (⟨#[99, 111, 109, 109, 105, 116]⟩ : ByteArray), (⟨#[97, 98, 111, 114, 116]⟩ : ByteArray)] : List ByteArray)) := ⟨_, rfl⟩
 replace H : (cloisterref26_kind.l0 k a0 y305 (y305.length : Int) 0) = some r := by first | (rw [hy305]; with_reducible exact H) | (have H2_ := (Option.bind_some _ _).symm.trans H; rw [hy305]; with_reducible exact H2_) | (have H2_ := (Option.bind_some _ _).symm.trans H; with_reducible exact H2_) | with_reducible exact H | (rw [hy305]; exact H) | exact H
 have Ny305 := am_ hy305
 clear hy305
 have H' := am_ H
 clear H
 go_enter Tryz.func69, Tryz.ntmps69
 try go_wp2_with (first | ((with_reducible refine gate_dst (N := 5) rfl ?_); refine Kd.R_lit Kd.string _ 9 ?hg (N := 5) ?hd (xs := ([(⟨#[98, 101, 103, 105, 110]⟩ : ByteArray), (⟨#[103, 101, 116]⟩ : ByteArray), (⟨#[115, 99, 97, 110]⟩ : ByteArray), (⟨#[112, 117, 116]⟩ : ByteArray), (⟨#[100, 101, 108, 101, 116, 101]⟩ : ByteArray), (⟨#[99, 111, 109, 109, 105, 116]⟩ : ByteArray), (⟨#[97, 98, 111, 114, 116]⟩ : ByteArray)] : List ByteArray)) (inner := [.string (⟨#[98, 101, 103, 105, 110]⟩ : ByteArray), .string (⟨#[103, 101, 116]⟩ : ByteArray), .string (⟨#[115, 99, 97, 110]⟩ : ByteArray), .string (⟨#[112, 117, 116]⟩ : ByteArray), .string (⟨#[100, 101, 108, 101, 116, 101]⟩ : ByteArray), .string (⟨#[99, 111, 109, 109, 105, 116]⟩ : ByteArray), .string (⟨#[97, 98, 111, 114, 116]⟩ : ByteArray)]) (ok := fun _ => True) (okp := fun _ => True) ?hr ?hp (fun _ hk => hk) trivial (Below.refl _ _) (Nat.le_refl _) (by simp) ?_; (case hd => rfl); (case hg => rfl); (case hr => first | (go_simp; done) | (go_simp; rfl)); (case hp => exact (Reps.one (show Kd.M Kd.string _ _ _ (⟨#[98, 101, 103, 105, 110]⟩ : ByteArray) [.string (⟨#[98, 101, 103, 105, 110]⟩ : ByteArray)] from rfl) (Reps.one (show Kd.M Kd.string _ _ _ (⟨#[103, 101, 116]⟩ : ByteArray) [.string (⟨#[103, 101, 116]⟩ : ByteArray)] from rfl) (Reps.one (show Kd.M Kd.string _ _ _ (⟨#[115, 99, 97, 110]⟩ : ByteArray) [.string (⟨#[115, 99, 97, 110]⟩ : ByteArray)] from rfl) (Reps.one (show Kd.M Kd.string _ _ _ (⟨#[112, 117, 116]⟩ : ByteArray) [.string (⟨#[112, 117, 116]⟩ : ByteArray)] from rfl) (Reps.one (show Kd.M Kd.string _ _ _ (⟨#[100, 101, 108, 101, 116, 101]⟩ : ByteArray) [.string (⟨#[100, 101, 108, 101, 116, 101]⟩ : ByteArray)] from rfl) (Reps.one (show Kd.M Kd.string _ _ _ (⟨#[99, 111, 109, 109, 105, 116]⟩ : ByteArray) [.string (⟨#[99, 111, 109, 109, 105, 116]⟩ : ByteArray)] from rfl) (Reps.one (show Kd.M Kd.string _ _ _ (⟨#[97, 98, 111, 114, 116]⟩ : ByteArray) [.string (⟨#[97, 98, 111, 114, 116]⟩ : ByteArray)] from rfl) (Reps.none _ _))))))))); intro v306 w2 ho3 hb hg_ hnew_; clear hg_ hnew_; (first | rw [← Ny305.out] at ho3 | (simp only [Int.reduceToNat] at ho3; rw [← Ny305.out] at ho3)); have HO307 := am_ (Kd.R_lower ho3 (below_size (cb_ HB))); replace HB := am_ (below_step (cb_ HB) hb); clear hb ho3; obtain ⟨Ao4, co4, eo4⟩ := Kd.R_slice HO307.out; subst eo4))
 go_loopg [7] k (fun kq v7 w' => ∃ (x7_1 : Int), v7 = .int .i64 x7_1 ∧ Aside0 (cloisterref26_kind.l0 kq a0 y305 (y305.length : Int) x7_1 = some r) ∧ Aside0 (kq ≤ k) ∧ Aside0 (Kd.R Kd.string 9 w' w.heap.size (fun _ => True) (.slice Ao4 y305.length co4) y305) ∧ Aside0 (Below w.heap.size w w'))
 case atStart => exact ⟨(0), rf_, H', ⟨Nat.le_refl _⟩, cr_ HO307, ⟨cb_ HB⟩⟩
 case round =>
  clear H'
  try clear p2
  obtain ⟨x7_1, rfl, HA, HK1, HO_5, HB⟩ := hrel
  cases gk with
  | zero => exact absurd HA.out (by simp [cloisterref26_kind.l0])
  | succ k1 =>
   have H := HA.out
   clear HA
   simp only [cloisterref26_kind.l0] at H
   by_cases c5 : x7_1 < (y305.length : Int)
   · rw [if_pos c5] at H
     have c5b0 := decide_eq_true c5
     clear c5
     by_cases c6 : 0 ≤ x7_1
     · rw [if_pos c6] at H
       have c6b0 := decide_eq_true c6
       clear c6
       by_cases c7 : x7_1 < (y305.length : Int)
       · rw [if_pos c7] at H
         have c7b0 := decide_eq_true c7
         clear c7
         by_cases c8 : (rdOf ByteArray.empty y305 x7_1).toList = a0.toList
         · rw [if_pos c8] at H
           have c8b0 := eb_ c8
           have c8b1 := nb_ c8
           clear c8
           obtain rfl := Option.some.inj H
           have p308 : 0 ≤ (x7_1 : Int) := od_
           have q308 : x7_1 < (y305.length : Int) := od_
           obtain ⟨ad308, e308, hx308_0⟩ := Kd.at_string (Kd.R_reads' HO_5.out).2.2 x7_1 p308 q308
           cases e308
           replace p308 := eq_true p308
           replace q308 := eq_true q308
           go_wp2
           go_ret
           exact ⟨re_, cb_ HB⟩
         rw [if_neg c8] at H
         have c8b0 := ec_ c8
         have c8b1 := nc_ c8
         have H' := am_ H
         clear H
         have p308 : 0 ≤ (x7_1 : Int) := od_
         have q308 : x7_1 < (y305.length : Int) := od_
         obtain ⟨ad308, e308, hx308_0⟩ := Kd.at_string (Kd.R_reads' HO_5.out).2.2 x7_1 p308 q308
         cases e308
         replace p308 := eq_true p308
         replace q308 := eq_true q308
         go_wp2
         go_roundg k1
         case measure => have := HK1.out; omega
         case rel => exact ⟨(wrap64 (x7_1 + 1)), rf_, H', ⟨by have := HK1.out; omega⟩, cr_ HO_5, ⟨cb_ HB⟩⟩
       rw [if_neg c7] at H
       exact absurd H (by simp)
     rw [if_neg c6] at H
     exact absurd H (by simp)
   rw [if_neg c5] at H
   have c5b0 := decide_eq_false c5
   clear c5
   obtain rfl := Option.some.inj H
   go_wp2
   go_ret
   exact ⟨re_, cb_ HB⟩
mutual
def cloisterref26_count.j0 : Nat → List ByteArray → ByteArray → Bool → Option (Int × Bool × Bool)
 | 0, _, _, _ => none
 | k + 1, x0, x7, x8 => if x8 = true then (some (2, false, true)) else (if x7.toList = ([97, 99, 99, 111, 117, 110, 116] : List UInt8) then (some (6, false, true)) else (if x7.toList = ([116, 105, 99, 107] : List UInt8) then (cloisterref26_count.j1 k x0 x7 (x7.toList == ([116, 105, 99, 107] : List UInt8))) else (cloisterref26_count.j1 k x0 x7 (x7.toList == ([105, 100, 108, 101] : List UInt8)))))
def cloisterref26_count.j1 : Nat → List ByteArray → ByteArray → Bool → Option (Int × Bool × Bool)
 | 0, _, _, _ => none
 | k + 1, x0, x7, x13 => if x13 = true then (some (1, true, true)) else (if x7.toList = ([118, 97, 99, 117, 117, 109] : List UInt8) then (cloisterref26_count.j2 k x0 x7 (x7.toList == ([118, 97, 99, 117, 117, 109] : List UInt8))) else (cloisterref26_count.j2 k x0 x7 (x7.toList == ([99, 104, 101, 99, 107, 112, 111, 105, 110, 116] : List UInt8))))
def cloisterref26_count.j2 : Nat → List ByteArray → ByteArray → Bool → Option (Int × Bool × Bool)
 | 0, _, _, _ => none
 | k + 1, x0, x7, x16 => if x16 = true then (some (2, true, true)) else (if x7.toList = ([97, 115, 107] : List UInt8) then (if (x0.length : Int) < 3 then (some (0, false, false)) else (if 2 < (x0.length : Int) then ((cloisterref26_kind.f k (rdOf ByteArray.empty x0 2)).bind fun t311 => (if t311 = 0 then (some (0, false, false)) else ((some (([3, 7, 9, 8, 7, 5, 5] : List Int) : List Int)).bind fun y312 => ((cloisterref26_kind.f k (rdOf ByteArray.empty x0 2)).bind fun t316 => (if 0 ≤ (wrap64 (t316 - 1)) then (if (wrap64 (t316 - 1)) < (y312.length : Int) then (some (rd y312 (wrap64 (t316 - 1)), false, true)) else (none)) else (none)))))) else (none))) else (some (0, false, false)))
end
def cloisterref26_count.f (k : Nat) (l0 : List ByteArray) : Option (Int × Bool × Bool) := if 0 < (l0.length : Int) then (if (rdOf ByteArray.empty l0 0).toList = ([108, 97, 98, 101, 108] : List UInt8) then (cloisterref26_count.j0 k l0 (rdOf ByteArray.empty l0 0) ((rdOf ByteArray.empty l0 0).toList == ([108, 97, 98, 101, 108] : List UInt8))) else (cloisterref26_count.j0 k l0 (rdOf ByteArray.empty l0 0) ((rdOf ByteArray.empty l0 0).toList == ([115, 101, 115, 115, 105, 111, 110] : List UInt8)))) else (none)
theorem cloisterref26_count.calls (k : Nat) (A0 : Option Addr) (c0 : Nat) (l0 : List ByteArray) (r1 : Int) (r2 : Bool) (r3 : Bool) (w : World) (hr0 : Kd.C Kd.string w A0 l0.length l0) (hc0 : l0.length ≤ c0) (h : cloisterref26_count.f k l0 = some (r1, r2, r3)) :
 Calls Tryz.prog 42 #[.slice A0 l0.length c0] w fun e w' => e = .returned (.tuple #[.int .i64 r1, .bool r2, .bool r3]) ∧ Below w.heap.size w w' := by
 have HR0 := am_ hr0
 have HC0 := am_ hc0
 clear hr0 hc0
 have HB := am_ (Below.refl w.heap.size w)
 have H : (if 0 < (l0.length : Int) then (if (rdOf ByteArray.empty l0 0).toList = ([108, 97, 98, 101, 108] : List UInt8) then (cloisterref26_count.j0 k l0 (rdOf ByteArray.empty l0 0) ((rdOf ByteArray.empty l0 0).toList == ([108, 97, 98, 101, 108] : List UInt8))) else (cloisterref26_count.j0 k l0 (rdOf ByteArray.empty l0 0) ((rdOf ByteArray.empty l0 0).toList == ([115, 101, 115, 115, 105, 111, 110] : List UInt8)))) else (none)) = some (r1, r2, r3) := h
 clear h
 by_cases c2 : 0 < (l0.length : Int)
 · rw [if_pos c2] at H
   have c2b0 := decide_eq_true c2
   have c2b1 : decide (0 < l0.length) = true := decide_eq_true (by omega)
   clear c2
   have HC3 := am_ H
   clear H
   have p309 : 0 ≤ (0 : Int) := (by omega)
   have q309 : 0 < (l0.length : Int) := od_
   obtain ⟨ad309, e309, hx309_0⟩ := Kd.at_string HR0.out 0 p309 q309
   cases e309
   have qi309 : (0 < l0.length) = True := eq_true (by omega)
   (try rw [show ((0 : Int)).toNat = 0 from rfl] at hx309_0)
   (try rw [Addr.add_zero'] at hx309_0)
   replace p309 := eq_true p309
   replace q309 := eq_true q309
   go_enter Tryz.func42, Tryz.ntmps42
   go_upto_if 8 with (fail)
   go_cut [8] (fun v8 wc => ∃ (kq : Nat) (x8_2 : Bool), v8 = .bool x8_2 ∧ Aside0 (cloisterref26_count.j0 kq l0 (rdOf ByteArray.empty l0 0) x8_2 = some (r1, r2, r3)) ∧ Aside0 (kq ≤ k) ∧ Aside0 (Below w.heap.size w wc))
   case first =>
    have H := HC3.out
    clear HC3
    by_cases c4 : (rdOf ByteArray.empty l0 0).toList = ([108, 97, 98, 101, 108] : List UInt8)
    · rw [if_pos c4] at H
      have c4b0 := eb_ c4
      have c4b1 := nb_ c4
      clear c4
      (first | rw [c4b0] | rw [c4b1] | rw [c4b2] | (simp only [i64_w, i32_w]; rw [c4b0]) | (simp only [i64_w, i32_w]; rw [c4b1]) | skip)
      have H' := am_ H
      clear H
      go_wp2
      go_meet
      case rel => exact ⟨_, (((rdOf ByteArray.empty l0 0).toList == ([108, 97, 98, 101, 108] : List UInt8))), rf_, H', ⟨by first | omega | exact Nat.le_refl _⟩, ⟨cb_ HB⟩⟩
    rw [if_neg c4] at H
    have c4b0 := ec_ c4
    have c4b1 := nc_ c4
    (first | rw [c4b0] | rw [c4b1] | rw [c4b2] | (simp only [i64_w, i32_w]; rw [c4b0]) | (simp only [i64_w, i32_w]; rw [c4b1]) | skip)
    have H' := am_ H
    clear H
    go_wp2
    go_meet
    case rel => exact ⟨_, (((rdOf ByteArray.empty l0 0).toList == ([115, 101, 115, 115, 105, 111, 110] : List UInt8))), rf_, H', ⟨by first | omega | exact Nat.le_refl _⟩, ⟨cb_ HB⟩⟩
   case rest =>
    clear HC3
    try clear c2
    try clear c2b0
    try clear c2b1
    try clear p2
    try clear p3
    try clear q3
    try clear hx3
    try clear qi3
    try clear c4
    try clear c4b0
    try clear c4b1
    try clear c4b2
    try clear hx309_0
    try clear p309
    try clear q309
    obtain ⟨kq, x8_2, rfl, HA, HJ2, HB⟩ := hcut
    cases kq with
    | zero => exact absurd HA.out (by simp [cloisterref26_count.j0])
    | succ kj2 =>
     have H := HA.out
     clear HA
     simp only [cloisterref26_count.j0] at H
     by_cases c5 : x8_2 = true
     · subst c5
       have H1 : (some (2, false, true)) = some (r1, r2, r3) := by rw [if_pos rfl] at H; exact H
       clear H
       have H := H1
       clear H1
       simp only [Option.some.injEq, Prod.mk.injEq] at H
       obtain ⟨rfl, rfl, rfl⟩ := H
       go_wp2
       go_ret3
       exact ⟨re_, cb_ HB⟩
     replace c5 := Bool.eq_false_iff.mpr c5
     subst c5
     have H1 : (if (rdOf ByteArray.empty l0 0).toList = ([97, 99, 99, 111, 117, 110, 116] : List UInt8) then (some (6, false, true)) else (if (rdOf ByteArray.empty l0 0).toList = ([116, 105, 99, 107] : List UInt8) then (cloisterref26_count.j1 kj2 l0 (rdOf ByteArray.empty l0 0) ((rdOf ByteArray.empty l0 0).toList == ([116, 105, 99, 107] : List UInt8))) else (cloisterref26_count.j1 kj2 l0 (rdOf ByteArray.empty l0 0) ((rdOf ByteArray.empty l0 0).toList == ([105, 100, 108, 101] : List UInt8))))) = some (r1, r2, r3) := by rw [if_neg (show ¬ (false = true) by decide)] at H; exact H
     clear H
     have H := H1
     clear H1
     by_cases c6 : (rdOf ByteArray.empty l0 0).toList = ([97, 99, 99, 111, 117, 110, 116] : List UInt8)
     · rw [if_pos c6] at H
       have c6b0 := eb_ c6
       have c6b1 := nb_ c6
       clear c6
       simp only [Option.some.injEq, Prod.mk.injEq] at H
       obtain ⟨rfl, rfl, rfl⟩ := H
       go_wp2
       go_ret3
       exact ⟨re_, cb_ HB⟩
     rw [if_neg c6] at H
     have c6b0 := ec_ c6
     have c6b1 := nc_ c6
     have HC7 := am_ H
     clear H
     go_upto_if 13 with (fail)
     go_cut [13] (fun v13 wc => ∃ (kq : Nat) (x13_6 : Bool), v13 = .bool x13_6 ∧ Aside0 (cloisterref26_count.j1 kq l0 (rdOf ByteArray.empty l0 0) x13_6 = some (r1, r2, r3)) ∧ Aside0 (kq ≤ kj2) ∧ Aside0 (Below w.heap.size w wc))
     case first =>
      have H := HC7.out
      clear HC7
      by_cases c8 : (rdOf ByteArray.empty l0 0).toList = ([116, 105, 99, 107] : List UInt8)
      · rw [if_pos c8] at H
        have c8b0 := eb_ c8
        have c8b1 := nb_ c8
        clear c8
        (first | rw [c8b0] | rw [c8b1] | rw [c8b2] | (simp only [i64_w, i32_w]; rw [c8b0]) | (simp only [i64_w, i32_w]; rw [c8b1]) | skip)
        have H' := am_ H
        clear H
        go_wp2
        go_meet
        case rel => exact ⟨_, (((rdOf ByteArray.empty l0 0).toList == ([116, 105, 99, 107] : List UInt8))), rf_, H', ⟨by have := HJ2.out; first | omega | exact Nat.le_refl _⟩, ⟨cb_ HB⟩⟩
      rw [if_neg c8] at H
      have c8b0 := ec_ c8
      have c8b1 := nc_ c8
      (first | rw [c8b0] | rw [c8b1] | rw [c8b2] | (simp only [i64_w, i32_w]; rw [c8b0]) | (simp only [i64_w, i32_w]; rw [c8b1]) | skip)
      have H' := am_ H
      clear H
      go_wp2
      go_meet
      case rel => exact ⟨_, (((rdOf ByteArray.empty l0 0).toList == ([105, 100, 108, 101] : List UInt8))), rf_, H', ⟨by have := HJ2.out; first | omega | exact Nat.le_refl _⟩, ⟨cb_ HB⟩⟩
     case rest =>
      clear HC7
      try clear c2
      try clear c2b0
      try clear c2b1
      try clear p2
      try clear p3
      try clear q3
      try clear hx3
      try clear qi3
      try clear c4
      try clear c4b0
      try clear c4b1
      try clear c4b2
      try clear c5
      try clear c6
      try clear c6b0
      try clear c6b1
      try clear c8
      try clear c8b0
      try clear c8b1
      try clear c8b2
      try clear hx309_0
      try clear p2
      try clear p3
      try clear p309
      try clear q3
      try clear q309
      obtain ⟨kq, x13_6, rfl, HA, HJ6, HB⟩ := hcut
      cases kq with
      | zero => exact absurd HA.out (by simp [cloisterref26_count.j1])
      | succ kj6 =>
       have H := HA.out
       clear HA
       simp only [cloisterref26_count.j1] at H
       by_cases c9 : x13_6 = true
       · subst c9
         have H1 : (some (1, true, true)) = some (r1, r2, r3) := by rw [if_pos rfl] at H; exact H
         clear H
         have H := H1
         clear H1
         simp only [Option.some.injEq, Prod.mk.injEq] at H
         obtain ⟨rfl, rfl, rfl⟩ := H
         go_wp2
         go_ret3
         exact ⟨re_, cb_ HB⟩
       replace c9 := Bool.eq_false_iff.mpr c9
       subst c9
       have H1 : (if (rdOf ByteArray.empty l0 0).toList = ([118, 97, 99, 117, 117, 109] : List UInt8) then (cloisterref26_count.j2 kj6 l0 (rdOf ByteArray.empty l0 0) ((rdOf ByteArray.empty l0 0).toList == ([118, 97, 99, 117, 117, 109] : List UInt8))) else (cloisterref26_count.j2 kj6 l0 (rdOf ByteArray.empty l0 0) ((rdOf ByteArray.empty l0 0).toList == ([99, 104, 101, 99, 107, 112, 111, 105, 110, 116] : List UInt8)))) = some (r1, r2, r3) := by rw [if_neg (show ¬ (false = true) by decide)] at H; exact H
       clear H
       have H := H1
       clear H1
       have HC10 := am_ H
       clear H
       go_upto_if 16 with (fail)
       go_cut [16] (fun v16 wc => ∃ (kq : Nat) (x16_9 : Bool), v16 = .bool x16_9 ∧ Aside0 (cloisterref26_count.j2 kq l0 (rdOf ByteArray.empty l0 0) x16_9 = some (r1, r2, r3)) ∧ Aside0 (kq ≤ kj6) ∧ Aside0 (Below w.heap.size w wc))
       case first =>
        have H := HC10.out
        clear HC10
        by_cases c11 : (rdOf ByteArray.empty l0 0).toList = ([118, 97, 99, 117, 117, 109] : List UInt8)
        · rw [if_pos c11] at H
          have c11b0 := eb_ c11
          have c11b1 := nb_ c11
          clear c11
          (first | rw [c11b0] | rw [c11b1] | rw [c11b2] | (simp only [i64_w, i32_w]; rw [c11b0]) | (simp only [i64_w, i32_w]; rw [c11b1]) | skip)
          have H' := am_ H
          clear H
          go_wp2
          go_meet
          case rel => exact ⟨_, (((rdOf ByteArray.empty l0 0).toList == ([118, 97, 99, 117, 117, 109] : List UInt8))), rf_, H', ⟨by have := HJ2.out; have := HJ6.out; first | omega | exact Nat.le_refl _⟩, ⟨cb_ HB⟩⟩
        rw [if_neg c11] at H
        have c11b0 := ec_ c11
        have c11b1 := nc_ c11
        (first | rw [c11b0] | rw [c11b1] | rw [c11b2] | (simp only [i64_w, i32_w]; rw [c11b0]) | (simp only [i64_w, i32_w]; rw [c11b1]) | skip)
        have H' := am_ H
        clear H
        go_wp2
        go_meet
        case rel => exact ⟨_, (((rdOf ByteArray.empty l0 0).toList == ([99, 104, 101, 99, 107, 112, 111, 105, 110, 116] : List UInt8))), rf_, H', ⟨by have := HJ2.out; have := HJ6.out; first | omega | exact Nat.le_refl _⟩, ⟨cb_ HB⟩⟩
       case rest =>
        clear HC10
        try clear c1
        try clear c2
        try clear c2b0
        try clear c2b1
        try clear p2
        try clear p3
        try clear q3
        try clear hx3
        try clear qi3
        try clear c4
        try clear c4b0
        try clear c4b1
        try clear c4b2
        try clear c5
        try clear c6
        try clear c6b0
        try clear c6b1
        try clear c8
        try clear c8b0
        try clear c8b1
        try clear c8b2
        try clear c9
        try clear c11
        try clear c11b0
        try clear c11b1
        try clear c11b2
        try clear hx309_0
        try clear p2
        try clear p3
        try clear p309
        try clear q3
        try clear q309
        obtain ⟨kq, x16_9, rfl, HA, HJ9, HB⟩ := hcut
        cases kq with
        | zero => exact absurd HA.out (by simp [cloisterref26_count.j2])
        | succ kj9 =>
         have H := HA.out
         clear HA
         simp only [cloisterref26_count.j2] at H
         by_cases c12 : x16_9 = true
         · subst c12
           have H1 : (some (2, true, true)) = some (r1, r2, r3) := by rw [if_pos rfl] at H; exact H
           clear H
           have H := H1
           clear H1
           simp only [Option.some.injEq, Prod.mk.injEq] at H
           obtain ⟨rfl, rfl, rfl⟩ := H
           go_wp2
           go_ret3
           exact ⟨re_, cb_ HB⟩
         replace c12 := Bool.eq_false_iff.mpr c12
         subst c12
         have H1 : (if (rdOf ByteArray.empty l0 0).toList = ([97, 115, 107] : List UInt8) then (if (l0.length : Int) < 3 then (some (0, false, false)) else (if 2 < (l0.length : Int) then ((cloisterref26_kind.f kj9 (rdOf ByteArray.empty l0 2)).bind fun t311 => (if t311 = 0 then (some (0, false, false)) else ((some (([3, 7, 9, 8, 7, 5, 5] : List Int) : List Int)).bind fun y312 => ((cloisterref26_kind.f kj9 (rdOf ByteArray.empty l0 2)).bind fun t316 => (if 0 ≤ (wrap64 (t316 - 1)) then (if (wrap64 (t316 - 1)) < (y312.length : Int) then (some (rd y312 (wrap64 (t316 - 1)), false, true)) else (none)) else (none)))))) else (none))) else (some (0, false, false))) = some (r1, r2, r3) := by rw [if_neg (show ¬ (false = true) by decide)] at H; exact H
         clear H
         have H := H1
         clear H1
         by_cases c13 : (rdOf ByteArray.empty l0 0).toList = ([97, 115, 107] : List UInt8)
         · rw [if_pos c13] at H
           have c13b0 := eb_ c13
           have c13b1 := nb_ c13
           clear c13
           by_cases c14 : (l0.length : Int) < 3
           · rw [if_pos c14] at H
             have c14b0 := decide_eq_true c14
             have c14b1 : decide (l0.length < 3) = true := decide_eq_true (by omega)
             clear c14
             simp only [Option.some.injEq, Prod.mk.injEq] at H
             obtain ⟨rfl, rfl, rfl⟩ := H
             go_wp2
             go_ret3
             exact ⟨re_, cb_ HB⟩
           rw [if_neg c14] at H
           have c14b0 := decide_eq_false c14
           have c14b1 : decide (l0.length < 3) = false := decide_eq_false (by omega)
           clear c14
           by_cases c15 : 2 < (l0.length : Int)
           · rw [if_pos c15] at H
             have c15b0 := decide_eq_true c15
             have c15b1 : decide (2 < l0.length) = true := decide_eq_true (by omega)
             clear c15
             replace H := Option.bind_eq_some_iff.mp H
             obtain ⟨t311, A160, H⟩ := H
             have A16 := am_ A160
             clear A160
             by_cases c17 : t311 = 0
             · rw [if_pos c17] at H
               have c17b0 := eb_ c17
               have c17b1 := nb_ c17
               clear c17
               simp only [Option.some.injEq, Prod.mk.injEq] at H
               obtain ⟨rfl, rfl, rfl⟩ := H
               have p310 : 0 ≤ (2 : Int) := (by omega)
               have q310 : 2 < (l0.length : Int) := od_
               obtain ⟨ad310, e310, hx310_0⟩ := Kd.at_string HR0.out 2 p310 q310
               obtain rfl : ad309 = ad310 := (by injection e310)
               (try simp only [show (2 : Int).toNat = 2 from rfl, Nat.reduceMul, Nat.reduceEqDiff, Go.Addr.add, ↓reduceIte] at hx310_0)
               have qi310 : (2 < l0.length) = True := eq_true (by omega)
               (try rw [show ((2 : Int)).toNat = 2 from rfl] at hx310_0)
               replace hx310_0 := (HB.out.cell (World.block_lt_of_cell? w _ hx310_0)).trans hx310_0
               replace p310 := eq_true p310
               replace q310 := eq_true q310
               go_wp2_with (first | (go_at_call 69; (with_reducible refine (cloisterref26_kind.calls kj9 (rdOf ByteArray.empty l0 2) _ _ A16.out).mono ?_); rintro e w18 ⟨rfl, hb⟩; replace HB := am_ (below_step (cb_ HB) hb); (try clear hb); (try clear hk)))
               go_ret3
               exact ⟨re_, cb_ HB⟩
             rw [if_neg c17] at H
             have c17b0 := ec_ c17
             have c17b1 := nc_ c17
             obtain ⟨y312, hy312⟩ : ∃ y_ : List Int, y_ = (([3, 7, 9, 8, 7, 5, 5] : List Int)) := ⟨_, rfl⟩
             replace H : ((cloisterref26_kind.f kj9 (rdOf ByteArray.empty l0 2)).bind fun t316 => (if 0 ≤ (wrap64 (t316 - 1)) then (if (wrap64 (t316 - 1)) < (y312.length : Int) then (some (rd y312 (wrap64 (t316 - 1)), false, true)) else (none)) else (none))) = some (r1, r2, r3) := by first | (rw [hy312]; with_reducible exact H) | (have H2_ := (Option.bind_some _ _).symm.trans H; rw [hy312]; with_reducible exact H2_) | (have H2_ := (Option.bind_some _ _).symm.trans H; with_reducible exact H2_) | with_reducible exact H | (rw [hy312]; exact H) | exact H
             have Ny312 := am_ hy312
             clear hy312
             replace H := Option.bind_eq_some_iff.mp H
             obtain ⟨t316, A190, H⟩ := H
             have A19 := am_ A190
             clear A190
             obtain ⟨ji20, hji20⟩ : ∃ j_ : Int, (wrap64 (t316 - 1)) = j_ := ⟨_, rfl⟩
             replace H : (if 0 ≤ (ji20) then (if (ji20) < (y312.length : Int) then (some (rd y312 (ji20), false, true)) else (none)) else (none)) = some (r1, r2, r3) := by first | (rw [hji20] at H; exact H) | (simp only [hji20] at H ⊢; exact H)
             (try rw [hji20] at A16)
             (try rw [hji20] at A19)
             have hji20w : (IntKind.i64.wrap (t316 - 1)) = ji20 := (i64_w _).trans hji20
             by_cases c21 : 0 ≤ (ji20)
             · rw [if_pos c21] at H
               have c21b0 := decide_eq_true c21
               clear c21
               by_cases c22 : (ji20) < (y312.length : Int)
               · rw [if_pos c22] at H
                 have c22b0 := decide_eq_true c22
                 clear c22
                 simp only [Option.some.injEq, Prod.mk.injEq] at H
                 obtain ⟨rfl, rfl, rfl⟩ := H
                 have p310 : 0 ≤ (2 : Int) := (by omega)
                 have q310 : 2 < (l0.length : Int) := od_
                 obtain ⟨ad310, e310, hx310_0⟩ := Kd.at_string HR0.out 2 p310 q310
                 obtain rfl : ad309 = ad310 := (by injection e310)
                 (try simp only [show (2 : Int).toNat = 2 from rfl, Nat.reduceMul, Nat.reduceEqDiff, Go.Addr.add, ↓reduceIte] at hx310_0)
                 have qi310 : (2 < l0.length) = True := eq_true (by omega)
                 (try rw [show ((2 : Int)).toNat = 2 from rfl] at hx310_0)
                 replace hx310_0 := (HB.out.cell (World.block_lt_of_cell? w _ hx310_0)).trans hx310_0
                 replace p310 := eq_true p310
                 replace q310 := eq_true q310
                 try go_wp2_with (first | (go_at_call 69; (with_reducible refine (cloisterref26_kind.calls kj9 (rdOf ByteArray.empty l0 2) _ _ A16.out).mono ?_); rintro e w23 ⟨rfl, hb⟩; replace HB := am_ (below_step (cb_ HB) hb); (try clear hb); (try clear hk)) | ((with_reducible refine gate_dst (N := 31) rfl ?_); refine Kd.R_lit (Kd.int .i64) _ 3 ?hg (N := 31) ?hd (xs := ([3, 7, 9, 8, 7, 5, 5] : List Int)) (inner := [.int .i64 3, .int .i64 7, .int .i64 9, .int .i64 8, .int .i64 7, .int .i64 5, .int .i64 5]) (ok := fun _ => True) (okp := fun _ => True) ?hr ?hp (fun _ hk => hk) trivial (Below.refl _ _) (Nat.le_refl _) (by simp) ?_; (case hd => rfl); (case hg => rfl); (case hr => first | (go_simp; done) | (go_simp; rfl)); (case hp => exact (Reps.one (show Kd.M (Kd.int .i64) _ _ _ 3 [.int .i64 3] from rfl) (Reps.one (show Kd.M (Kd.int .i64) _ _ _ 7 [.int .i64 7] from rfl) (Reps.one (show Kd.M (Kd.int .i64) _ _ _ 9 [.int .i64 9] from rfl) (Reps.one (show Kd.M (Kd.int .i64) _ _ _ 8 [.int .i64 8] from rfl) (Reps.one (show Kd.M (Kd.int .i64) _ _ _ 7 [.int .i64 7] from rfl) (Reps.one (show Kd.M (Kd.int .i64) _ _ _ 5 [.int .i64 5] from rfl) (Reps.one (show Kd.M (Kd.int .i64) _ _ _ 5 [.int .i64 5] from rfl) (Reps.none _ _))))))))); intro v313 w24 ho25 hb hg_ hnew_; clear hg_ hnew_; (first | rw [← Ny312.out] at ho25 | (simp only [Int.reduceToNat] at ho25; rw [← Ny312.out] at ho25)); have HO314 := am_ (Kd.R_lower ho25 (below_size (cb_ HB))); replace HB := am_ (below_step (cb_ HB) hb); clear hb ho25; have p315 : 0 ≤ (2 : Int) := (by omega); have q315 : 2 < (l0.length : Int) := od_; obtain ⟨ad315, e315, hx315_0⟩ := Kd.at_string HR0.out 2 p315 q315; obtain rfl : ad309 = ad315 := (by injection e315); (try simp only [show (2 : Int).toNat = 2 from rfl, Nat.reduceMul, Nat.reduceEqDiff, Go.Addr.add, ↓reduceIte] at hx315_0); have qi315 : (2 < l0.length) = True := eq_true (by omega); (try rw [show ((2 : Int)).toNat = 2 from rfl] at hx315_0); replace hx315_0 := (HB.out.cell (World.block_lt_of_cell? w _ hx315_0)).trans hx315_0; replace p315 := eq_true p315; replace q315 := eq_true q315) | ((with_reducible refine gate_callee (f := 69) rfl ?_); refine goesL_ (some 35) rfl rfl Tryz.func69 (by kernel_rfl) rfl #[.string (rdOf ByteArray.empty l0 2)] rfl ha_ ?_; (with_reducible refine (cloisterref26_kind.calls kj9 (rdOf ByteArray.empty l0 2) _ _ A19.out).mono ?_); rintro e w26 ⟨rfl, hb⟩; refine ⟨_, rfl, ?_⟩; replace HO314 := am_ (Kd.R_below (cq_ HO314) hb); replace HB := am_ (below_step (cb_ HB) hb); (try clear hb); (try clear hk); obtain ⟨Ao27, co27, eo27⟩ := Kd.R_slice HO314.out; subst eo27; have p317 : 0 ≤ ((ji20) : Int) := od_; have q317 : (ji20) < (y312.length : Int) := od_; obtain ⟨ad317, e317, hx317_0⟩ := Kd.at_int (Kd.R_reads' HO314.out).2.2 (ji20) p317 q317; cases e317; replace p317 := eq_true p317; replace q317 := eq_true q317))
                 go_ret3
                 exact ⟨by first | rfl | (simp [errW_none, errW_some] <;> rfl) | (simp only [← hji20]; first | rfl | (simp [errW_none, errW_some] <;> rfl)) | (simp [*, errW_none, errW_some] <;> rfl), cb_ HB⟩
               rw [if_neg c22] at H
               exact absurd H (by simp)
             rw [if_neg c21] at H
             exact absurd H (by simp)
           rw [if_neg c15] at H
           exact absurd H (by simp)
         rw [if_neg c13] at H
         have c13b0 := ec_ c13
         have c13b1 := nc_ c13
         simp only [Option.some.injEq, Prod.mk.injEq] at H
         obtain ⟨rfl, rfl, rfl⟩ := H
         go_wp2
         go_ret3
         exact ⟨re_, cb_ HB⟩
 rw [if_neg c2] at H
 exact absurd H (by simp)
end Go.Proofs.YtndbbgihpoiojaaGreatDoor.Q
namespace Go.Proofs.YtndbbgihpoiojaaGreatDoor.sc
open Go.RowKit
def Clean (b : UInt8) : Prop := 32 < b.toNat ∧ b.toNat ≠ 34 ∧ b.toNat ≠ 127
theorem enc_hi (r : Int) (h : 128 ≤ r) : ∀ b ∈ Lib.encodeRune r, 128 ≤ b.toNat := by
 intro b hb
 unfold Lib.encodeRune at hb
 obtain ⟨x, hx, rfl⟩ := List.mem_map.1 hb
 have hb := Lib.encodeRuneZ_byte r x hx
 have h1 : 128 ≤ x := by
  unfold Lib.encodeRuneZ at hx
  split at hx
  · omega
  split at hx
  · simp at hx; omega
  split at hx
  · simp at hx; omega
  split at hx
  · simp at hx; omega
  simp at hx; omega
 have e : x.toNat.toUInt8.toNat = x.toNat := by
  show x.toNat % 2 ^ 8 = x.toNat
  omega
 omega
theorem hexD_cases : ∀ k : Fin 16, hexV (hexD k.val) = some k.val ∧ 48 ≤ (hexD k.val).toNat ∧ (hexD k.val).toNat ≤ 70 := by decide +kernel
theorem hexV_D {k : Nat} (h : k < 16) : hexV (hexD k) = some k := (hexD_cases ⟨k, h⟩).1
theorem hex_back (b : UInt8) : UInt8.ofNat (16 * (b.toNat / 16) + b.toNat % 16) = b := by
 have : 16 * (b.toNat / 16) + b.toNat % 16 = b.toNat := by omega
 rw [this]; simp
theorem unqL_pcts (t : List UInt8) : ∀ (l : List UInt8), unqL (l.flatMap pct ++ t) = (unqL t).map (l ++ ·)
 | [] => by cases h : unqL t <;> simp [h]
 | b :: l => by
  have hb := b.toNat_lt
  show unqL (37 :: hexD (b.toNat / 16) :: hexD (b.toNat % 16) :: (l.flatMap pct ++ t)) = _
  rw [unqL_pct, hexV_D (by omega), hexV_D (by omega)]
  show (unqL (l.flatMap pct ++ t)).map _ = _
  rw [unqL_pcts t l, hex_back]
  cases h : unqL t <;> simp
theorem unqL_plains (t : List UInt8) : ∀ (l : List UInt8), (∀ b ∈ l, b ≠ 37) → unqL (l ++ t) = (unqL t).map (l ++ ·)
 | [], _ => by cases h : unqL t <;> simp [h]
 | b :: l, hl => by
  rw [List.cons_append, unqL_plain _ (hl b (List.mem_cons_self ..)), unqL_plains t l (fun x hx => hl x (List.mem_cons_of_mem _ hx))]
  cases h : unqL t <;> simp
theorem ok_bytes (l : List UInt8) (hne : l ≠ []) (h : qok (Lib.decodeL l).1 (Lib.decodeL l).2 = true) : ∀ b ∈ l.take (Lib.decodeL l).2, Clean b ∧ b.toNat ≠ 37 := by
 intro b hb
 unfold qok at h
 simp only [Bool.and_eq_true, Bool.or_eq_true, bne_iff_ne, ne_eq, decide_eq_true_eq] at h
 by_cases h128 : 128 ≤ (Lib.decodeL l).1
 · have he := Lib.encode_decode l hne (by omega)
   rw [← he] at hb
   have := enc_hi _ (by omega) b hb
   unfold Clean
   omega
 cases l with
 | nil => exact absurd rfl hne
 | cons c l =>
  by_cases hc : c.toNat < 128
  · rw [Lib.decodeL_ascii c l hc] at h hb
    simp only [List.take_succ_cons, List.take_zero, List.mem_singleton] at hb
    subst hb
    simp only at h
    unfold Clean
    omega
  exfalso
  rw [Lib.decodeL_N] at h128
  have e : ((c :: l).getD 0 0).toNat = c.toNat := rfl
  rcases Lib.decodeN_shape (c :: l).length ((c :: l).getD 0 0).toNat ((c :: l).getD 1 0).toNat ((c :: l).getD 2 0).toNat ((c :: l).getD 3 0).toNat with ⟨c0, e1⟩ | ⟨_, _, _, _, e1⟩ | ⟨_, _, _, _, _, _, e1⟩ | ⟨_, _, _, _, _, _, _, e1⟩ | e1
  · omega
  all_goals (rw [e1] at h128; simp only at h128; omega)
theorem qform_back (l t : List UInt8) (hne : l ≠ []) : unqL (qform l (Lib.decodeL l).1 (Lib.decodeL l).2 ++ t) = (unqL t).map (l.take (Lib.decodeL l).2 ++ ·) := by
 unfold qform
 split
 · rename_i h
   refine unqL_plains t _ (fun b hb e => ?_)
   have := (ok_bytes l hne h b hb).2
   rw [e] at this
   exact this rfl
 exact unqL_pcts t _
theorem qt_ind {P : List UInt8 → Prop} (h0 : P []) (hs : ∀ l, l ≠ [] → P (l.drop (Lib.decodeL l).2) → P l) : ∀ l, P l := by
 have : ∀ (n : Nat) (l : List UInt8), l.length ≤ n → P l := by
  intro n
  induction n with
  | zero =>
   intro l h
   have : l = [] := List.length_eq_zero_iff.1 (by omega)
   rw [this]; exact h0
  | succ n ih =>
   intro l h
   by_cases hne : l = []
   · rw [hne]; exact h0
   have hw := width_posL l
   have hp := List.length_pos_iff.2 hne
   exact hs l hne (ih _ (by rw [List.length_drop]; omega))
 exact fun l => this l.length l (Nat.le_refl _)
theorem unqL_qt : ∀ l, unqL (qt l) = some l := by
 refine qt_ind rfl (fun l hne ih => ?_)
 rw [qt_step hne, qform_back l _ hne, ih]
 simp
theorem quoteL_eq (l : List UInt8) : quoteL l = 34 :: (qt l ++ [34]) := rfl
theorem unquote_quote (l : List UInt8) : unquoteL (quoteL l) = some l := by
 unfold unquoteL
 rw [if_pos ⟨by rw [quoteL_eq]; simp, by rw [quoteL_eq]; rfl, by rw [quoteL_eq, ← List.cons_append, List.getLast?_append]; simp⟩]
 have e : ((quoteL l).drop 1).take ((quoteL l).length - 2) = qt l := by
  rw [quoteL_eq]
  simp
 rw [e, unqL_qt]
 simp
theorem parseUintM_append (M : Nat) (r : List UInt8) : ∀ (l : List UInt8) (acc : Nat), Lib.parseUintM M acc (l ++ r) = (match Lib.parseUintM M acc l with
 | .ok a => Lib.parseUintM M a r
 | e => e)
 | [], acc => rfl
 | c :: l, acc => by
  rw [List.cons_append, Lib.parseUintM, Lib.parseUintM]
  split
  · split
    · rfl
    split
    · rfl
    exact parseUintM_append M r l _
  rfl
theorem dig_nat (k : Nat) (h : k < 10) : (UInt8.ofNat (48 + k)).toNat = 48 + k := by
 show (48 + k) % 2 ^ 8 = _
 omega
theorem dec_step {u : Nat} (h : ¬ u < 10) : Lib.decDigits u = Lib.decDigits (u / 10) ++ [UInt8.ofNat (48 + u % 10)] := by
 rw [Lib.decDigits, dif_neg h]
theorem parse_dec : ∀ (n u : Nat), u < n → u ≤ 18446744073709551615 → Lib.parseUintM 18446744073709551615 0 (Lib.decDigits u) = .ok u := by
 intro n
 induction n with
 | zero => intro u h; omega
 | succ n ih =>
  intro u h hu
  by_cases h10 : u < 10
  · rw [Lib.decDigits_one h10, Lib.parseUintM, dig_nat u h10, if_pos (by omega), if_neg (by omega), if_neg (by omega), Lib.parseUintM]
    congr 1
    omega
  rw [dec_step h10, parseUintM_append, ih (u / 10) (by omega) (by omega)]
  show Lib.parseUintM _ (u / 10) [UInt8.ofNat (48 + u % 10)] = _
  rw [Lib.parseUintM, dig_nat (u % 10) (by omega), if_pos (by omega), if_neg (by omega), if_neg (by omega), Lib.parseUintM]
  congr 1
  omega
theorem dec_digits : ∀ (n u : Nat), u < n → ∀ b ∈ Lib.decDigits u, 48 ≤ b.toNat ∧ b.toNat ≤ 57 := by
 intro n
 induction n with
 | zero => intro u h; omega
 | succ n ih =>
  intro u h b hb
  by_cases h10 : u < 10
  · rw [Lib.decDigits_one h10, List.mem_singleton] at hb
    rw [hb, dig_nat u h10]; omega
  rw [dec_step h10] at hb
  rcases List.mem_append.1 hb with hb | hb
  · exact ih (u / 10) (by omega) b hb
  rw [List.mem_singleton.1 hb, dig_nat (u % 10) (by omega)]; omega
theorem dec_dig (u : Nat) : ∀ b ∈ Lib.decDigits u, 48 ≤ b.toNat ∧ b.toNat ≤ 57 := dec_digits (u + 1) u (by omega)
theorem dec_ne (u : Nat) : Lib.decDigits u ≠ [] := by
 intro h
 have := Lib.decDigits_length u
 rw [h] at this
 have := Lib.nDigits_pos u
 simp at *
 omega
theorem parseUintB_dec (u : Nat) (h : u ≤ 18446744073709551615) : Lib.parseUintB 64 (Lib.decDigits u) = .ok u := by
 unfold Lib.parseUintB
 rw [if_neg (dec_ne u)]
 exact parse_dec (u + 1) u (by omega) h
theorem parseIntB_itoa (n : Int) (h : InInt n) : Lib.parseIntB 64 (Lib.itoa n) = .ok n := by
 unfold InInt at h
 unfold Lib.itoa
 split
 · rw [Lib.parseIntB_minus, parseUintB_dec _ (by omega)]
   show Lib.signedC 9223372036854775808 _ = _
   unfold Lib.signedC
   simp only
   rw [if_neg (by omega)]
   congr 1
   omega
 have hd := dec_dig n.toNat
 have hp := parseUintB_dec n.toNat (by omega)
 cases hl : Lib.decDigits n.toNat with
 | nil => exact absurd hl (dec_ne _)
 | cons c r =>
  rw [hl] at hd hp
  have := hd c (List.mem_cons_self ..)
  rw [Lib.parseIntB_plain 64 c r (by omega) (by omega), hp]
  show Lib.signlessC 9223372036854775808 _ = _
  unfold Lib.signlessC
  simp only
  rw [if_neg (by omega)]
  congr 1
  omega
theorem numOf_iff (s : ByteArray) (n : Int) : numOf s = some n ↔ InInt n ∧ s.data.toList = Lib.itoa n := by
 constructor
 · intro h
   unfold numOf at h
   split at h
   · rename_i v hv
     split at h
     · rename_i e
       cases h
       have := Lib.parseIntB_bounds hv
       refine ⟨⟨?_, ?_⟩, e.symm⟩
       · have := this.1; simp at this; omega
       have := this.2; simp at this; omega
     cases h
   cases h
 rintro ⟨h, e⟩
 unfold numOf
 rw [e, parseIntB_itoa n h]
 simp
theorem labelOf_iff (s : ByteArray) (n : Nat) : labelOf s = some n ↔ n ≤ 18446744073709551615 ∧ s.data.toList = Lib.decDigits n := by
 constructor
 · intro h
   unfold labelOf at h
   split at h
   · rename_i v hv
     split at h
     · rename_i e
       cases h
       have := Lib.parseUintB_le hv
       exact ⟨by simpa using this, e.symm⟩
     cases h
   cases h
 rintro ⟨h, e⟩
 unfold labelOf
 rw [e, parseUintB_dec n h]
 simp
end Go.Proofs.YtndbbgihpoiojaaGreatDoor.sc
namespace Go.Proofs.YtndbbgihpoiojaaGreatDoor.Q
open Go.RowKit
open Go.Proofs.YtndbbgihpoiojaaGreatDoor.it (linesS splitS splitF linesF wordsOfL trimL linesS_nil linesS_last linesS_cons splitS_last splitS_cons indexByte_lt extract_size')
theorem splitOn_miss {c : UInt8} : ∀ {l : List UInt8}, Lib.indexByte l c < 0 → splitOn c l = [l]
 | [], _ => rfl
 | b :: l, h => by
  unfold Lib.indexByte at h
  by_cases hb : b = c
  · subst hb; simp at h
  have h1 : Lib.indexByte l c < 0 := by
   have := Lib.indexByte_ge l c
   simp only [beq_iff_eq, hb, if_false] at h
   split at h
   · rename_i e; omega
   omega
  unfold splitOn
  rw [if_neg hb, splitOn_miss h1]
theorem splitOn_hit {c : UInt8} : ∀ {l : List UInt8}, ¬ Lib.indexByte l c < 0 → splitOn c l = l.take (Lib.indexByte l c).toNat :: splitOn c (l.drop (Lib.indexByte l c + 1).toNat)
 | [], h => by unfold Lib.indexByte at h; simp at h
 | b :: l, h => by
  by_cases hb : b = c
  · subst hb
    have e : Lib.indexByte (b :: l) b = 0 := by unfold Lib.indexByte; simp
    rw [e]
    conv => lhs; unfold splitOn
    simp
  have hge := Lib.indexByte_ge l c
  have h1 : ¬ Lib.indexByte l c < 0 := by
   intro h2
   apply h
   unfold Lib.indexByte
   simp only [beq_iff_eq, hb, if_false]
   rw [if_pos (by omega)]
   omega
  have e : Lib.indexByte (b :: l) c = Lib.indexByte l c + 1 := by
   conv => lhs; unfold Lib.indexByte
   simp only [beq_iff_eq, hb, if_false]
   rw [if_neg (by omega)]
  have e1 : (Lib.indexByte l c + 1).toNat = (Lib.indexByte l c).toNat + 1 := by omega
  have e2 : (Lib.indexByte l c + 1 + 1).toNat = (Lib.indexByte l c + 1).toNat + 1 := by omega
  conv => lhs; unfold splitOn
  rw [if_neg hb, splitOn_hit h1, e, e2, e1, List.take_succ_cons, List.drop_succ_cons]
theorem data_take (s : ByteArray) (k : Nat) : (s.extract 0 k).data.toList = s.data.toList.take k := by rw [extract_data]; simp
theorem data_drop (s : ByteArray) (k : Nat) : (s.extract k s.size).data.toList = s.data.toList.drop k := by
 rw [extract_data, Lib.size_eq, List.take_of_length_le (by rw [List.length_drop]; omega)]
theorem splitS_data (c : UInt8) : ∀ (n : Nat) (s : ByteArray), s.size ≤ n → (splitS c s).map (·.data.toList) = splitOn c s.data.toList := by
 intro n
 induction n with
 | zero =>
  intro s h
  have h0 : s.data.toList = [] := List.eq_nil_of_length_eq_zero (by rw [← Lib.size_eq]; omega)
  have h1 : Lib.indexByte s.data.toList c < 0 := by rw [h0]; unfold Lib.indexByte; decide
  rw [splitS_last c s h1, splitOn_miss h1]
  rfl
 | succ n ih =>
  intro s h
  by_cases h1 : Lib.indexByte s.data.toList c < 0
  · rw [splitS_last c s h1, splitOn_miss h1]
    rfl
  have hlt := indexByte_lt s.data.toList c
  rw [← Lib.size_eq] at hlt
  rw [splitS_cons c s h1, splitOn_hit h1, List.map_cons, ih _ (by rw [extract_size']; omega), data_take, data_drop]
def wordsL (l : List UInt8) : List (List UInt8) := (splitOn 32 l).filter (!·.isEmpty)
theorem wordsS_data (s : ByteArray) : (wordsS s).map (·.data.toList) = wordsL s.data.toList := by
 unfold wordsS wordsL wordsOfL
 rw [← splitS_data 32 s.size s (Nat.le_refl _), List.filter_map]
 rfl
def chop : List (List UInt8) → List (List UInt8)
 | [] => []
 | [x] => if x = [] then [] else [x]
 | x :: y :: r => x :: chop (y :: r)
def linesL (l : List UInt8) : List (List UInt8) := chop (splitOn 10 l)
theorem chop_cons (x : List UInt8) (r : List (List UInt8)) (h : r ≠ []) : chop (x :: r) = x :: chop r := by
 cases r with
 | nil => exact absurd rfl h
 | cons y r => rfl
theorem idx_mem : ∀ {l : List UInt8} {c : UInt8}, Lib.indexByte l c < 0 → c ∉ l
 | [], _, _ => by simp
 | b :: l, c, h => by
  have hge := Lib.indexByte_ge l c
  unfold Lib.indexByte at h
  by_cases hb : b = c
  · simp [hb] at h
  simp only [beq_iff_eq, hb, if_false] at h
  have h1 : Lib.indexByte l c < 0 := by
   split at h
   · rename_i e; omega
   omega
  have := idx_mem h1
  simp [Ne.symm hb, this]
theorem idx_at : ∀ {l : List UInt8} {c : UInt8}, ¬ Lib.indexByte l c < 0 → l.take (Lib.indexByte l c + 1).toNat = l.take (Lib.indexByte l c).toNat ++ [c]
 | [], _, h => by unfold Lib.indexByte at h; simp at h
 | b :: l, c, h => by
  have hge := Lib.indexByte_ge l c
  by_cases hb : b = c
  · subst hb
    have e : Lib.indexByte (b :: l) b = 0 := by unfold Lib.indexByte; simp
    rw [e]; rfl
  have h1 : ¬ Lib.indexByte l c < 0 := by
   intro h2
   apply h
   unfold Lib.indexByte
   simp only [beq_iff_eq, hb, if_false]
   rw [if_pos (by omega)]
   omega
  have e : Lib.indexByte (b :: l) c = Lib.indexByte l c + 1 := by
   conv => lhs; unfold Lib.indexByte
   simp only [beq_iff_eq, hb, if_false]
   rw [if_neg (by omega)]
  have e1 : (Lib.indexByte l c + 1).toNat = (Lib.indexByte l c).toNat + 1 := by omega
  have e2 : (Lib.indexByte l c + 1 + 1).toNat = (Lib.indexByte l c + 1).toNat + 1 := by omega
  have ih := idx_at h1
  rw [e, e2, e1, List.take_succ_cons, List.take_succ_cons, List.cons_append, ← e1, ih]
theorem trim_data (x : ByteArray) : (trimL x).data.toList = Lib.trimSuffix x.data.toList [10] := rfl
theorem trim_hit (l : List UInt8) : Lib.trimSuffix (l ++ [10]) [10] = l := by
 unfold Lib.trimSuffix
 rw [if_pos (by simp [Lib.hasSuffix])]
 simp
theorem trim_miss (l : List UInt8) (h : (10 : UInt8) ∉ l) : Lib.trimSuffix l [10] = l := by
 unfold Lib.trimSuffix
 rw [if_neg]
 intro hs
 simp only [Lib.hasSuffix, List.isSuffixOf_iff_suffix] at hs
 exact h (hs.subset (by simp))
theorem linesT_data : ∀ (n : Nat) (s : ByteArray), s.size ≤ n → (linesT s).map (·.data.toList) = linesL s.data.toList := by
 intro n
 induction n with
 | zero =>
  intro s h
  have h0 : s.data.toList = [] := List.eq_nil_of_length_eq_zero (by rw [← Lib.size_eq]; omega)
  unfold linesT
  rw [linesS_nil s (by omega), h0]
  rfl
 | succ n ih =>
  intro s h
  by_cases hs : s.size = 0
  · have h0 : s.data.toList = [] := List.eq_nil_of_length_eq_zero (by rw [← Lib.size_eq]; omega)
    unfold linesT
    rw [linesS_nil s hs, h0]
    rfl
  by_cases h1 : Lib.indexByte s.data.toList 10 < 0
  · unfold linesT linesL
    rw [linesS_last s hs h1, splitOn_miss h1]
    simp only [List.map_cons, List.map_nil]
    rw [trim_data, trim_miss _ (idx_mem h1)]
    unfold chop
    rw [if_neg]
    intro e
    rw [Lib.size_eq, e] at hs
    exact hs rfl
  have hlt := indexByte_lt s.data.toList 10
  rw [← Lib.size_eq] at hlt
  have ih' := ih (s.extract (Lib.indexByte s.data.toList 10 + 1).toNat s.size) (by rw [extract_size']; omega)
  unfold linesT linesL at ih' ⊢
  rw [linesS_cons s hs h1, splitOn_hit h1, chop_cons _ _ (splitOn_ne _ _)]
  simp only [List.map_cons]
  rw [ih', trim_data, data_take, idx_at h1, trim_hit, data_drop]
theorem data_inj {a b : List ByteArray} (h : a.map (·.data.toList) = b.map (·.data.toList)) : a = b := by
 induction a generalizing b with
 | nil => cases b with
  | nil => rfl
  | cons y b => simp at h
 | cons x a ih => cases b with
  | nil => simp at h
  | cons y b =>
   simp only [List.map_cons, List.cons.injEq] at h
   rw [ih h.2, ba_ext h.1]
end Go.Proofs.YtndbbgihpoiojaaGreatDoor.Q
namespace Go.Proofs.YtndbbgihpoiojaaGreatDoor.Q
open Go.RowKit Go.Proofs.YtndbbgihpoiojaaGreatDoorW.PrintWords Go.Proofs.YtndbbgihpoiojaaGreatDoorW.PrintLast
def bl (l : List (List UInt8)) : List ByteArray := l.map fun x => ⟨x.toArray⟩
theorem bl_data (l : List (List UInt8)) : (bl l).map (·.data.toList) = l := by
 unfold bl
 rw [List.map_map]
 conv => rhs; rw [← List.map_id l]
 rfl
def linesGo : List UInt8 → List UInt8 → List (List UInt8)
 | cur, [] => if cur = [] then [] else [cur]
 | cur, b :: r => if b = 10 then cur :: linesGo [] r else linesGo (cur ++ [b]) r
def pre (cur : List UInt8) : List (List UInt8) → List (List UInt8)
 | [] => [cur]
 | x :: r => (cur ++ x) :: r
theorem pre_split (c b : UInt8) (cur r : List UInt8) : pre cur (splitOn c (b :: r)) = if b = c then cur :: splitOn c r else pre (cur ++ [b]) (splitOn c r) := by
 rw [splitOn]
 split
 · show (cur ++ []) :: splitOn c r = _
   rw [List.append_nil]
 cases h : splitOn c r with
 | nil => exact absurd h (splitOn_ne c r)
 | cons x t => simp [pre]
theorem pre_nil (c : UInt8) (r : List UInt8) : pre [] (splitOn c r) = splitOn c r := by
 cases h : splitOn c r with
 | nil => exact absurd h (splitOn_ne c r)
 | cons x t => rfl
theorem linesGo_eq : ∀ (r cur : List UInt8), linesGo cur r = chop (pre cur (splitOn 10 r))
 | [], cur => by
  show _ = chop [cur ++ []]
  rw [List.append_nil]
  rfl
 | b :: r, cur => by
  rw [pre_split, linesGo]
  split
  · rw [chop_cons _ _ (splitOn_ne 10 r), linesGo_eq r [], pre_nil]
  rw [linesGo_eq r (cur ++ [b])]
theorem cut_step (L : List UInt8) (j i : Nat) (hj : j ≤ i) (hi : i < L.length) : (L.take (i + 1)).drop j = (L.take i).drop j ++ [L[i]] := by
 rw [List.take_add_one, List.getElem?_eq_getElem hi]
 show (L.take i ++ [L[i]]).drop j = _
 rw [List.drop_append_of_le_length (by rw [List.length_take]; omega)]
theorem cut_extract (x : ByteArray) (a b : Nat) : (x.extract a b).data.toList = (x.data.toList.take b).drop a := by
 rw [extract_data, List.drop_take]
theorem toList_nil_iff (x : ByteArray) : x.toList = ([] : List UInt8) ↔ x.data.toList = [] := by rw [toList_data]
theorem rl_l0 (x0 : ByteArray) (hlen : x0.data.toList.length ≤ 8796093022000) : ∀ (d i : Nat) (acc : List ByteArray) (x4 : ByteArray) (k : Nat), i + d = x0.data.toList.length → x4.size ≤ i →
 x4.data.toList = (x0.data.toList.take i).drop (i - x4.size) → acc.length ≤ i → d < k →
 cloisterref26_Lines.l0 k x0 acc x4 (i : Int) = some (acc ++ bl (linesGo x4.data.toList (x0.data.toList.drop i))) := by
 intro d
 induction d with
 | zero =>
  intro i acc x4 k hi hx hc ha hk
  obtain ⟨k, rfl⟩ : ∃ m, k = m + 1 := ⟨k - 1, by omega⟩
  have hsz : x0.size = x0.data.toList.length := (data_length x0).symm
  rw [cloisterref26_Lines.l0, if_neg (by omega), List.drop_eq_nil_of_le (by omega), linesGo]
  by_cases h : x4.data.toList = []
  · rw [if_pos ((toList_nil_iff x4).2 h), if_pos h]
    show _ = some (acc ++ [])
    rw [List.append_nil]
  rw [if_neg (fun e => h ((toList_nil_iff x4).1 e)), if_neg h, if_pos (by omega)]
  show _ = some (acc ++ [(⟨x4.data.toList.toArray⟩ : ByteArray)])
  rw [ba_eta]
 | succ d ih =>
  intro i acc x4 k hi hx hc ha hk
  obtain ⟨k, rfl⟩ : ∃ m, k = m + 1 := ⟨k - 1, by omega⟩
  have hsz : x0.size = x0.data.toList.length := (data_length x0).symm
  have hlt : i < x0.data.toList.length := by omega
  have hw : wrap64 ((i : Int) + 1) = ((i + 1 : Nat) : Int) := by rw [w64 (by omega) (by omega)]; omega
  have hw2 : wrap64 ((i : Int) - (x4.size : Int)) = ((i - x4.size : Nat) : Int) := by rw [w64 (by omega) (by omega)]; omega
  rw [cloisterref26_Lines.l0, if_pos (by omega), if_pos (by omega), bt_nat x0 i hlt, hw, hw2, List.drop_eq_getElem_cons hlt, linesGo]
  by_cases h : x0.data.toList[i] = 10
  · rw [if_pos (by rw [h]; rfl), if_pos (by omega), if_pos h]
    rw [ih (i + 1) (acc ++ [x4]) ⟨#[]⟩ k (by omega) (by show 0 ≤ _; omega) (by rw [show (⟨#[]⟩ : ByteArray).size = 0 from rfl, Nat.sub_zero, List.drop_eq_nil_of_le (by rw [List.length_take]; omega)]) (by rw [List.length_append]; show _ + 1 ≤ _; omega) (by omega)]
    show some (acc ++ [x4] ++ bl (linesGo [] _)) = some (acc ++ ((⟨x4.data.toList.toArray⟩ : ByteArray) :: bl (linesGo [] _)))
    rw [ba_eta, List.append_assoc]
    rfl
  have hne : ¬ ((x0.data.toList[i]).toNat : Int) = 10 := fun e => h (UInt8.toNat_inj.1 (Int.ofNat_inj.1 e))
  rw [if_neg hne, if_neg h, if_pos (by omega), if_pos (by omega), if_pos (by omega), Int.toNat_natCast, Int.toNat_natCast]
  have hd : (x0.extract (i - x4.size) (i + 1)).data.toList = x4.data.toList ++ [x0.data.toList[i]] := by
   rw [cut_extract, cut_step _ _ _ (by omega) hlt, ← hc]
  have hs : (x0.extract (i - x4.size) (i + 1)).size = x4.size + 1 := by
   rw [← data_length, hd, List.length_append, data_length]
   rfl
  rw [ih (i + 1) acc _ k (by omega) (by omega) (by rw [hs, cut_extract]; congr 1; omega) (by omega) (by omega), hd]
theorem rlines_f (t : ByteArray) (ht : t.size ≤ 8796093022000) : cloisterref26_Lines.f (t.size + 1) t = some (linesT t) := by
 unfold cloisterref26_Lines.f
 have hsz : t.data.toList.length = t.size := data_length t
 have := rl_l0 t (by omega) t.size 0 [] ⟨#[]⟩ (t.size + 1) (by omega) (Nat.zero_le _) rfl (Nat.le_refl _) (by omega)
 rw [show ((0 : Nat) : Int) = 0 from rfl] at this
 rw [this, List.nil_append, List.drop_zero]
 refine congrArg some (data_inj ?_)
 rw [bl_data, linesT_data t.size t (Nat.le_refl _)]
 show linesGo [] _ = _
 rw [linesGo_eq, pre_nil]
 rfl
def wordsGo : List UInt8 → List UInt8 → List (List UInt8)
 | cur, [] => if cur = [] then [] else [cur]
 | cur, b :: r => if b = 32 then (if cur = [] then wordsGo [] r else cur :: wordsGo [] r) else wordsGo (cur ++ [b]) r
theorem wordsGo_eq : ∀ (r cur : List UInt8), wordsGo cur r = (pre cur (splitOn 32 r)).filter (!·.isEmpty)
 | [], cur => by
  show _ = ([cur ++ []] : List (List UInt8)).filter _
  rw [List.append_nil, wordsGo]
  cases cur <;> rfl
 | b :: r, cur => by
  rw [pre_split, wordsGo]
  split
  · rw [wordsGo_eq r [], pre_nil]
    cases cur <;> rfl
  rw [wordsGo_eq r (cur ++ [b])]
theorem rw_l0 (x0 : ByteArray) (hlen : x0.data.toList.length ≤ 8796093022000) : ∀ (d i f : Nat) (acc : List ByteArray) (k : Nat), i + d = x0.data.toList.length → f ≤ i → acc.length ≤ f → 2 * d + 3 ≤ k →
 cloisterref26_Words.l0 k x0 acc (f : Int) (i : Int) = some (acc ++ bl (wordsGo ((x0.data.toList.take i).drop f) (x0.data.toList.drop i))) := by
 intro d
 induction d with
 | zero =>
  intro i f acc k hi hf ha hk
  obtain ⟨k, rfl⟩ : ∃ m, k = m + 1 + 1 + 1 := ⟨k - 3, by omega⟩
  have hsz : x0.size = x0.data.toList.length := (data_length x0).symm
  have hw : wrap64 ((i : Int) + 1) = ((i + 1 : Nat) : Int) := by rw [w64 (by omega) (by omega)]; omega
  have hend : ∀ (a : List ByteArray) (y : Int), cloisterref26_Words.l0 (k + 1) x0 a y ((i + 1 : Nat) : Int) = some a := fun a y => by
   rw [cloisterref26_Words.l0, if_neg (by omega)]
  have hdn : x0.data.toList.drop i = [] := List.drop_eq_nil_of_le (by omega)
  rw [cloisterref26_Words.l0, if_pos (by omega), if_pos (by omega), cloisterref26_Words.j1, if_pos rfl, hw, hdn, wordsGo]
  have hlen2 : ((x0.data.toList.take i).drop f).length = i - f := by rw [List.length_drop, List.length_take]; omega
  by_cases h : f < i
  · have hne : ¬ (x0.data.toList.take i).drop f = [] := fun e => by rw [e] at hlen2; simp at hlen2; omega
    rw [if_pos (by omega), if_pos (by omega), if_pos (by omega), if_pos (by omega), if_pos (by omega), hend, if_neg hne, Int.toNat_natCast, Int.toNat_natCast]
    show _ = some (acc ++ [(⟨((x0.data.toList.take i).drop f).toArray⟩ : ByteArray)])
    rw [← cut_extract, ba_eta]
  have he : (x0.data.toList.take i).drop f = [] := List.length_eq_zero_iff.1 (by omega)
  rw [if_neg (by omega), hend, if_pos he]
  show _ = some (acc ++ [])
  rw [List.append_nil]
 | succ d ih =>
  intro i f acc k hi hf ha hk
  obtain ⟨k, rfl⟩ : ∃ m, k = m + 1 + 1 := ⟨k - 2, by omega⟩
  have hsz : x0.size = x0.data.toList.length := (data_length x0).symm
  have hlt : i < x0.data.toList.length := by omega
  have hw : wrap64 ((i : Int) + 1) = ((i + 1 : Nat) : Int) := by rw [w64 (by omega) (by omega)]; omega
  rw [cloisterref26_Words.l0, if_pos (by omega), if_neg (by omega), if_pos (by omega), if_pos (by omega), bt_nat x0 i hlt, cloisterref26_Words.j1, hw, List.drop_eq_getElem_cons hlt, wordsGo]
  have hlen2 : ((x0.data.toList.take i).drop f).length = i - f := by rw [List.length_drop, List.length_take]; omega
  have hemp : (x0.data.toList.take (i + 1)).drop (i + 1) = [] := List.drop_eq_nil_of_le (by rw [List.length_take]; omega)
  by_cases h : x0.data.toList[i] = 32
  · rw [if_pos (by rw [h]; rfl), if_pos h]
    by_cases h2 : f < i
    · have hne : ¬ (x0.data.toList.take i).drop f = [] := fun e => by rw [e] at hlen2; simp at hlen2; omega
      rw [if_pos (by omega), if_pos (by omega), if_pos (by omega), if_pos (by omega), if_pos (by omega), if_neg hne, Int.toNat_natCast, Int.toNat_natCast]
      rw [ih (i + 1) (i + 1) _ k (by omega) (Nat.le_refl _) (by rw [List.length_append]; show _ + 1 ≤ _; omega) (by omega), hemp]
      show some (acc ++ [_] ++ bl (wordsGo [] _)) = some (acc ++ ((⟨((x0.data.toList.take i).drop f).toArray⟩ : ByteArray) :: bl (wordsGo [] _)))
      rw [← cut_extract, ba_eta, List.append_assoc]
      rfl
    have he : (x0.data.toList.take i).drop f = [] := List.length_eq_zero_iff.1 (by omega)
    rw [if_neg (by omega), if_pos he, ih (i + 1) (i + 1) acc k (by omega) (Nat.le_refl _) (by omega) (by omega), hemp]
  have hne : ¬ (((x0.data.toList[i]).toNat : Int) == 32) = true := by
   intro e
   exact h (UInt8.toNat_inj.1 (Int.ofNat_inj.1 (beq_iff_eq.1 e)))
  rw [if_neg hne, if_neg h, ih (i + 1) f acc k (by omega) (by omega) ha (by omega), cut_step _ _ _ hf hlt]
theorem rwords_f (t : ByteArray) (ht : t.size ≤ 8796093022000) : cloisterref26_Words.f (2 * t.size + 3) t = some (wordsS t) := by
 unfold cloisterref26_Words.f
 have hsz : t.data.toList.length = t.size := data_length t
 have := rw_l0 t (by omega) t.size 0 0 [] (2 * t.size + 3) (by omega) (Nat.le_refl _) (Nat.le_refl _) (Nat.le_refl _)
 rw [show ((0 : Nat) : Int) = 0 from rfl] at this
 rw [this, List.nil_append, List.drop_zero]
 refine congrArg some (data_inj ?_)
 rw [bl_data, wordsS_data]
 show wordsGo [] _ = _
 rw [wordsGo_eq, pre_nil]
 rfl
end Go.Proofs.YtndbbgihpoiojaaGreatDoor.Q
namespace Go.Proofs.YtndbbgihpoiojaaGreatDoor.Q
open Go.RowKit
abbrev ba (l : List UInt8) : ByteArray := ⟨l.toArray⟩
theorem unq_iff (s : ByteArray) (b : List UInt8) : sc.unquoteL s.data.toList = some b ↔ s = quoteB (ba b) := by
 constructor
 · intro h
   unfold sc.unquoteL at h
   split at h
   · split at h
     · split at h
       · rename_i e; cases h; exact ba_ext e.symm
       cases h
     cases h
   cases h
 intro h
 rw [h]
 exact sc.unquote_quote b
end Go.Proofs.YtndbbgihpoiojaaGreatDoor.Q
namespace Go.Proofs.YtndbbgihpoiojaaGreatDoor.Q
open Go.RowKit Go.Proofs.YtndbbgihpoiojaaGreatDoorW.PrintWords Go.Proofs.YtndbbgihpoiojaaGreatDoorW.PrintLast
def isD (b : UInt8) : Bool := decide (48 ≤ b.toNat) && decide (b.toNat ≤ 57)
theorem isD_iff (b : UInt8) : isD b = true ↔ 48 ≤ b.toNat ∧ b.toNat ≤ 57 := by simp [isD]
def noNought (l : List UInt8) : Bool := if l = [48] then true else match l with
 | [] => false
 | b :: _ => b != 48
def digL (l : List UInt8) : Bool := l.all isD && noNought l
theorem ts_iff (x : ByteArray) (l : List UInt8) : x.toList = l ↔ x.data.toList = l := by rw [toList_data]
theorem rd_l0 (x0 : ByteArray) (hlen : x0.data.toList.length ≤ 8796093022000) : ∀ (d i k : Nat), i + d = x0.data.toList.length → d < k →
 cloisterref26_digits.l0 k x0 (i : Int) = some ((x0.data.toList.drop i).all isD && noNought x0.data.toList) := by
 have hsz : x0.size = x0.data.toList.length := (data_length x0).symm
 intro d
 induction d with
 | zero =>
  intro i k hi hk
  obtain ⟨k, rfl⟩ : ∃ m, k = m + 1 := ⟨k - 1, by omega⟩
  have hdn : x0.data.toList.drop i = [] := List.drop_eq_nil_of_le (by omega)
  rw [cloisterref26_digits.l0, if_neg (by omega), hdn, List.all_nil, Bool.true_and]
  unfold noNought
  by_cases h : x0.data.toList = [48]
  · rw [if_pos ((ts_iff _ _).2 h), if_pos h]
  rw [if_neg (fun e => h ((ts_iff _ _).1 e)), if_neg h]
  cases hl : x0.data.toList with
  | nil => rw [if_pos ((ts_iff _ _).2 hl)]
  | cons b r =>
   have hlt : 0 < x0.data.toList.length := by rw [hl]; exact Nat.succ_pos _
   have hb : bt x0 0 = (b.toNat : Int) := by
    have := bt_nat x0 0 hlt
    rw [show ((0 : Nat) : Int) = 0 from rfl] at this
    rw [this]
    simp [hl]
   rw [if_neg (fun e => by rw [(ts_iff _ _).1 e] at hl; cases hl), if_pos (by omega), hb]
   have : (((b.toNat : Int)) != 48) = (b != 48) := by
    rw [Bool.eq_iff_iff, bne_iff_ne, bne_iff_ne]
    exact ⟨fun h e => h (by rw [e]; rfl), fun h e => h (UInt8.toNat_inj.1 (Int.ofNat_inj.1 e))⟩
   rw [this]
 | succ d ih =>
  intro i k hi hk
  obtain ⟨k, rfl⟩ : ∃ m, k = m + 1 := ⟨k - 1, by omega⟩
  have hlt : i < x0.data.toList.length := by omega
  have hw : wrap64 ((i : Int) + 1) = ((i + 1 : Nat) : Int) := by rw [w64 (by omega) (by omega)]; omega
  rw [cloisterref26_digits.l0, if_pos (by omega), if_pos (by omega), bt_nat x0 i hlt, hw, List.drop_eq_getElem_cons hlt, List.all_cons]
  generalize x0.data.toList[i] = b
  by_cases h1 : b.toNat < 48
  · rw [if_pos (by omega), show isD b = false by simp [isD]; omega]
    rfl
  by_cases h2 : 57 < b.toNat
  · rw [if_neg (by omega), if_pos (by omega), show isD b = false by simp [isD]; omega]
    rfl
  rw [if_neg (by omega), if_neg (by omega), show isD b = true by simp [isD]; omega, Bool.true_and]
  exact ih (i + 1) k (by omega) (by omega)
theorem rdigits_f (x : ByteArray) (h : x.size ≤ 8796093022000) (k : Nat) (hk : x.size < k) : cloisterref26_digits.f k x = some (digL x.data.toList) := by
 have hsz : x.data.toList.length = x.size := data_length x
 exact rd_l0 x (by omega) x.size 0 k (by omega) hk
def valF (V : Nat) (l : List UInt8) : Nat := l.foldl (fun a b => 10 * a + (b.toNat - 48)) V
theorem valF_cons (V : Nat) (b : UInt8) (l : List UInt8) : valF V (b :: l) = valF (10 * V + (b.toNat - 48)) l := by
 unfold valF
 rw [List.foldl_cons]
theorem valF_snoc (V : Nat) (b : UInt8) (l : List UInt8) : valF V (l ++ [b]) = 10 * valF V l + (b.toNat - 48) := by
 unfold valF
 rw [List.foldl_append]
 rfl
theorem valF_le : ∀ (l : List UInt8) (V : Nat), V ≤ valF V l
 | [], V => Nat.le_refl _
 | b :: l, V => Nat.le_trans (by omega) (valF_le l (10 * V + (b.toNat - 48)))
theorem noN_init {l : List UInt8} {b : UInt8} (h : noNought (l ++ [b]) = true) (hne : l ≠ []) : ∃ c r, l = c :: r ∧ c ≠ 48 := by
 cases l with
 | nil => exact absurd rfl hne
 | cons c r =>
  refine ⟨c, r, rfl, fun e => ?_⟩
  unfold noNought at h
  rw [if_neg (by simp)] at h
  simp [e] at h
theorem noN_of {l : List UInt8} (h : ∃ c r, l = c :: r ∧ c ≠ 48) : noNought l = true := by
 obtain ⟨c, r, rfl, hc⟩ := h
 unfold noNought
 split
 · rfl
 simp [hc]
theorem dec_val : ∀ (n : Nat) (l : List UInt8), l.length ≤ n → digL l = true → Lib.decDigits (valF 0 l) = l ∧ ((∃ c r, l = c :: r ∧ c ≠ 48) → 1 ≤ valF 0 l) := by
 intro n
 induction n with
 | zero =>
  intro l hl h
  have : l = [] := List.length_eq_zero_iff.1 (by omega)
  subst this
  simp [digL, noNought] at h
 | succ n ih =>
  intro l hl h
  unfold digL at h
  rw [Bool.and_eq_true] at h
  obtain ⟨ha, hn⟩ := h
  rcases List.eq_nil_or_concat l with rfl | ⟨l', b, rfl⟩
  · simp [noNought] at hn
  rw [List.concat_eq_append] at ha hn hl ⊢
  rw [List.all_append, Bool.and_eq_true] at ha
  have hb : 48 ≤ b.toNat ∧ b.toNat ≤ 57 := (isD_iff b).1 (by simpa using ha.2)
  rw [valF_snoc]
  by_cases hne : l' = []
  · subst hne
    show Lib.decDigits (10 * 0 + (b.toNat - 48)) = [b] ∧ _
    rw [Nat.mul_zero, Nat.zero_add, Lib.decDigits_one (by omega)]
    refine ⟨?_, ?_⟩
    · rw [show 48 + (b.toNat - 48) = b.toNat by omega]
      simp
    rintro ⟨c, r, e, hc⟩
    injection e with e1 e2
    subst e1
    show 1 ≤ 10 * valF 0 [] + (b.toNat - 48)
    have : b.toNat ≠ 48 := fun e => hc (UInt8.toNat_inj.1 e)
    omega
  have hc := noN_init hn hne
  have hd : digL l' = true := by unfold digL; rw [ha.1, noN_of hc]; rfl
  obtain ⟨i1, i2⟩ := ih l' (by simp at hl; omega) hd
  have hv := i2 hc
  refine ⟨?_, fun _ => by omega⟩
  rw [sc.dec_step (by omega), show (10 * valF 0 l' + (b.toNat - 48)) / 10 = valF 0 l' by omega, show (10 * valF 0 l' + (b.toNat - 48)) % 10 = b.toNat - 48 by omega, i1, show 48 + (b.toNat - 48) = b.toNat by omega]
  simp
theorem dig_dec : ∀ (n u : Nat), u < n → digL (Lib.decDigits u) = true ∧ valF 0 (Lib.decDigits u) = u ∧ (1 ≤ u → ∃ c r, Lib.decDigits u = c :: r ∧ c ≠ 48) := by
 intro n
 induction n with
 | zero => intro u h; omega
 | succ n ih =>
  intro u h
  by_cases h10 : u < 10
  · rw [Lib.decDigits_one h10]
    have hn := sc.dig_nat u h10
    refine ⟨?_, ?_, fun hu => ⟨_, [], rfl, fun e => ?_⟩⟩
    · unfold digL
      rw [List.all_cons, List.all_nil, (isD_iff _).2 (by rw [hn]; omega)]
      by_cases h0 : u = 0
      · subst h0; rfl
      rw [noN_of ⟨_, [], rfl, fun e => by
       have := congrArg UInt8.toNat e
       rw [hn] at this
       have h48 : (48 : UInt8).toNat = 48 := rfl
       omega⟩]
      rfl
    · show 10 * 0 + ((UInt8.ofNat (48 + u)).toNat - 48) = u
      rw [hn]; omega
    have := congrArg UInt8.toNat e
    rw [hn] at this
    have h48 : (48 : UInt8).toNat = 48 := rfl
    omega
  obtain ⟨i1, i2, i3⟩ := ih (u / 10) (by omega)
  have hn := sc.dig_nat (u % 10) (by omega)
  obtain ⟨c, r, e, hc⟩ := i3 (by omega)
  have hcr : ∃ c' r', Lib.decDigits u = c' :: r' ∧ c' ≠ 48 := ⟨c, r ++ [UInt8.ofNat (48 + u % 10)], by rw [sc.dec_step h10, e]; rfl, hc⟩
  refine ⟨?_, ?_, fun _ => hcr⟩
  · unfold digL
    rw [noN_of hcr, Bool.and_true]
    exact List.all_eq_true.2 (fun b hb => (isD_iff b).2 (sc.dec_dig u b hb))
  rw [sc.dec_step h10, valF_snoc, i2, hn]; omega
theorem dig_iff (l : List UInt8) (u : Nat) : l = Lib.decDigits u ↔ digL l = true ∧ valF 0 l = u := by
 constructor
 · rintro rfl
   have := dig_dec (u + 1) u (by omega)
   exact ⟨this.1, this.2.1⟩
 rintro ⟨h, rfl⟩
 exact (dec_val l.length l (Nat.le_refl _) h).1.symm
theorem dig_zero (l : List UInt8) (h : digL l = true) : valF 0 l = 0 ↔ l = [48] := by
 constructor
 · intro h0
   rw [(dig_iff l 0).2 ⟨h, h0⟩, Lib.decDigits_one (by omega)]
   rfl
 rintro rfl; rfl
def finN (m : Bool) (V : Nat) : Int × Bool := if V ≤ 9223372036854775808 then (if m then (-(V : Int), true) else (wrap64 (V : Int), ((-(V : Int)) != (-9223372036854775808)))) else (0, false)
theorem tdiv_neg (d : Nat) (h : d ≤ 9) : Int.tdiv ((-9223372036854775808) + (d : Int)) 10 = -(((9223372036854775808 - d) / 10 : Nat) : Int) := by
 have e : (-9223372036854775808) + (d : Int) = -((9223372036854775808 - d : Nat) : Int) := by omega
 rw [e, Int.neg_tdiv]
 rfl
theorem rn_l0 (x0 : ByteArray) (m : Bool) (hlen : x0.data.toList.length ≤ 8796093022000) : ∀ (d i V k : Nat), i + d = x0.data.toList.length → d < k → V ≤ 9223372036854775808 → (x0.data.toList.drop i).all isD = true →
 cloisterref26_Number.l0 k x0 m (-(V : Int)) (i : Int) = some (finN m (valF V (x0.data.toList.drop i))) := by
 have hsz : x0.size = x0.data.toList.length := (data_length x0).symm
 intro d
 induction d with
 | zero =>
  intro i V k hi hk hV hd
  obtain ⟨k, rfl⟩ : ∃ q, k = q + 1 := ⟨k - 1, by omega⟩
  have hdn : x0.data.toList.drop i = [] := List.drop_eq_nil_of_le (by omega)
  rw [cloisterref26_Number.l0, if_neg (by omega), hdn]
  show _ = some (finN m V)
  unfold finN
  rw [if_pos hV]
  cases m
  · rw [if_neg Bool.false_ne_true, if_neg Bool.false_ne_true, Int.neg_neg]
  rw [if_pos rfl, if_pos rfl]
 | succ d ih =>
  intro i V k hi hk hV hd
  obtain ⟨k, rfl⟩ : ∃ q, k = q + 1 := ⟨k - 1, by omega⟩
  have hlt : i < x0.data.toList.length := by omega
  have hw : wrap64 ((i : Int) + 1) = ((i + 1 : Nat) : Int) := by rw [w64 (by omega) (by omega)]; omega
  rw [List.drop_eq_getElem_cons hlt, List.all_cons, Bool.and_eq_true] at hd
  rw [cloisterref26_Number.l0, if_pos (by omega), if_pos (by omega), bt_nat x0 i hlt, hw, List.drop_eq_getElem_cons hlt, valF_cons]
  have hb := (isD_iff _).1 hd.1
  have hr := hd.2
  generalize x0.data.toList[i] = b at hb ⊢
  obtain ⟨q, hq⟩ : ∃ q, b.toNat = 48 + q := ⟨b.toNat - 48, by omega⟩
  have hm : ((b.toNat : Int) - 48) % 256 = (q : Int) := by omega
  rw [hm, tdiv_neg q (by omega), hq, show 48 + q - 48 = q by omega]
  by_cases h : 10 * V + q ≤ 9223372036854775808
  · rw [if_neg (by omega)]
    have e : wrap64 (wrap64 (10 * -(V : Int)) - (q : Int)) = -((10 * V + q : Nat) : Int) := by
     rw [w64 (x := 10 * -(V : Int)) (by omega) (by omega), w64 (by omega) (by omega)]
     omega
    rw [e]
    exact ih (i + 1) (10 * V + q) k (by omega) (by omega) h hr
  rw [if_pos (by omega)]
  have := valF_le (x0.data.toList.drop (i + 1)) (10 * V + q)
  unfold finN
  rw [if_neg (by omega)]
theorem drop1_data (x : ByteArray) : (x.extract 1 x.size).data.toList = x.data.toList.drop 1 := by
 rw [extract_data, List.take_of_length_le]
 rw [List.length_drop, data_length]
 omega
def refNum (l : List UInt8) : Int × Bool := match l with
 | 45 :: r => if digL r = true ∧ r ≠ [48] then finN true (valF 0 r) else (0, false)
 | l => if digL l = true then finN false (valF 0 l) else (0, false)
theorem refNum_ne (b : UInt8) (r : List UInt8) (h : ¬ b = 45) : refNum (b :: r) = if digL (b :: r) = true then finN false (valF 0 (b :: r)) else (0, false) := by
 unfold refNum
 split
 · rename_i r' e
   injection e with e1 e2
   exact absurd e1 h
 rfl
theorem rn_j1 (x : ByteArray) (m : Bool) (h : x.size ≤ 8796093022000) (k : Nat) (hk : x.size + 2 ≤ k) : cloisterref26_Number.j1 (k + 1) x m = some (if digL x.data.toList = true ∧ ¬ (m = true ∧ x.data.toList = [48]) then finN m (valF 0 x.data.toList) else (0, false)) := by
 obtain ⟨k, rfl⟩ : ∃ q, k = q + 1 := ⟨k - 1, by omega⟩
 have hsz : x.data.toList.length = x.size := data_length x
 rw [cloisterref26_Number.j1, rdigits_f x h (k + 1) (by omega), Option.bind_some]
 by_cases hd : digL x.data.toList = true
 · rw [if_pos hd]
   have hall : (x.data.toList.drop 0).all isD = true := by
    unfold digL at hd
    rw [Bool.and_eq_true] at hd
    rw [List.drop_zero]
    exact hd.1
   have hl := rn_l0 x m (by omega) x.size 0 0 k (by omega) (by omega) (by omega) hall
   rw [show (-((0 : Nat) : Int)) = 0 from rfl, show ((0 : Nat) : Int) = 0 from rfl, List.drop_zero] at hl
   cases m
   · rw [if_neg Bool.false_ne_true, cloisterref26_Number.j2, if_neg Bool.false_ne_true, hl, if_pos ⟨hd, fun e => Bool.false_ne_true e.1⟩]
   rw [if_pos rfl, cloisterref26_Number.j2]
   by_cases h0 : x.data.toList = [48]
   · rw [if_pos (beq_iff_eq.2 ((ts_iff _ _).2 h0)), if_neg (fun e => e.2 ⟨rfl, h0⟩)]
   rw [if_neg (fun e => h0 ((ts_iff _ _).1 (beq_iff_eq.1 e))), hl, if_pos ⟨hd, fun e => h0 e.2⟩]
 rw [if_neg hd, cloisterref26_Number.j2, if_pos rfl, if_neg (fun e => hd e.1)]
theorem rnum_f (x : ByteArray) (h : x.size ≤ 8796093022000) (k : Nat) (hk : x.size + 4 ≤ k) : cloisterref26_Number.f k x = some (refNum x.data.toList) := by
 obtain ⟨k, rfl⟩ : ∃ q, k = q + 1 + 1 := ⟨k - 2, by omega⟩
 have hsz : x.data.toList.length = x.size := data_length x
 unfold cloisterref26_Number.f
 cases hl : x.data.toList with
 | nil =>
  rw [if_pos ((ts_iff _ _).2 hl), cloisterref26_Number.j0, if_neg Bool.false_ne_true, rn_j1 x false h k (by omega), hl]
  rfl
 | cons b r =>
  have hlt : 0 < x.data.toList.length := by rw [hl]; exact Nat.succ_pos _
  have hb : bt x 0 = (b.toNat : Int) := by
   have := bt_nat x 0 hlt
   rw [show ((0 : Nat) : Int) = 0 from rfl] at this
   rw [this]
   simp [hl]
  rw [if_neg (fun e => by rw [(ts_iff _ _).1 e] at hl; cases hl), if_pos (by omega), hb]
  by_cases h45 : b = 45
  · subst h45
    have hd1 : (x.extract 1 x.size).data.toList = r := by rw [drop1_data, hl]; rfl
    have hs1 : (x.extract 1 x.size).size ≤ x.size := by rw [← data_length, hd1, ← hsz, hl]; simp
    rw [show ((((45 : UInt8).toNat : Int)) == 45) = true from rfl, cloisterref26_Number.j0, if_pos rfl, if_pos (by omega), rn_j1 _ true (by omega) k (by omega), hd1]
    unfold refNum
    by_cases hc : digL r = true ∧ r ≠ [48]
    · rw [if_pos ⟨hc.1, fun e => hc.2 e.2⟩]
      simp only [hc, and_self, ne_eq, not_false_eq_true, if_true]
    rw [if_neg (fun e => hc ⟨e.1, fun e2 => e.2 ⟨rfl, e2⟩⟩)]
    simp only [hc, if_false]
  have hne : ((b.toNat : Int) == 45) = false := beq_eq_false_iff_ne.2 (fun e => h45 (UInt8.toNat_inj.1 (Int.ofNat_inj.1 e)))
  rw [hne, cloisterref26_Number.j0, if_neg Bool.false_ne_true, rn_j1 x false h k (by omega), hl]
  rw [refNum_ne b r h45]
  by_cases hc : digL (b :: r) = true
  · rw [if_pos ⟨hc, fun e => Bool.false_ne_true e.1⟩, if_pos hc]
  rw [if_neg (fun e => hc e.1), if_neg hc]
theorem refNum_eq (x : ByteArray) : (refNum x.data.toList).2 = (sc.numOf x).isSome ∧ ∀ n, sc.numOf x = some n → (refNum x.data.toList).1 = n := by
 have key : ∀ n, sc.numOf x = some n ↔ refNum x.data.toList = (n, true) := by
  intro n
  rw [sc.numOf_iff]
  unfold Lib.itoa refNum sc.InInt
  constructor
  · rintro ⟨⟨h1, h2⟩, e⟩
    by_cases hn : n < 0
    · rw [if_pos hn] at e
      rw [e]
      have hd := (dig_iff (Lib.decDigits n.natAbs) n.natAbs).1 rfl
      have h0 : Lib.decDigits n.natAbs ≠ [48] := fun e0 => by
       have := (dig_zero _ hd.1).2 e0
       omega
      simp only [hd.1, hd.2, h0, ne_eq, not_false_eq_true, and_self, if_true]
      unfold finN
      rw [if_pos (by omega), if_pos rfl]
      exact Prod.ext (by show -((n.natAbs : Int)) = n; omega) rfl
    rw [if_neg hn] at e
    rw [e]
    have hd := (dig_iff (Lib.decDigits n.toNat) n.toNat).1 rfl
    have h45 : ∀ r, Lib.decDigits n.toNat ≠ 45 :: r := fun r e0 => by
     have := sc.dec_dig n.toNat 45 (by rw [e0]; exact List.mem_cons_self ..)
     have h45 : (45 : UInt8).toNat = 45 := rfl
     omega
    split
    · rename_i r e0
      exact absurd e0 (h45 r)
    rw [if_pos hd.1, hd.2]
    unfold finN
    rw [if_pos (by omega), if_neg Bool.false_ne_true, w64 (by omega) (by omega)]
    refine Prod.ext (by show ((n.toNat : Nat) : Int) = n; omega) ?_
    show (-((n.toNat : Nat) : Int) != -9223372036854775808) = true
    rw [bne_iff_ne]
    omega
  intro h
  split at h
  · rename_i r e
    split at h
    · rename_i hc
      unfold finN at h
      split at h
      · rename_i hV
        rw [if_pos rfl] at h
        injection h with h1 h2
        have hz := mt (dig_zero r hc.1).1 hc.2
        refine ⟨by omega, ?_⟩
        rw [if_pos (by omega), e, show n.natAbs = valF 0 r by omega, ← (dig_iff r (valF 0 r)).2 ⟨hc.1, rfl⟩]
      injection h with h1 h2
      cases h2
    injection h with h1 h2
    cases h2
  rename_i l hno
  split at h
  · rename_i hc
    unfold finN at h
    split at h
    · rename_i hV
      rw [if_neg Bool.false_ne_true] at h
      injection h with h1 h2
      rw [bne_iff_ne] at h2
      rw [w64 (by omega) (by omega)] at h1
      refine ⟨by omega, ?_⟩
      rw [if_neg (by omega), show n.toNat = valF 0 x.data.toList by omega]
      exact (dig_iff _ _).2 ⟨hc, rfl⟩
    injection h with h1 h2
    cases h2
  injection h with h1 h2
  cases h2
 constructor
 · cases hn : sc.numOf x with
   | some n => rw [(key n).1 hn]; rfl
   | none =>
    show _ = false
    cases hb : (refNum x.data.toList).2 with
    | false => rfl
    | true =>
     have := (key (refNum x.data.toList).1).2 (Prod.ext rfl hb)
     rw [hn] at this
     cases this
 intro n hn
 rw [(key n).1 hn]
theorem rlab_l0 (x0 : ByteArray) (hlen : x0.data.toList.length ≤ 8796093022000) : ∀ (d i V k : Nat), i + d = x0.data.toList.length → d < k → V ≤ 18446744073709551615 → (x0.data.toList.drop i).all isD = true →
 cloisterref26_Label.l0 k x0 (V : Int) (i : Int) = some (if valF V (x0.data.toList.drop i) ≤ 18446744073709551615 then ((valF V (x0.data.toList.drop i) : Int), true) else (0, false)) := by
 have hsz : x0.size = x0.data.toList.length := (data_length x0).symm
 intro d
 induction d with
 | zero =>
  intro i V k hi hk hV hd
  obtain ⟨k, rfl⟩ : ∃ q, k = q + 1 := ⟨k - 1, by omega⟩
  have hdn : x0.data.toList.drop i = [] := List.drop_eq_nil_of_le (by omega)
  rw [cloisterref26_Label.l0, if_neg (by omega), hdn]
  show _ = some (if V ≤ _ then ((V : Int), true) else _)
  rw [if_pos hV]
 | succ d ih =>
  intro i V k hi hk hV hd
  obtain ⟨k, rfl⟩ : ∃ q, k = q + 1 := ⟨k - 1, by omega⟩
  have hlt : i < x0.data.toList.length := by omega
  have hw : wrap64 ((i : Int) + 1) = ((i + 1 : Nat) : Int) := by rw [w64 (by omega) (by omega)]; omega
  rw [List.drop_eq_getElem_cons hlt, List.all_cons, Bool.and_eq_true] at hd
  rw [cloisterref26_Label.l0, if_pos (by omega), if_pos (by omega), bt_nat x0 i hlt, hw, List.drop_eq_getElem_cons hlt, valF_cons]
  have hb := (isD_iff _).1 hd.1
  have hr := hd.2
  generalize x0.data.toList[i] = b at hb ⊢
  obtain ⟨q, hq⟩ : ∃ q, b.toNat = 48 + q := ⟨b.toNat - 48, by omega⟩
  have hm : ((b.toNat : Int) - 48) % 256 = (q : Int) := by omega
  rw [hm, hq, show 48 + q - 48 = q by omega]
  by_cases h : 10 * V + q ≤ 18446744073709551615
  · rw [if_neg (by omega)]
    have e : IntKind.u64.wrap (IntKind.u64.wrap (10 * (V : Int)) + (q : Int)) = ((10 * V + q : Nat) : Int) := by
     rw [IntWalk.u64_in (10 * (V : Int)) (by omega), IntWalk.u64_in _ (by omega)]
     omega
    rw [e]
    exact ih (i + 1) (10 * V + q) k (by omega) (by omega) h hr
  rw [if_pos (by omega)]
  have := valF_le (x0.data.toList.drop (i + 1)) (10 * V + q)
  rw [if_neg (by omega)]
def refLab (l : List UInt8) : Int × Bool := if digL l = true then (if valF 0 l ≤ 18446744073709551615 then ((valF 0 l : Int), true) else (0, false)) else (0, false)
theorem rlab_f (x : ByteArray) (h : x.size ≤ 8796093022000) (k : Nat) (hk : x.size < k) : cloisterref26_Label.f k x = some (refLab x.data.toList) := by
 have hsz : x.data.toList.length = x.size := data_length x
 unfold cloisterref26_Label.f refLab
 rw [rdigits_f x h k hk, Option.bind_some]
 by_cases hd : digL x.data.toList = true
 · rw [if_pos hd, if_pos hd]
   have hall : (x.data.toList.drop 0).all isD = true := by
    unfold digL at hd
    rw [Bool.and_eq_true] at hd
    rw [List.drop_zero]
    exact hd.1
   have := rlab_l0 x (by omega) x.size 0 0 k (by omega) hk (by omega) hall
   rw [show ((0 : Nat) : Int) = 0 from rfl, List.drop_zero] at this
   exact this
 rw [if_neg hd, if_neg hd]
theorem refLab_eq (x : ByteArray) : (refLab x.data.toList).2 = (sc.labelOf x).isSome ∧ ∀ n : Nat, sc.labelOf x = some n → (refLab x.data.toList).1 = n := by
 have key : ∀ n : Nat, sc.labelOf x = some n ↔ refLab x.data.toList = ((n : Int), true) := by
  intro n
  rw [sc.labelOf_iff, dig_iff]
  unfold refLab
  constructor
  · rintro ⟨h1, h2, rfl⟩
    rw [if_pos h2, if_pos h1]
  intro h
  split at h
  · rename_i hc
    split at h
    · injection h with h1 h2
      have : valF 0 x.data.toList = n := by omega
      exact ⟨by omega, hc, this⟩
    injection h with h1 h2
    cases h2
  injection h with h1 h2
  cases h2
 have hnn : 0 ≤ (refLab x.data.toList).1 := by
  unfold refLab
  split
  · split
    · exact Int.natCast_nonneg _
    exact Int.le_refl _
  exact Int.le_refl _
 constructor
 · cases hn : sc.labelOf x with
   | some n => rw [(key n).1 hn]; rfl
   | none =>
    show _ = false
    cases hb : (refLab x.data.toList).2 with
    | false => rfl
    | true =>
     have := (key (refLab x.data.toList).1.toNat).2 (Prod.ext (by show _ = ((_ : Nat) : Int); omega) hb)
     rw [hn] at this
     cases this
 intro n hn
 rw [(key n).1 hn]
end Go.Proofs.YtndbbgihpoiojaaGreatDoor.Q
