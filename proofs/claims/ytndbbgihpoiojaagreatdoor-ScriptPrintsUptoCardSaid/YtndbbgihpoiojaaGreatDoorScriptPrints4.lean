/- Script: texts merged, part 4: cut to what the claim uses. -/
import Derived.Test.YtndbbgihpoiojaaGreatDoorScriptPrints3
set_option linter.unusedVariables false
set_option linter.unusedSimpArgs false
set_option maxRecDepth 100000
set_option maxHeartbeats 8000000
namespace Go.Proofs.YtndbbgihpoiojaaGreatDoor.it
open Go Go.RowKit Go.Shelf Go.Proofs.YtndbbgihpoiojaaGreatDoor.wld Go.Proofs.YtndbbgihpoiojaaGreatDoorW.PrintWords Go.Proofs.YtndbbgihpoiojaaGreatDoorW.PrintLast
attribute [local go_sem] Oper.semAt_some
def trimL (x : ByteArray) : ByteArray := ⟨(Lib.trimSuffix x.data.toList [10]).toArray⟩
theorem trim_c (x : ByteArray) (hs : x.size ≤ maxLen) (w : World) : Calls Tryz.prog 65 #[.string x, .string ⟨#[10]⟩] w fun e w' => e = .returned (.string (trimL x)) ∧ w = w' :=
 (Tryz.strings_TrimSuffix x ⟨#[10]⟩ w hs).mono fun _ _ h => ⟨h.1, h.2.symm⟩
theorem info9' : (Tryz.prog.info? 9).map (fun i => (i.zero, i.size, i.bytes)) = some (some (.string ⟨#[]⟩), 1, 16) := by kernel_rfl
theorem kept_grown {w w' : World} {b : Nat} (h : Kept (fun k => k = b) w w') : w.grownBy w' (some b) :=
 ⟨h.os, h.tape, h.output, h.size, fun k hk hne => h.block k hk (fun e => hne (by rw [e]))⟩
theorem row_base {w : World} {base e size n g : Nat} {v : Value} {xs : List Value} (h : w.ownsRow base e size v n xs) (hg : v.ownBlock = some g) : base ≤ g := by
 rcases h.2 with ⟨rfl, _⟩ | ⟨g', cap, cur, rfl, hb, _⟩
 · simp [Value.ownBlock] at hg
 obtain rfl : g' = g := by simpa [Value.ownBlock] using hg
 exact hb
theorem row_le {w : World} {base base' e size n : Nat} {v : Value} {xs : List Value} (h : w.ownsRow base e size v n xs) (hb : base' ≤ base) : w.ownsRow base' e size v n xs := by
 refine ⟨h.1, ?_⟩
 rcases h.2 with h2 | ⟨g', cap, cur, h3, hb', h4⟩
 · exact .inl h2
 exact .inr ⟨g', cap, cur, h3, Nat.le_trans hb hb', h4⟩
def Coll (w0 : World) (B base : Nat) (f : List ByteArray → List ByteArray) (pre : List ByteArray) (W : World) : Prop :=
 (∃ v, Boxed W B 71 v ∧ W.ownsRow base 9 1 v (f pre).length ((f pre).map Value.string) ∧ (v = .slice none 0 0 ↔ f pre = [])) ∧ Below w0.heap.size w0 W
theorem Coll.own (w0 : World) (B base A : Nat) (f : List ByteArray → List ByteArray) (hA : w0.heap.size ≤ A) : OwnFrom A (Coll w0 B base f) :=
 OwnFrom.and (Own.from (holdsRow_own base B 71 9 1 (fun pre => (f pre).length) (fun pre => (f pre).map Value.string) (fun pre v => v = .slice none 0 0 ↔ f pre = [])) _) (ownFrom_below (Nat.le_refl _) hA)
theorem Coll.box (w0 : World) (B base b : Nat) (f : List ByteArray → List ByteArray) (hb : b < base) (hB : B ≠ b) (h0 : w0.heap.size ≤ b) : ∀ p X Y, Coll w0 B base f p X → Kept (fun k => k = b) X Y → Coll w0 B base f p Y := by
 rintro p X Y ⟨⟨v, hv, hr, hn⟩, hB'⟩ hk
 have hg := kept_grown hk
 refine ⟨⟨v, hv.kept hg (fun e => hB (by injection e)), hr.kept hg ?_, hn⟩, hB'.grown hg hB'.size (fun k e => by cases e; exact h0)⟩
 cases hu : v.ownBlock with
 | none => 
  rcases hr.2 with ⟨rfl, _⟩ | ⟨g', cap, cur, rfl, hb', _⟩
  · exact .inl rfl
  simp [Value.ownBlock] at hu
 | some g => exact .inr (fun e => by injection e with e; have := row_base hr hu; omega)
theorem Coll.start (w0 : World) (base : Nat) (f : List ByteArray → List ByteArray) (hf : f [] = []) {W : World} (hv : Boxed W w0.heap.size 71 (.slice none 0 0)) (hb : Below w0.heap.size w0 W) : Coll w0 w0.heap.size base f [] W := by
 refine ⟨⟨_, hv, ?_, by rw [hf]; simp⟩, hb⟩
 rw [hf]
 exact World.ownsRow_nil _ _ _ _
theorem Coll.put {w0 W1 w9 : World} {B base b m g9 c9 : Nat} {f : List ByteArray → List ByteArray} {pre : List ByteArray} {x y : ByteArray} {v : Value} {tmp : Obj}
 (hv : Boxed W1 B 71 v) (hrow : W1.ownsRow base 9 1 v (f pre).length ((f pre).map Value.string)) (hB0 : Below w0.heap.size w0 W1) (hfx : f (pre ++ [x]) = f pre ++ [y]) (hBb : B < b) (h0 : w0.heap.size ≤ B) (hbm : b + m ≤ base) (hsz : base ≤ W1.heap.size)
 (hown : w9.ownsRow base 9 1 (.slice (some ⟨g9, 0, none⟩) ((f pre).length + 1) c9) ((f pre).length + 1) ((f pre).map Value.string ++ [.string y])) (hg : (W1.alloc tmp).grownBy w9 v.ownBlock) :
 Boxed w9 B 71 v ∧ KeepsOthers W1 (w9.setCell ⟨B, 0, none⟩ (.slice (some ⟨g9, 0, none⟩) ((f pre).length + 1) c9)) ∧ KB b m W1 (w9.setCell ⟨B, 0, none⟩ (.slice (some ⟨g9, 0, none⟩) ((f pre).length + 1) c9)) ∧
  Coll w0 B base f (pre ++ [x]) (w9.setCell ⟨B, 0, none⟩ (.slice (some ⟨g9, 0, none⟩) ((f pre).length + 1) c9)) := by
 obtain ⟨h1, h2, h3, h4, h5⟩ := (Boxed.appended (n₀ := w0.heap.size) hv (by decide) (row_le hrow (by omega)) (by omega) h0 (row_le hown (by omega)) hg)
 have hr3 := hown.kept (grownBy_setCell' w9 B (.slice (some ⟨g9, 0, none⟩) ((f pre).length + 1) c9)) (.inr (h1.not_row (by decide) hown).symm)
 refine ⟨h1, h4, fun k hk1 hk2 => ?_, ⟨_, h2, ?_, ?_⟩, hB0.trans h5⟩
 · refine (wld.set_other (by simp; omega) _).trans ((hg.block k (by simp; omega) ?_).trans (wld.alloc_other (by omega) _))
   intro e
   have := row_base hrow e.symm
   omega
 · rw [hfx]
   simpa using hr3
 rw [hfx]
 simp
theorem linesF_len : ∀ (k : Nat) (s : ByteArray), s.size ≤ k → (linesF k s).length ≤ s.size
 | 0, s, h => by simp [linesF]
 | k + 1, s, h => by
  rw [linesF]
  split
  · simp
  split
  · simp; omega
  rename_i h1
  have hi := indexByte_lt s.data.toList 10
  rw [← Lib.size_eq] at hi
  have := linesF_len k (s.extract (Lib.indexByte s.data.toList 10 + 1).toNat s.size) (by rw [extract_size']; omega)
  rw [extract_size'] at this
  simp only [List.length_cons]
  omega
theorem linesS_len (s : ByteArray) : (linesS s).length ≤ s.size := linesF_len s.size s (Nat.le_refl _)
theorem linesF_size : ∀ (k : Nat) (s : ByteArray), ∀ x ∈ linesF k s, x.size ≤ s.size
 | 0, s, x, hx => by simp [linesF] at hx
 | k + 1, s, x, hx => by
  rw [linesF] at hx
  split at hx
  · cases hx
  split at hx
  · rw [List.mem_singleton.1 hx]; exact Nat.le_refl _
  rcases List.mem_cons.1 hx with rfl | hx
  · simp; omega
  have := linesF_size k _ x hx
  rw [extract_size'] at this
  omega
theorem linesS_size (s : ByteArray) : ∀ x ∈ linesS s, x.size ≤ s.size := linesF_size s.size s
theorem splitF_len (c : UInt8) : ∀ (k : Nat) (s : ByteArray), s.size ≤ k → (splitF c k s).length ≤ s.size + 1
 | 0, s, h => by simp [splitF]
 | k + 1, s, h => by
  rw [splitF]
  split
  · simp
  rename_i h1
  have hi := indexByte_lt s.data.toList c
  rw [← Lib.size_eq] at hi
  have := splitF_len c k (s.extract (Lib.indexByte s.data.toList c + 1).toNat s.size) (by rw [extract_size']; omega)
  rw [extract_size'] at this
  simp only [List.length_cons]
  omega
theorem splitS_len (c : UInt8) (s : ByteArray) : (splitS c s).length ≤ s.size + 1 := splitF_len c s.size s (Nat.le_refl _)
theorem linesOf_w (s : ByteArray) (w : World) (hs : s.size ≤ 4294967296) :
 Calls Tryz.prog 37 #[.string s] w fun e w' => ∃ v, e = .returned v ∧ w'.ownsRow w.heap.size 9 1 v ((linesS s).map trimL).length (((linesS s).map trimL).map Value.string) ∧ (v = .slice none 0 0 ↔ (linesS s).map trimL = []) ∧ Below w.heap.size w w' := by
 obtain ⟨i0, hi, hz0, hz1, hz2⟩ := info_parts info9'
 have hnum := linesS_len s
 have hall := linesS_size s
 refine (callsIn_wide (n := 2)).1 ?_
 refine callsIn_of_wp_marks Tryz.func37 rfl trivial ?_ rfl
 simp only [Tryz.ntmps37, List.size_toArray, List.length_cons, List.length_nil, Nat.reduceAdd, Nat.reduceSub, Array.replicate_succ, Array.replicate_zero, List.push_toArray, List.append_toArray, List.nil_append, List.cons_append]
 gi_wp2_with (refine ⟨trivial, ?_⟩; gi_at_call 64; refine (callsIn_wide.2 (lines_c _ _)).mono ?_; rintro e w' ⟨rfl, rfl⟩)
 have bO := Boxed.new w 71 (.slice none 0 0)
 have bN := Boxed.new (w.alloc (.cells #[.slice none 0 0] 71)) 9 (.string s)
 rw [World.size_alloc] at bN
 have hB0 : Below w.heap.size w ((w.alloc (.cells #[.slice none 0 0] 71)).alloc (.cells #[.string s] 9)) := ((Below.refl _ w).alloc (Nat.le_refl _) _).alloc (by simp) _
 refine wpIn_rangeFunc_all (n := 2) rfl (by decide) (gf := 81) (lb := #[.pointer (some ⟨w.heap.size + 1, 0, none⟩)]) rfl trivial (enters_of Tryz.func81 (by kernel_rfl) rfl) (encs := fun x : ByteArray => #[Value.string x]) (b := w.heap.size + 1) (m := 1) (xs := linesS s) (by decide) (by simp)
  ?seq (fun _ => rfl) (Coll w w.heap.size (w.heap.size + 2) (List.map trimL)) (Coll.own _ _ _ _ _ (by simp; omega)) (Coll.box _ _ _ _ _ (by omega) (by omega) (by omega)) (Coll.start w _ _ rfl (bO.alloc _) hB0)
  (fun x => { tmps := #[.string s, undef, .slice none 0 0, .pointer (some ⟨w.heap.size, 0, none⟩), .string x, .string s, .func (.func 81) #[] #[.pointer (some ⟨w.heap.size + 1, 0, none⟩)], .string x, undef, undef, undef, undef, undef, undef], defers := [] }) ?assign ?body ?done
 case seq => exact fun l J W hkb hsz hJ hY h0 => lines1 l (w.heap.size + 1) s (by unfold maxLen; omega) J hJ hY W ((hkb _ (Nat.le_refl _) (by omega)).trans bN) h0
 case assign =>
  intro l x W K hK
  gi_wp2
  exact hK
 case body =>
  rintro l pre x rest W hxs ⟨⟨v, hv0, hrow0, hnil⟩, hB1⟩ hlt
  have hxm : x ∈ linesS s := by rw [hxs]; simp
  have hx1 := hall x hxm
  have hlen : pre.length + 1 ≤ s.size := by
   rw [hxs] at hnum
   simp at hnum
   omega
  have hv1 : Boxed W.drew w.heap.size 71 v := hv0
  have hrow1 : W.drew.ownsRow (w.heap.size + 2) 9 1 v (pre.map trimL).length ((pre.map trimL).map Value.string) := hrow0
  have hB2 : Below w.heap.size w W.drew := hB1.drew
  have hsz : w.heap.size + 2 ≤ W.drew.heap.size := by show _ ≤ W.heap.size; simp at hlt; omega
  have hKO := KeepsOthers.drew W
  have hKB : KB (w.heap.size + 1) 1 W W.drew := KB.refl _ _ _
  have HS := Lib.hid hx1
  have HN := Lib.hid hlen
  have HR := Lib.hid hrow1
  have HNIL := Lib.hid hnil
  have HXS := Lib.hid hxs
  have HB2 := Lib.hid hB2
  have HSZ := Lib.hid hsz
  have HKO := Lib.hid hKO
  have HKB := Lib.hid hKB
  clear hx1 hlen hrow1 hrow0 hnil hxs hB1 hB2 hsz hKO hKB hxm hlt hnum hall
  gi_wp2
  refine startR_ (n := 6) (S := fun w' => w'.cell? ⟨w.heap.size, 0, none⟩ = some v) (ds := [5]) #[false, false, false, false, false, false] (by kernel_rfl) rfl rfl (by kernel_rfl) (fun _ _ h => h) (hv1.cell) (fun hHeld => ?_)
  generalize W.drew = w1 at hHeld hv1 HR HB2 HSZ HKO HKB ⊢
  refine pu_ 1 9 (bs_ 6 2) rfl rfl (by kernel_rfl) rfl (by intro w'; go_simp; with_reducible rfl) (by simp only [Act.put, aS, aZ, aC, i64_w, i32_w]; rfl) (fun _ _ _ h => h) ?_
  refine take_ (i := 0) (N := some 8) (v := ?_) (a' := ?_) (bs_ 6 3) rfl rfl (by kernel_rfl) (fun _ _ _ h => h) (Or.inl ⟨by rfl, ?_⟩) hHeld ?_ ?_
  rotate_left
  · intro w' s0
    go_simp
    with_reducible rfl
  rotate_left
  · simp only [Act.put, aS, aZ, aC, i64_w, i32_w]
    rfl
  refine one_ (i := 2) (N := some 10) (bs_ 6 7) rfl rfl (by kernel_rfl) (by decide) (fun K hK => ?_)
  refine goes_ Tryz.func65 (by kernel_rfl) rfl #[.string x, .string ⟨#[10]⟩] (by rfl) rfl rfl (by (try simp only [aT, aK, aL]); first | done | rfl) ?_
  refine (trim_c x (by unfold maxLen; have := HS.out; omega) _).mono ?_
  rintro e w2 ⟨rfl, rfl⟩
  refine ⟨_, rfl, ?_⟩
  refine hK.out _ _ (hv1.cell) (fun hHeld => ?_)
  clear hK K
  refine no_ (by simp only [Act.put, aS, aZ, aC, i64_w, i32_w]; rfl) ?_
  refine one_ (i := 3) (N := some 11) (bs_ 6 15) rfl rfl (by kernel_rfl) (by decide) (fun K hK => ?_)
  refine value_ (w1 := ?_) (v := ?_) (by rfl) rfl ?_ ?_
  rotate_left 2
  · go_simp
    constructor
    · rfl
    rfl
  refine hK.out _ _ ((hv1.alloc _).cell) (fun hHeld => ?_)
  clear hK K
  refine no_ (by simp only [Act.put, aS, aZ, aC, i64_w, i32_w]; rfl) ?_
  refine one_ (i := 4) (N := some 12) (bs_ 6 31) rfl rfl (by kernel_rfl) (by decide) (fun K hK => ?_)
  refine step_append_lies _ rfl (.tmp 8) (.tmp 11) 71 rfl (w.heap.size + 2) 9 i0 (.string ⟨#[]⟩) 1 16 Tryz.underlying71 hi hz0 hz1 hz2 rfl (by decide) v (pre.map trimL).length ((pre.map trimL).map Value.string) rfl (HR.out.alloc _) ⟨_, 0, none⟩ 1 1 [.string (trimL x)] rfl rfl (cell_one_new _ _ _) (by simp [Value.oneCell']) (by decide) (by unfold maxLen; have := HN.out; simp; omega) (by have := HN.out; simp; omega) (by have := HSZ.out; simp; omega) _ rfl ?_
  intro g9 c9 w9 hown9 hg9 hat9 hlt9
  obtain ⟨hv9, hk10, hkb10, hcoll⟩ := Coll.put (w0 := w) (b := w.heap.size + 1) (m := 1) (f := List.map trimL) (x := x) hv1 HR.out HB2.out (by simp) (by omega) (Nat.le_refl _) (by omega) HSZ.out hown9 hg9
  simp only [List.length_map] at hk10 hkb10 hcoll
  have hf9 := hv9.frozen
  refine hK.out _ _ (hv9.cell) (fun hHeld => ?_)
  clear hK K
  refine no_ (by simp only [Act.put, aS, aZ, aC, i64_w, i32_w]; rfl) ?_
  refine last_ (i := 5) (N := none) (bs_ 6 63) rfl rfl (by kernel_rfl) (by decide) (fun K hK => ?_)
  refine skip_ (w1 := ?_) (by rfl) rfl ?_ ?_
  rotate_left
  · go_simp
    rfl
  refine hK.out _ _ ?_
  clear hK K
  refine done_ (by kernel_rfl) ?_
  exact ⟨HKO.out.trans hk10, HKB.out.trans hkb10, hcoll⟩
 case done =>
  rintro D W hD ⟨⟨v, hv, hrow, hnil⟩, hB⟩ hK
  have hc := hv.cell
  gi_wp2
  refine ⟨by simp, .inl ⟨_, _, rfl, run_takeDeferred hK, ?_⟩⟩
  exact ⟨_, results_tmp rfl _ _ _, v, rfl, ownsRow_putObj (row_le hrow (by omega)) _ hK rfl, hnil, hB.trans (belowK_b (w := w) (Nat.le_refl _) W D _ _ (by simp at hD; omega) hK rfl rfl)⟩
def wordsOfL (l : List ByteArray) : List ByteArray := l.filter fun x => !x.data.toList.isEmpty
theorem wordsOfL_le (l : List ByteArray) : (wordsOfL l).length ≤ l.length := List.length_filter_le _ _
theorem wordsOfL_hit (l : List ByteArray) {x : ByteArray} (h : x.data.toList ≠ []) : wordsOfL (l ++ [x]) = wordsOfL l ++ [x] := by
 simp [wordsOfL, List.filter_append, List.filter_cons]
 simpa using h
theorem wordsOfL_miss (l : List ByteArray) {x : ByteArray} (h : x.data.toList = []) : wordsOfL (l ++ [x]) = wordsOfL l := by
 simp [wordsOfL, List.filter_append, List.filter_cons]
 simpa using h
theorem str_nil {x : ByteArray} (h : x.data.toList = []) : x = ⟨#[]⟩ := by
 obtain ⟨⟨l⟩⟩ := x
 simp at h
 subst h
 rfl
theorem wordsOf_w (s : ByteArray) (w : World) (hs : s.size ≤ 4294967296) :
 Calls Tryz.prog 38 #[.string s] w fun e w' => ∃ v, e = .returned v ∧ w'.ownsRow w.heap.size 9 1 v (wordsOfL (splitS 32 s)).length ((wordsOfL (splitS 32 s)).map Value.string) ∧ (v = .slice none 0 0 ↔ wordsOfL (splitS 32 s) = []) ∧ Below w.heap.size w w' := by
 obtain ⟨i0, hi, hz0, hz1, hz2⟩ := info_parts info9'
 have hnum := splitS_len 32 s
 refine (callsIn_wide (n := 2)).1 ?_
 refine callsIn_of_wp_marks Tryz.func38 rfl trivial ?_ rfl
 simp only [Tryz.ntmps38, List.size_toArray, List.length_cons, List.length_nil, Nat.reduceAdd, Nat.reduceSub, Array.replicate_succ, Array.replicate_zero, List.push_toArray, List.append_toArray, List.nil_append, List.cons_append]
 gi_wp2_with (refine ⟨trivial, ?_⟩; gi_at_call 66; refine (callsIn_wide.2 (splitSeq_c _ _ _)).mono ?_; rintro e w' ⟨rfl, rfl⟩)
 have bO := Boxed.new w 71 (.slice none 0 0)
 have bN := Boxed.new (w.alloc (.cells #[.slice none 0 0] 71)) 9 (.string s)
 rw [World.size_alloc] at bN
 have bN1 := Boxed.new ((w.alloc (.cells #[.slice none 0 0] 71)).alloc (.cells #[.string s] 9)) 9 (.string ⟨#[32]⟩)
 rw [World.size_alloc, World.size_alloc] at bN1
 have bN2 := Boxed.new (((w.alloc (.cells #[.slice none 0 0] 71)).alloc (.cells #[.string s] 9)).alloc (.cells #[.string ⟨#[32]⟩] 9)) 3 (.int .i64 0)
 rw [World.size_alloc, World.size_alloc, World.size_alloc] at bN2
 have hB0 : Below w.heap.size w ((((w.alloc (.cells #[.slice none 0 0] 71)).alloc (.cells #[.string s] 9)).alloc (.cells #[.string ⟨#[32]⟩] 9)).alloc (.cells #[.int .i64 0] 3)) := ((((Below.refl _ w).alloc (Nat.le_refl _) _).alloc (by simp) _).alloc (by simp; omega) _).alloc (by simp; omega) _
 refine wpIn_rangeFunc_all (n := 2) rfl (by decide) (gf := 107) (lb := #[.pointer (some ⟨w.heap.size + 2, 0, none⟩), .pointer (some ⟨w.heap.size + 1, 0, none⟩), .pointer (some ⟨w.heap.size + 3, 0, none⟩)]) rfl trivial (enters_of Tryz.func107 (by kernel_rfl) rfl) (encs := fun x : ByteArray => #[Value.string x]) (b := w.heap.size + 1) (m := 3) (xs := splitS 32 s) (by decide) (by simp)
  ?seq (fun _ => rfl) (Coll w w.heap.size (w.heap.size + 4) wordsOfL) (Coll.own _ _ _ _ _ (by simp; omega)) (Coll.box _ _ _ _ _ (by omega) (by omega) (by omega)) (Coll.start w _ _ rfl (((bO.alloc _).alloc _).alloc _) hB0)
  (fun x => { tmps := #[.string s, undef, .slice none 0 0, .pointer (some ⟨w.heap.size, 0, none⟩), .string x, .string s, .func (.func 107) #[] #[.pointer (some ⟨w.heap.size + 2, 0, none⟩), .pointer (some ⟨w.heap.size + 1, 0, none⟩), .pointer (some ⟨w.heap.size + 3, 0, none⟩)], .string x, undef, undef, undef, undef, undef, undef, undef], defers := [] }) ?assign ?body ?done
 case seq => exact fun l J W hkb hsz hJ hY h0 => split1 l (w.heap.size + 1) s (by unfold maxLen; omega) J hJ hY W ((hkb _ (Nat.le_refl _) (by omega)).trans ((bN.alloc _).alloc _)) ((hkb (w.heap.size + 1 + 1) (by omega) (by omega)).trans (bN1.alloc _)) ((hkb (w.heap.size + 1 + 2) (by omega) (by omega)).trans bN2) h0
 case assign =>
  intro l x W K hK
  gi_wp2
  exact hK
 case body =>
  rintro l pre x rest W hxs ⟨⟨v, hv, hrow, hnil⟩, hB1⟩ hlt
  have hlen : pre.length + 1 ≤ s.size + 1 := by
   rw [hxs] at hnum
   simp at hnum
   omega
  have hwl := wordsOfL_le pre
  have hsz : w.heap.size + 4 ≤ W.heap.size := by simp at hlt; omega
  have HN := Lib.hid hlen
  have HWL := Lib.hid hwl
  have HR := Lib.hid hrow
  have HNIL := Lib.hid hnil
  have HB1 := Lib.hid hB1
  have HSZ := Lib.hid hsz
  clear hlen hrow hnil hxs hB1 hsz hlt hnum hwl
  have hc := hv.cell
  by_cases hx : x.data.toList = []
  · have hm := wordsOfL_miss pre hx
    obtain rfl := str_nil hx
    have HM := Lib.hid hm
    clear hx hm
    gi_wp2
    refine ⟨KeepsOthers.refl _, KB.refl _ _ _, ⟨v, hv, ?_, ?_⟩, HB1.out⟩
    · rw [HM.out]; exact HR.out
    rw [HM.out]; exact HNIL.out
  have hm := wordsOfL_hit pre hx
  have HM := Lib.hid hm
  have hx1 : x.toList.isEmpty = false := by
   rw [Lib.toList_data]
   cases h : x.data.toList with
   | nil => exact absurd h hx
   | cons a l => rfl
  clear hx hm
  gi_wp2_with (gi_at_builtin; refine wpListIn_append_own _ rfl _ _ 71 rfl (w.heap.size + 4) 9 i0 (.string ⟨#[]⟩) 1 16 Tryz.underlying71 hi hz0 hz1 hz2 rfl (by decide) _ _ _ rfl (HR.out.alloc _) ⟨W.heap.size, 0, none⟩ 1 1 [.string x] rfl rfl (cell_one_new _ _ _) (by simp [Value.oneCell']) (by unfold maxLen; have := HN.out; have := HWL.out; omega) (by have := HN.out; have := HWL.out; omega) (by have := HSZ.out; simp; omega) ?_; intro v' w1 hown' hgrow _; obtain ⟨g', cap', rfl⟩ := ownsRow_succ hown'; obtain ⟨hv9, hk10, hkb10, hcoll⟩ := Coll.put (w0 := w) (b := w.heap.size + 1) (m := 3) (f := wordsOfL) (x := x) hv HR.out HB1.out HM.out (by omega) (Nat.le_refl _) (by omega) HSZ.out hown' hgrow; have hc1 := hv9.cell; have hf1 := hv9.frozen)
  exact ⟨hk10, hkb10, hcoll⟩
 case done =>
  rintro D W hD ⟨⟨v, hv, hrow, hnil⟩, hB⟩ hK
  have hc := hv.cell
  gi_wp2
  refine ⟨by simp, .inl ⟨_, _, rfl, run_takeDeferred hK, ?_⟩⟩
  exact ⟨_, results_tmp rfl _ _ _, v, rfl, ownsRow_putObj (row_le hrow (by omega)) _ hK rfl, hnil, hB.trans (belowK_b (w := w) (Nat.le_refl _) W D _ _ (by simp at hD; omega) hK rfl rfl)⟩
end Go.Proofs.YtndbbgihpoiojaaGreatDoor.it
namespace Go.Proofs.YtndbbgihpoiojaaGreatDoor.Q
open Go.RowKit Go.Proofs.YtndbbgihpoiojaaGreatDoorW.PrintWords Go.Proofs.YtndbbgihpoiojaaGreatDoorW.PrintLast
open Go.Proofs.YtndbbgihpoiojaaGreatDoor.it (linesS splitS splitF linesF wordsOfL trimL linesS_len linesS_size indexByte_lt extract_size')
def wordsS (ln : ByteArray) : List ByteArray := wordsOfL (splitS 32 ln)
def linesT (t : ByteArray) : List ByteArray := (linesS t).map trimL
def skips (ws : List ByteArray) : Bool := match ws with
 | [] => true
 | w :: _ => w.data.toList.headD 0 == 35
abbrev S0_ : Stt := ([], [], [], [])
def parseL : Nat → List ByteArray → Stt → (Int × Int) × Option Stt
 | _, [], s => ((0, 0), some s)
 | i, ln :: rest, s => if skips (wordsS ln) then parseL (i + 1) rest s else match lineOf (wordsS ln) s with
  | (_, some s') => parseL (i + 1) rest s'
  | (c, none) => (((i : Int) + 1, c), none)
def parseS (t : ByteArray) : (Int × Int) × Option Stt := if 65536 < t.size then ((0, 3), none) else if 4096 < (linesT t).length then ((0, 3), none) else parseL 0 (linesT t) S0_
def cntS (s : Stt) : Nat := s.1.length + s.2.1.length + s.2.2.1.length + s.2.2.2.length
def OneMore (rd : Rd) : Prop := ∀ ws s s', rd ws s = some s' → cntS s' = cntS s + 1
theorem one_map {α : Type} {o : Option α} {f : α → Stt} {s s' : Stt} (hf : ∀ x, cntS (f x) = cntS s + 1) (h : o.map f = some s') : cntS s' = cntS s + 1 := by
 cases o with
 | none => cases h
 | some x => cases h; exact hf x
theorem cnt_addEv (s : Stt) (x : S52) : cntS (addEv s x) = cntS s + 1 := by simp [addEv, cntS]; omega
theorem one_label : OneMore rdLabel := fun ws s s' h => by
 unfold rdLabel at h; split at h
 · exact one_map (fun x => by simp [cntS]; omega) h
 cases h
theorem one_account : OneMore rdAccount := fun ws s s' h => by
 unfold rdAccount at h; split at h
 · exact one_map (fun x => by simp [cntS]; omega) h
 cases h
theorem one_session : OneMore rdSession := fun ws s s' h => by
 unfold rdSession at h; split at h
 · exact one_map (fun x => by simp [cntS]; omega) h
 cases h
theorem one_event (k : Int) (p : Bool) : OneMore (rdEvent k p) := fun ws s s' h => one_map (cnt_addEv s) h
theorem one_ask : OneMore rdAsk := fun ws s s' h => by
 unfold rdAsk at h; split at h
 · exact one_map (cnt_addEv s) h
 cases h
theorem one_askB (k : Int) : OneMore (rdAskB k) := fun ws s s' h => by
 unfold rdAskB at h; split at h
 · exact one_map (cnt_addEv s) h
 cases h
theorem one_get (k : Int) : OneMore (rdGet k) := fun ws s s' h => by
 unfold rdGet at h; split at h
 · exact one_map (cnt_addEv s) h
 cases h
theorem one_put (k : Int) : OneMore (rdPut k) := fun ws s s' h => by
 unfold rdPut at h; split at h
 · exact one_map (cnt_addEv s) h
 cases h
theorem one_scan (k : Int) : OneMore (rdScan k) := fun ws s s' h => by
 unfold rdScan at h; split at h
 · exact one_map (cnt_addEv s) h
 cases h
theorem oneOf_ {n : Int} {more : Bool} {rd rd' : Rd} {x : Option (Int × Bool × Rd)} {c : Prop} [Decidable c] {n' : Int} {more' : Bool} (h : (if c then some (n', more', rd') else x) = some (n, more, rd)) (h1 : OneMore rd') (h2 : x = some (n, more, rd) → OneMore rd) : OneMore rd := by
 split at h
 · injection h with h; injection h with _ h; injection h with _ h; subst h; exact h1
 exact h2 h
theorem form_one {k : ByteArray} {n : Int} {more : Bool} {rd : Rd} (h : formOf k = some (n, more, rd)) : OneMore rd := by
 unfold formOf at h
 exact oneOf_ h one_label fun h => oneOf_ h one_account fun h => oneOf_ h one_session fun h => oneOf_ h (one_event _ _) fun h => oneOf_ h (one_event _ _) fun h => oneOf_ h (one_event _ _) fun h => oneOf_ h (one_event _ _) fun h => by cases h
theorem ask_one {k : ByteArray} {n : Int} {more : Bool} {rd : Rd} (h : askOf k = some (n, more, rd)) : OneMore rd := by
 unfold askOf at h
 exact oneOf_ h one_ask fun h => oneOf_ h (one_get _) fun h => oneOf_ h (one_scan _) fun h => oneOf_ h (one_put _) fun h => oneOf_ h (one_get _) fun h => oneOf_ h (one_askB _) fun h => oneOf_ h (one_askB _) fun h => by cases h
theorem sel_one {ws : List ByteArray} {n : Int} {more : Bool} {rd : Rd} (h : (if hd0 ws = (⟨#[97, 115, 107]⟩ : ByteArray) ∧ 2 < ws.length then askOf (ws.getD 2 ⟨#[]⟩) else formOf (hd0 ws)) = some (n, more, rd)) : OneMore rd := by
 split at h
 · exact ask_one h
 exact form_one h
theorem lineOf_cases (ws : List ByteArray) (s : Stt) : (∃ s', lineOf ws s = (0, some s') ∧ cntS s' = cntS s + 1) ∨ (lineOf ws s = (260, none)) ∨ (lineOf ws s = (261, none)) := by
 unfold lineOf
 split
 · exact .inr (.inl rfl)
 rename_i n more rd hsel
 split
 · exact .inr (.inl rfl)
 split
 · exact .inr (.inr rfl)
 rename_i s' hrd
 exact .inl ⟨s', rfl, sel_one hsel _ _ _ hrd⟩
theorem splitF_size (c : UInt8) : ∀ (k : Nat) (s : ByteArray), ∀ x ∈ splitF c k s, x.size ≤ s.size
 | 0, s, x, hx => by rw [List.mem_singleton.1 hx]; exact Nat.le_refl _
 | k + 1, s, x, hx => by
  rw [splitF] at hx
  split at hx
  · rw [List.mem_singleton.1 hx]; exact Nat.le_refl _
  rcases List.mem_cons.1 hx with rfl | hx
  · simp; omega
  have := splitF_size c k _ x hx
  rw [extract_size'] at this
  omega
theorem nonempty_size {x : ByteArray} (h : (!x.data.toList.isEmpty) = true) : 1 ≤ x.size := by
 rw [Lib.size_eq]
 cases hx : x.data.toList with
 | nil => rw [hx] at h; cases h
 | cons a l => simp
theorem splitF_words (c : UInt8) : ∀ (k : Nat) (s : ByteArray), s.size ≤ k → (wordsOfL (splitF c k s)).length ≤ s.size
 | 0, s, h => by
  have h0 : s.data.toList = [] := by
   have := Lib.size_eq s
   exact List.eq_nil_of_length_eq_zero (by omega)
  unfold wordsOfL splitF
  rw [List.filter_cons, h0]
  simp
 | k + 1, s, h => by
  rw [splitF]
  split
  · unfold wordsOfL
    rw [List.filter_cons]
    split
    · rename_i hx
      have := nonempty_size hx
      simpa using this
    simp
  rename_i h1
  have hi := indexByte_lt s.data.toList c
  rw [← Lib.size_eq] at hi
  have ih := splitF_words c k (s.extract (Lib.indexByte s.data.toList c + 1).toNat s.size) (by rw [extract_size']; omega)
  rw [extract_size'] at ih
  unfold wordsOfL at ih ⊢
  rw [List.filter_cons]
  split
  · rename_i hx
    have := nonempty_size hx
    simp at this
    simp only [List.length_cons]
    omega
  omega
theorem words_len (ln : ByteArray) : (wordsS ln).length ≤ ln.size := splitF_words 32 ln.size ln (Nat.le_refl _)
theorem words_size (ln : ByteArray) : ∀ x ∈ wordsS ln, x.size ≤ ln.size ∧ 1 ≤ x.size := fun x hx => by
 unfold wordsS wordsOfL at hx
 rw [List.mem_filter] at hx
 exact ⟨splitF_size 32 ln.size ln x hx.1, nonempty_size hx.2⟩
theorem trimL_size (x : ByteArray) : (trimL x).size ≤ x.size := by
 have : (trimL x).size = (Lib.trimSuffix x.data.toList [10]).length := by unfold trimL; simp [ByteArray.size]
 rw [this, Lib.size_eq]
 unfold Lib.trimSuffix
 split
 · simp
 exact Nat.le_refl _
theorem linesT_size (t : ByteArray) : ∀ x ∈ linesT t, x.size ≤ t.size := fun x hx => by
 obtain ⟨y, hy, rfl⟩ := List.mem_map.1 hx
 exact Nat.le_trans (trimL_size y) (linesS_size t y hy)
end Go.Proofs.YtndbbgihpoiojaaGreatDoor.Q
namespace Go.Proofs.YtndbbgihpoiojaaGreatDoor.Q
open Go.RowKit Go.Proofs.YtndbbgihpoiojaaGreatDoorW.PrintWords Go.Proofs.YtndbbgihpoiojaaGreatDoorW.PrintLast
open Go.Proofs.YtndbbgihpoiojaaGreatDoor.it
structure Rows4 (w : World) (base : Nat) (v0 v1 v2 v3 : Value) (s : Stt) : Prop where
 r0 : Kd.R (Kd.int .u64) 68 w base TT_ v0 s.1
 r1 : Kd.R k70 70 w base TT_ v1 s.2.1
 r2 : Kd.R (Kd.int .i64) 3 w base TT_ v2 s.2.2.1
 r3 : EvR w base v3 s.2.2.2
def ParseOut (w w' : World) (p : (Int × Int) × Option Stt) (e : Ending) : Prop := ∃ v0 v1 v2 v3, e = .returned (.tuple #[.agg #[v0, v1, v2], v3, .int .i64 p.1.1, .int .i64 p.1.2]) ∧ (∃ base, w.heap.size ≤ base ∧ Rows4 w' base v0 v1 v2 v3 (p.2.getD S0_)) ∧ Below w.heap.size w w'
theorem EvR.nil (w : World) (base : Nat) : EvR w base (.slice none 0 0) [] := ⟨[], Kd.R_nil _ _ _ _ _, rfl, fun p hp => by cases hp⟩
theorem Rows4.nil (w : World) (base : Nat) : Rows4 w base (.slice none 0 0) (.slice none 0 0) (.slice none 0 0) (.slice none 0 0) S0_ := ⟨Kd.R_nil _ _ _ _ _, Kd.R_nil _ _ _ _ _, Kd.R_nil _ _ _ _ _, EvR.nil _ _⟩
abbrev nil3 : Array Value := #[.slice none 0 0, .slice none 0 0, .slice none 0 0]
theorem parse_big (t : ByteArray) (w : World) (ht : 65536 < t.size) (ht2 : t.size ≤ 140737488355328) : Calls Tryz.prog 22 #[.string t] w fun e w' => ParseOut w w' ((0, 3), none) e := by
 go_enter Tryz.func22, Tryz.ntmps22
 go_wp2
 go_step3
 go_wp2
 rw [Exit.noGoto_ret]
 exact bodyPost_ret (v := .tuple #[.agg nil3, .slice none 0 0, .int .i64 0, .int .i64 3]) (by simp [results, Tryz.results22, go_sem]) rfl ⟨_, _, _, _, rfl, ⟨_, Nat.le_refl _, Rows4.nil _ _⟩, (Below.refl _ _).alloc (Nat.le_refl _) _⟩
theorem linesOf_r (t : ByteArray) (w : World) (base : Nat) (hbase : base ≤ w.heap.size) (hs : t.size ≤ 65536) : Calls Tryz.prog 37 #[.string t] w fun e w' => ∃ v, e = .returned v ∧ Kd.R Kd.string 9 w' base TT_ v (linesT t) ∧ Below w.heap.size w w' := by
 refine (linesOf_w t w (by omega)).mono ?_
 rintro e w' ⟨v, rfl, ho, _, hb⟩
 exact ⟨v, rfl, Kd.R_of_own (enc := Value.string) (h1 := fun _ => rfl) (row_le ho hbase) (fun _ _ => trivial), hb⟩
theorem wordsOf_r (t : ByteArray) (w : World) (hs : t.size ≤ 65536) : Calls Tryz.prog 38 #[.string t] w fun e w' => ∃ v, e = .returned v ∧ Kd.R Kd.string 9 w' w.heap.size TT_ v (wordsS t) ∧ (v = .slice none 0 0 ↔ wordsS t = []) ∧ Below w.heap.size w w' := by
 refine (wordsOf_w t w (by omega)).mono ?_
 rintro e w' ⟨v, rfl, ho, hn, hb⟩
 exact ⟨v, rfl, Kd.R_of_own (enc := Value.string) (h1 := fun _ => rfl) ho (fun _ _ => trivial), hn, hb⟩
theorem cell3 {w : World} {p : Addr} {v : Value} {b : Nat} (h : w.cell? p = some v) (hne : p.block ≠ b) (x y z : Value) : (((w.setCell ⟨b, 0, none⟩ x).setCell ⟨b, 1, none⟩ y).setCell ⟨b, 2, none⟩ z).cell? p = some v :=
 wld.cellSet (wld.cellSet (wld.cellSet h hne x) hne y) hne z
theorem keep3 (w : World) (b : Nat) (x y z : Value) : KeepBut w (((w.setCell ⟨b, 0, none⟩ x).setCell ⟨b, 1, none⟩ y).setCell ⟨b, 2, none⟩ z) b none := (((KeepBut.refl w b none).set_ 0 x).set_ 1 y).set_ 2 z
theorem other26 : Other 26 := by unfold Other; decide
theorem below3 {n b : Nat} {w w1 : World} (h : Below n w w1) (hb : n ≤ b) (x y z : Value) : Below n w (((w1.setCell ⟨b, 0, none⟩ x).setCell ⟨b, 1, none⟩ y).setCell ⟨b, 2, none⟩ z) :=
 ((h.setCell (p := ⟨b, 0, none⟩) hb x).setCell (p := ⟨b, 1, none⟩) hb y).setCell (p := ⟨b, 2, none⟩) hb z
theorem parse_many (t : ByteArray) (w : World) (ht : t.size ≤ 65536) (hn : 4096 < (linesT t).length) : Calls Tryz.prog 22 #[.string t] w fun e w' => ParseOut w w' ((0, 3), none) e := by
 have HT := Lib.hid ht
 go_enter Tryz.func22, Tryz.ntmps22
 go_wp2
 go_step3
 go_wp2_with fail
 refine (linesOf_r t _ w.heap.size (by simp) HT.out).mono ?_
 rintro e w1 ⟨v, rfl, hr, hb⟩
 obtain ⟨A, c, rfl, hc⟩ := Kd.R_reads hr
 have HB := Lib.hid hb
 have hx := wld.alloc_same w (.cells nil3 26)
 have hx2 := (hb.block w.heap.size (by simp)).trans hx
 have hc0 := wld.cell_of (o := 0) (v := .slice none 0 0) hx2 rfl
 have hc1 := wld.cell_of (o := 1) (v := .slice none 0 0) hx2 rfl
 have hc2 := wld.cell_of (o := 2) (v := .slice none 0 0) hx2 rfl
 have hf0 := wld.free_of (o := 0) hx2
 have hf1 := wld.free_of (o := 1) hx2
 have hf2 := wld.free_of (o := 2) hx2
 clear hb hr
 go_wp2
 rw [Exit.noGoto_ret]
 refine bodyPost_ret (v := .tuple #[.agg nil3, .slice none 0 0, .int .i64 0, .int .i64 3]) (by simp [results, Tryz.results22, go_sem, hc0, hc1, hc2]) rfl ⟨_, _, _, _, rfl, ⟨_, Nat.le_refl _, Rows4.nil _ _⟩, ?_⟩
 exact below3 ((b1_ (Below.refl _ _) _).trans (HB.out.mono (by simp))) (Nat.le_refl _) _ _ _
theorem skips_eq (h : ByteArray) (tl : List ByteArray) (hh : 0 < h.size) : skips (h :: tl) = ((h[0].toNat : Int) == 35) := by
 obtain ⟨⟨l⟩⟩ := h
 cases l with
 | nil => cases hh
 | cons a l =>
  show ((a :: l).headD 0 == 35) = ((a.toNat : Int) == 35)
  simp only [List.headD_cons]
  rw [Bool.eq_iff_iff]
  simp only [beq_iff_eq]
  constructor
  · rintro rfl; rfl
  intro h
  have : a.toNat = 35 := by omega
  exact UInt8.toNat_inj.1 this
theorem hsk_of {a b c : Bool} (h : a = b) (h2 : b = c) : a = c := h.trans h2
structure PRel (W wr : World) (rb sb n : Nat) (vl v0 v1 v2 v3 : Value) (L : List ByteArray) (k : Nat) (s : Stt) : Prop where
 hk : k ≤ L.length
 sbk : wr.heap[sb]? = some (.cells #[v0, v1, v2, v3] 89 (0, 0))
 rows : Rows5 wr W.heap.size vl v0 v1 v2 v3 L s.1 s.2.1 s.2.2.1 s.2.2.2
 rest : parseL 0 L S0_ = parseL k (L.drop k) s
 cnt : cntS s ≤ k
 bW : Below W.heap.size W wr
 env : sc.Env wr
def PRelE (W wr : World) (rb sb n : Nat) (vl : Value) (L : List ByteArray) (k : Nat) : Prop := ∃ v0 v1 v2 v3 s, PRel W wr rb sb n vl v0 v1 v2 v3 L k s
theorem parse_main (t : ByteArray) (w : World) (hE : sc.Env w) (ht : t.size ≤ 65536) (hn : (linesT t).length ≤ 4096) : Calls Tryz.prog 22 #[.string t] w fun e w' => ParseOut w w' (parseL 0 (linesT t) S0_) e := by
 have HT := Lib.hid ht
 have HE := Lib.hid hE
 have HR0 := Lib.hid (fun W base hb => linesOf_r t W base hb ht)
 have HSZ := Lib.hid (fun x hx => Nat.le_trans (linesT_size t x hx) ht)
 clear hE
 generalize linesT t = L at *
 go_enter Tryz.func22, Tryz.ntmps22
 go_wp2
 go_step3
 go_wp2_with fail
 obtain ⟨W, hW⟩ : ∃ W, w.alloc (.cells nil3 26) = W := ⟨_, rfl⟩
 have hWx := wld.alloc_same w (.cells nil3 26)
 have hWb := b1_ (Below.refl w.heap.size w) (.cells nil3 26)
 have hWs : W.heap.size = w.heap.size + 1 := by rw [← hW]; simp
 rw [hW] at hWx hWb ⊢
 have HWX := Lib.hid hWx
 have HWB := Lib.hid hWb
 have HWS0 := Lib.hid hWs
 have HWE := Lib.hid (HE.out.below hWb)
 clear hWx hWb hWs hW
 refine (HR0.out W W.heap.size (Nat.le_refl _)).mono ?_
 rintro e w1 ⟨v, rfl, hr, hb⟩
 obtain ⟨A, c, rfl, hc⟩ := Kd.R_reads hr
 have HB := Lib.hid hb
 have HR := Lib.hid hr
 have HC := Lib.hid hc
 clear hb hr hc HR0
 go_wp2
 go_step3
 go_wp2
 have hrel0 : PRelE W (w1.alloc (.cells #[.slice none 0 0, .slice none 0 0, .slice none 0 0, .slice none 0 0] 89)) w.heap.size w1.heap.size L.length (.slice A L.length c) L 0 := by
  refine ⟨_, _, _, _, S0_, Nat.zero_le _, wld.alloc_same _ _, ⟨Kd.R_below HR.out (b1_ (Below.refl _ _) _), Kd.R_nil _ _ _ _ _, Kd.R_nil _ _ _ _ _, Kd.R_nil _ _ _ _ _, EvR.nil _ _⟩, rfl, Nat.le_refl _, ?_, ?_⟩
  · exact b1_ HB.out _
  exact HWE.out.below (b1_ HB.out _)
 have HREL0 := Lib.hid hrel0
 clear hrel0
 go_loopw [26] (fun i wr => ∃ k : Nat, i = .int .i64 k ∧ PRelE W wr w.heap.size w1.heap.size L.length (.slice A L.length c) L k) (fun i _ => L.length - (intOf i).toNat)
 case atStart => exact ⟨0, rfl, HREL0.out⟩
 case round =>
  obtain ⟨k, rfl, v0, v1, v2, v3, s, hP⟩ := hrel
  have HP := Lib.hid hP
  have hkl := hP.hk
  clear hP HREL0
  by_cases hlt : k < L.length
  · obtain ⟨x, hx⟩ : ∃ x, L[k]? = some x := ⟨L[k], List.getElem?_eq_getElem hlt⟩
    have hxm := List.mem_of_getElem? hx
    have hxs := HSZ.out x hxm
    obtain ⟨A', c', hA', hc', hC'⟩ := Kd.R_reads HP.out.rows.l
    injection hA' with e1 e3 e2
    subst e1 e2
    clear e3
    obtain ⟨g, o, hA, hg, hcell⟩ := strings_at hC' (by intro e; rw [e] at hlt; simp at hlt)
    subst hA
    have hcx := hcell k x hx
    have hdrop : L.drop k = x :: L.drop (k + 1) := by
     obtain ⟨h1, rfl⟩ := List.getElem?_eq_some_iff.1 hx
     exact List.drop_eq_getElem_cons h1
    have HD := Lib.hid hdrop
    have HW := Lib.hid (wordsOf_r x wr hxs)
    have HXS := Lib.hid hxs
    have HN := Lib.hid hn
    clear hcell hxm hdrop hxs hx hn ht hc' hC' hg
    go_wp2_with fail
    refine HW.out.mono ?_
    rintro e w2 ⟨v, rfl, hr2, hn2, hb2⟩
    have HB2 := Lib.hid hb2
    have HR2 := Lib.hid hr2
    have HN2 := Lib.hid hn2
    clear hb2 hr2 hn2
    have HLEN := Lib.hid (Nat.le_trans (words_len x) HXS.out)
    have HWS := Lib.hid (fun y hy => words_size x y hy)
    have HPL := Lib.hid (show parseL k (x :: L.drop (k + 1)) s = if skips (wordsS x) then parseL (k + 1) (L.drop (k + 1)) s else match lineOf (wordsS x) s with
     | (_, some s') => parseL (k + 1) (L.drop (k + 1)) s'
     | (c, none) => (((k : Int) + 1, c), none) from rfl)
    generalize wordsS x = ws at *
    cases ws with
    | nil =>
     have hv := HN2.out.2 rfl
     subst hv
     go_wp2
     go_roundw
     case rel => exact ⟨k + 1, by go_num, v0, v1, v2, v3, s, hlt, (HB2.out.block _ (wld.lt_of_block HP.out.sbk)).trans HP.out.sbk, HP.out.rows.below HB2.out, by rw [HP.out.rest, HD.out, HPL.out]; rfl, Nat.le_succ_of_le HP.out.cnt, below_step HP.out.bW HB2.out, HP.out.env.below HB2.out⟩
     case measure => simp [intOf]; omega
    | cons h tl =>
     obtain ⟨g2, c2, rfl⟩ := ownsRow_succ (Kd.own_of_R HR2.out)
     obtain ⟨A2, c2', hA2, hcc2, hC2⟩ := Kd.R_reads HR2.out
     injection hA2 with e1 e3 e2
     subst e1 e2
     clear e3
     have hh1 := (HWS.out h (List.mem_cons_self ..)).2
     obtain ⟨gg, oo, hAA, hgg, hcell2⟩ := strings_at hC2 (by simp)
     cases hAA
     have hch := hcell2 0 h rfl
     have HC2 := Lib.hid hC2
     have HCC2 := Lib.hid hcc2
     clear hcell2 hC2 hcc2 hgg
     have hh2 : 0 < h.size := hh1
     have hsk := skips_eq h tl hh2
     have HSK := Lib.hid hsk
     clear hsk
     by_cases hq : ((h[0].toNat : Int) == 35) = true
     · have HQ := Lib.hid (hsk_of HSK.out hq)
       go_wp2_with fail
       go_roundw
       case rel => exact ⟨k + 1, by go_num, v0, v1, v2, v3, s, hlt, (HB2.out.block _ (wld.lt_of_block HP.out.sbk)).trans HP.out.sbk, HP.out.rows.below HB2.out, by rw [HP.out.rest, HD.out, HPL.out, HQ.out, if_pos rfl], Nat.le_succ_of_le HP.out.cnt, below_step HP.out.bW HB2.out, HP.out.env.below HB2.out⟩
       case measure => simp [intOf]; omega
     have hq' : ((h[0].toNat : Int) == 35) = false := by simpa using hq
     have HQ := Lib.hid (hsk_of HSK.out hq')
     clear hq
     go_wp2_with fail
     have hcnt : k < 4096 := Nat.lt_of_lt_of_le hlt HN.out
     have hl := line_calls W w2 w1.heap.size g2 c2 (h :: tl) (.slice (some ⟨g, o, none⟩) L.length c) v0 v1 v2 v3 L s ((HB2.out.block _ (wld.lt_of_block HP.out.sbk)).trans HP.out.sbk) HB.out.size (HP.out.rows.below HB2.out) (below_step HP.out.bW HB2.out) (HP.out.env.below HB2.out) HC2.out HCC2.out (by simp) (fun y hy => Nat.le_trans (HWS.out y hy).1 HXS.out) HLEN.out (by have := HP.out.cnt; unfold cntS at this; omega)
     refine hl.mono ?_
     rintro e w3 ⟨rfl, u0, u1, u2, u3, s', hsb3, hrows3, hs3, hb3⟩
     have hrb := (hb3.block w.heap.size (by have := HWS0.out; omega)).trans HWX.out
     have HSB3 := Lib.hid hsb3
     have HR3 := Lib.hid hrows3
     have HB3 := Lib.hid hb3
     clear hl hsb3 hrows3 hb3
     rcases lineOf_cases (h :: tl) s with ⟨s2, hlo, hc2⟩ | hlo | hlo
     · rw [hlo] at hs3 ⊢
       obtain rfl := hs3 s2 rfl
       have HLO := Lib.hid hlo
       have HC2' := Lib.hid hc2
       clear hlo hc2 hs3 hrb
       go_wp2
       go_roundw
       case rel => exact ⟨k + 1, by go_num, u0, u1, u2, u3, s', hlt, HSB3.out, HR3.out, by rw [HP.out.rest, HD.out, HPL.out, HQ.out, if_neg (by decide), HLO.out], by rw [HC2'.out]; exact Nat.succ_le_succ HP.out.cnt, HB3.out, HWE.out.below HB3.out⟩
       case measure => simp [intOf]; omega
     · have HRES := Lib.hid (show parseL 0 L S0_ = (((k : Int) + 1, 260), none) by rw [HP.out.rest, HD.out, HPL.out, HQ.out, if_neg (by decide), hlo])
       rw [hlo]
       have hc0 := wld.cell_of (o := 0) (v := .slice none 0 0) hrb rfl
       have hc1 := wld.cell_of (o := 1) (v := .slice none 0 0) hrb rfl
       have hc2 := wld.cell_of (o := 2) (v := .slice none 0 0) hrb rfl
       have hf0 := wld.free_of (o := 0) hrb
       have hf1 := wld.free_of (o := 1) hrb
       have hf2 := wld.free_of (o := 2) hrb
       clear hlo hs3 hrb
       go_wp2
       rw [Exit.noGoto_ret]
       refine bodyPost_ret (v := .tuple #[.agg nil3, .slice none 0 0, .int .i64 ((k : Int) + 1), .int .i64 260]) (by simp [results, Tryz.results22, go_sem, hc0, hc1, hc2]) rfl ?_
       rw [HRES.out]
       exact ⟨_, _, _, _, rfl, ⟨_, Nat.le_refl _, Rows4.nil _ _⟩, below3 (HWB.out.trans (HB3.out.mono HWB.out.size)) (Nat.le_refl _) _ _ _⟩
     have HRES := Lib.hid (show parseL 0 L S0_ = (((k : Int) + 1, 261), none) by rw [HP.out.rest, HD.out, HPL.out, HQ.out, if_neg (by decide), hlo])
     rw [hlo]
     have hc0 := wld.cell_of (o := 0) (v := .slice none 0 0) hrb rfl
     have hc1 := wld.cell_of (o := 1) (v := .slice none 0 0) hrb rfl
     have hc2 := wld.cell_of (o := 2) (v := .slice none 0 0) hrb rfl
     have hf0 := wld.free_of (o := 0) hrb
     have hf1 := wld.free_of (o := 1) hrb
     have hf2 := wld.free_of (o := 2) hrb
     clear hlo hs3 hrb
     go_wp2
     rw [Exit.noGoto_ret]
     refine bodyPost_ret (v := .tuple #[.agg nil3, .slice none 0 0, .int .i64 ((k : Int) + 1), .int .i64 261]) (by simp [results, Tryz.results22, go_sem, hc0, hc1, hc2]) rfl ?_
     rw [HRES.out]
     exact ⟨_, _, _, _, rfl, ⟨_, Nat.le_refl _, Rows4.nil _ _⟩, below3 (HWB.out.trans (HB3.out.mono HWB.out.size)) (Nat.le_refl _) _ _ _⟩
  have hkL : k = L.length := by omega
  have hrb := (HP.out.bW.block w.heap.size (by have := HWS0.out; omega)).trans HWX.out
  have hsb := HP.out.sbk
  have HRES := Lib.hid (show parseL 0 L S0_ = ((0, 0), some s) by rw [HP.out.rest, hkL, List.drop_length]; rfl)
  have hk2 : ¬ (k : Int) < L.length := by omega
  clear hkL
  obtain ⟨A0, c0, rfl⟩ := Kd.R_slice HP.out.rows.r0
  obtain ⟨A1, c1, rfl⟩ := Kd.R_slice HP.out.rows.r1
  obtain ⟨A2, c2, rfl⟩ := Kd.R_slice HP.out.rows.r2
  obtain ⟨o3, ho3⟩ := HP.out.rows.r3
  obtain ⟨A3, c3, rfl⟩ := Kd.R_slice ho3.r
  have hc0 := wld.cell_of (o := 0) (v := .slice none 0 0) hrb rfl
  have hc1 := wld.cell_of (o := 1) (v := .slice none 0 0) hrb rfl
  have hc2 := wld.cell_of (o := 2) (v := .slice none 0 0) hrb rfl
  have hf0 := wld.free_of (o := 0) hrb
  have hf1 := wld.free_of (o := 1) hrb
  have hf2 := wld.free_of (o := 2) hrb
  have hd0 := wld.cell_of (o := 0) hsb rfl
  have hd1 := wld.cell_of (o := 1) hsb rfl
  have hd2 := wld.cell_of (o := 2) hsb rfl
  have hd3 := wld.cell_of (o := 3) hsb rfl
  have HRB := Lib.hid hrb
  clear hsb hrb ho3
  have HNE := Lib.hid (show w1.heap.size ≠ w.heap.size by have := HWS0.out; have := HB.out.size; omega)
  go_wp2
  refine start_ (n := 12) (S := fun w' => w'.cell? ⟨w1.heap.size, 0, none⟩ = some (.slice A0 s.1.length c0) ∧ w'.cell? ⟨w1.heap.size, 1, none⟩ = some (.slice A1 s.2.1.length c1) ∧ w'.cell? ⟨w1.heap.size, 2, none⟩ = some (.slice A2 s.2.2.1.length c2) ∧ w'.cell? ⟨w1.heap.size, 3, none⟩ = some (.slice A3 o3.length c3)) (ds := []) #[false, false, false, false, false, false, false, false, false, false, false, false] (by kernel_rfl) rfl rfl ⟨hd0, hd1, hd2, hd3⟩ (fun hHeld => ?_)
  refine pu_ 0 53 (bs_ 12 1) rfl rfl (by kernel_rfl) rfl (by intro w'; go_simp; with_reducible rfl) (by simp only [Act.put, aS, aZ, aC, i64_w, i32_w]; rfl) (fun _ _ _ h => h) ?_
  refine pu_ 1 54 (bs_ 12 3) rfl rfl (by kernel_rfl) rfl (by intro w'; go_simp; with_reducible rfl) (by simp only [Act.put, aS, aZ, aC, i64_w, i32_w]; rfl) (fun _ _ _ h => h) ?_
  refine pu_ 2 55 (bs_ 12 7) rfl rfl (by kernel_rfl) rfl (by intro w'; go_simp; with_reducible rfl) (by simp only [Act.put, aS, aZ, aC, i64_w, i32_w]; rfl) (fun _ _ _ h => h) ?_
  refine pu_ 4 57 (bs_ 12 23) rfl rfl (by kernel_rfl) rfl (by intro w'; go_simp; with_reducible rfl) (by simp only [Act.put, aS, aZ, aC, i64_w, i32_w]; rfl) (fun _ _ _ h => h) ?_
  refine pu_ 5 58 (bs_ 12 55) rfl rfl (by kernel_rfl) rfl (by intro w'; go_simp; with_reducible rfl) (by simp only [Act.put, aS, aZ, aC, i64_w, i32_w]; rfl) (fun _ _ _ h => h) ?_
  refine pu_ 6 59 (bs_ 12 119) rfl rfl (by kernel_rfl) rfl (by intro w'; go_simp; with_reducible rfl) (by simp only [Act.put, aS, aZ, aC, i64_w, i32_w]; rfl) (fun _ _ _ h => h) ?_
  refine ta_ 3 56 (bs_ 12 127) rfl rfl (by kernel_rfl) rfl (by rintro w' ⟨s0, s1, s2, s3⟩; go_simp; with_reducible rfl) hHeld (by simp only [Act.put, aS, aZ, aC, i64_w, i32_w]; rfl) (fun _ _ _ h => h) ?_
  refine ta_ 7 60 (bs_ 12 255) rfl rfl (by kernel_rfl) rfl (by rintro w' ⟨s0, s1, s2, s3⟩; go_simp; with_reducible rfl) hHeld (by simp only [Act.put, aS, aZ, aC, i64_w, i32_w]; rfl) (fun _ _ _ h => h) ?_
  refine one_ (i := 8) (N := none) (bs_ 12 511) rfl rfl (by kernel_rfl) (by decide) (fun K hK => ?_)
  refine skip_ (w1 := ?_) (by rfl) rfl ?_ ?_
  rotate_left
  · go_simp
    rfl
  refine hK.out _ _ ⟨(cell3 hd0 HNE.out _ _ _), (cell3 hd1 HNE.out _ _ _), (cell3 hd2 HNE.out _ _ _), (cell3 hd3 HNE.out _ _ _)⟩ (fun hHeld => ?_)
  clear hK K
  refine pu_ 9 3 (bs_ 12 1023) rfl rfl (by kernel_rfl) rfl (by intro w'; go_simp; with_reducible rfl) (by simp only [Act.put, aS, aZ, aC, i64_w, i32_w]; rfl) (fun _ _ _ h => h) ?_
  refine pu_ 10 4 (bs_ 12 2047) rfl rfl (by kernel_rfl) rfl (by intro w'; go_simp; with_reducible rfl) (by simp only [Act.put, aS, aZ, aC, i64_w, i32_w]; rfl) (fun _ _ _ h => h) ?_
  refine pu_ 11 5 (bs_ 12 4095) rfl rfl (by kernel_rfl) rfl (by intro w'; go_simp; with_reducible rfl) (by simp only [Act.put, aS, aZ, aC, i64_w, i32_w]; rfl) (fun _ _ _ h => h) ?_
  refine done_ (by kernel_rfl) ?_
  go_wp2
  rw [Exit.noGoto_ret]
  refine bodyPost_ret (v := .tuple #[.agg #[.slice A0 s.1.length c0, .slice A1 s.2.1.length c1, .slice A2 s.2.2.1.length c2], .slice A3 o3.length c3, .int .i64 0, .int .i64 0]) ?_ rfl ?_
  · simp [results, Tryz.results22, go_sem, hc0, hc1, hc2]
  rw [HRES.out]
  have hr5 := HP.out.rows.keep HRB.out other26 (keep3 wr w.heap.size (.slice A0 s.1.length c0) (.slice A1 s.2.1.length c1) (.slice A2 s.2.2.1.length c2))
  have hr5 := hr5.drew
  refine ⟨_, _, _, _, rfl, ⟨W.heap.size, by have := HWS0.out; omega, ⟨hr5.r0, hr5.r1, hr5.r2, hr5.r3⟩⟩, ?_⟩
  exact b3_ (below3 (HWB.out.trans (HP.out.bW.mono HWB.out.size)) (Nat.le_refl _) _ _ _)
theorem parse_calls (t : ByteArray) (w : World) (hE : sc.Env w) (ht : t.size ≤ 140737488355328) : Calls Tryz.prog 22 #[.string t] w fun e w' => ParseOut w w' (parseS t) e := by
 unfold parseS
 split
 · rename_i h; exact parse_big t w h ht
 rename_i h
 split
 · rename_i h2; exact parse_many t w (by omega) h2
 rename_i h2; exact parse_main t w hE (by omega) (by omega)
end Go.Proofs.YtndbbgihpoiojaaGreatDoor.Q
namespace Go.Proofs.YtndbbgihpoiojaaGreatDoor.Q
open Go.RowKit Go.Proofs.YtndbbgihpoiojaaGreatDoorW.PrintWords Go.Proofs.YtndbbgihpoiojaaGreatDoorW.PrintLast
structure PInv (W w : World) (pb : Nat) (v : Value) (lines : List ByteArray) : Prop where
 blk : w.heap[pb]? = some (.cells #[v] 80 (0, 0))
 row : Kd.R Kd.string 9 w W.heap.size TT_ v lines
 bW : Below W.heap.size W w
 ge : W.heap.size ≤ pb
 env0 : sc.Env W
def PInvE (W w : World) (pb : Nat) (lines : List ByteArray) : Prop := ∃ v, PInv W w pb v lines
section
variable {W w w1 : World} {pb : Nat} {v : Value} {lines : List ByteArray}
theorem PInv.below (h : PInv W w pb v lines) (hb : Below w.heap.size w w1) : PInv W w1 pb v lines := ⟨(hb.block pb (blk_lt h.blk)).trans h.blk, Kd.R_below h.row hb, below_step h.bW hb, h.ge, h.env0⟩
theorem PInv.env (h : PInv W w pb v lines) : sc.Env w := h.env0.below h.bW
theorem PInv.drew (h : PInv W w pb v lines) : PInv W w.drew pb v lines := h.below (b3_ (Below.refl _ _))
theorem PInv.alloc (h : PInv W w pb v lines) (o : Obj) : PInv W (w.alloc o) pb v lines := h.below (b1_ (Below.refl _ _) o)
theorem PInvE.below (h : PInvE W w pb lines) (hb : Below w.heap.size w w1) : PInvE W w1 pb lines := h.elim fun v h => ⟨v, h.below hb⟩
theorem PInvE.drew (h : PInvE W w pb lines) : PInvE W w.drew pb lines := h.elim fun v h => ⟨v, h.drew⟩
theorem PInvE.alloc (h : PInvE W w pb lines) (o : Obj) : PInvE W (w.alloc o) pb lines := h.elim fun v h => ⟨v, h.alloc o⟩
theorem PInvE.bW (h : PInvE W w pb lines) : Below W.heap.size W w := h.elim fun v h => h.bW
theorem PInvE.env (h : PInvE W w pb lines) : sc.Env w := h.elim fun v h => h.env
end
theorem pline_calls (W w : World) (pb : Nat) (lines ws : List ByteArray) (A0 : Option Addr) (c0 : Nat) (h : PInvE W w pb lines) (hws : Kd.string.C w A0 ws.length ws) (hc0 : ws.length ≤ c0) (hl : lines.length ≤ 4294967296) (hn : ws.length ≤ 140737488355328) (hj : (joinB ws ⟨#[32]⟩).size ≤ 140737488355328) :
 Calls Tryz.prog 32 #[.pointer (some ⟨pb, 0, none⟩), .slice A0 ws.length c0] w fun e w' => e = .returned (.tuple #[]) ∧ PInvE W w' pb (lines ++ [joinB ws ⟨#[32]⟩]) := by
 obtain ⟨v, h⟩ := h
 have HP := am_ h
 have HC := am_ hws
 have HC0 := am_ hc0
 have HL := am_ hl
 have HJ := am_ (show strings_Join.f ws ⟨#[32]⟩ = some (joinB ws ⟨#[32]⟩) by unfold strings_Join.f; rw [if_pos ⟨hn, hj⟩])
 clear h hws hc0 hl hn hj
 go_enter Tryz.func32, Tryz.ntmps32
 go_wp2
 refine start_ (n := 12) (S := fun w' => w'.cell? ⟨pb, 0, none⟩ = some v) (ds := [11]) #[false, false, false, false, false, false, false, false, false, false, false, false] (by kernel_rfl) rfl rfl ((blk_cell HP.out.blk 0).trans rfl) (fun hHeld => ?_)
 replace HP := am_ HP.out.drew; replace HC := am_ (Kd.C_below HC.out (b3_ (Below.refl _ _))); generalize w.drew = w1 at HP HC hHeld ⊢
 refine pu_ 0 4 (bs_ 12 1) rfl rfl (by kernel_rfl) rfl (by intro w'; go_simp; with_reducible rfl) (by simp only [Act.put, aS, aZ, aC, i64_w, i32_w]; rfl) (fun _ _ _ h => h) ?_
 refine pu_ 1 5 (bs_ 12 3) rfl rfl (by kernel_rfl) rfl (by intro w'; go_simp; with_reducible rfl) (by simp only [Act.put, aS, aZ, aC, i64_w, i32_w]; rfl) (fun _ _ _ h => h) ?_
 refine pu_ 2 6 (bs_ 12 7) rfl rfl (by kernel_rfl) rfl (by intro w'; go_simp; with_reducible rfl) (by simp only [Act.put, aS, aZ, aC, i64_w, i32_w]; rfl) (fun _ _ _ h => h) ?_
 refine pu_ 3 7 (bs_ 12 15) rfl rfl (by kernel_rfl) rfl (by intro w'; go_simp; with_reducible rfl) (by simp only [Act.put, aS, aZ, aC, i64_w, i32_w]; rfl) (fun _ _ _ h => h) ?_
 refine pu_ 5 9 (bs_ 12 47) rfl rfl (by kernel_rfl) rfl (by intro w'; go_simp; with_reducible rfl) (by simp only [Act.put, aS, aZ, aC, i64_w, i32_w]; rfl) (fun _ _ _ h => h) ?_
 refine take_ (i := 4) (N := some 8) (v := ?_) (a' := ?_) (bs_ 12 63) rfl rfl (by kernel_rfl) (fun _ _ _ h => h) (Or.inl ⟨by rfl, ?_⟩) hHeld ?_ ?_
 rotate_left
 · intro w' s0
   go_simp
   with_reducible rfl
 rotate_left
 · simp only [Act.put, aS, aZ, aC, i64_w, i32_w]
   rfl
 refine one_ (i := 6) (N := some 10) (bs_ 12 127) rfl rfl (by kernel_rfl) (by decide) (fun K hK => ?_)
 refine goes_ Tryz.func35 (by kernel_rfl) rfl #[.slice A0 ws.length c0, .string ⟨#[32]⟩] (by rfl) rfl rfl (by (try simp only [aT, aK, aL]); first | done | rfl) ?_
 refine (strings_Join.calls A0 c0 ws ⟨#[32]⟩ (joinB ws ⟨#[32]⟩) _ HC.out HC0.out HJ.out).mono ?_
 rintro e w2 ⟨rfl, hb2⟩
 refine ⟨_, rfl, ?_⟩
 have hp2 := HP.out.below hb2
 have HP2 := am_ hp2
 have HB2 := am_ hb2
 clear hb2
 refine hK.out _ _ ((blk_cell hp2.blk 0).trans rfl) (fun hHeld => ?_)
 clear hK K
 refine no_ (by simp only [Act.put, aS, aZ, aC, i64_w, i32_w]; rfl) ?_
 refine one_ (i := 7) (N := some 11) (bs_ 12 255) rfl rfl (by kernel_rfl) (by decide) (fun K hK => ?_)
 refine value_ (w1 := ?_) (v := ?_) (by rfl) rfl ?_ ?_
 rotate_left 2
 · go_simp
   constructor
   · rfl
   rfl
 refine hK.out _ _ (wld.cellA ((blk_cell hp2.blk 0).trans rfl) _) (fun hHeld => ?_)
 clear hK K
 refine no_ (by simp only [Act.put, aS, aZ, aC, i64_w, i32_w]; rfl) ?_
 refine one_ (i := 8) (N := some 12) (bs_ 12 511) rfl rfl (by kernel_rfl) (by decide) (fun K hK => ?_)
 refine Kd.R_append_step Kd.string (w0 := W) W.heap.size (by rfl) (.tmp 8) (.tmp 11) 71 9 (.string ⟨#[]⟩) 16 rfl Tryz.underlying71 it.info9' rfl (by decide) (by omega) v lines (joinB ws ⟨#[32]⟩) [.string (joinB ws ⟨#[32]⟩)] (fun _ => True) (fun _ => False) rfl rfl ?aP (fun _ hk => hk.elim) ?aF ?aO ?aB ?aS ?aL ?_
 (case aP => exact rfl)
 (case aF => exact (fun _ _ => trivial))
 (case aO => exact Kd.R_mono HP2.out.row (fun k_ hk => trivial))
 (case aB => exact HP2.out.bW)
 (case aS => exact HP2.out.bW.size)
 (case aL => have := HL.out; omega)
 intro v9 w3 ho hb hg hat
 obtain ⟨A9, c9, rfl⟩ := Kd.R_slice ho
 have hblk3 := grown_blk HP2.out.blk (R_typ HP2.out.row) (by decide) hg
 have hfz := blk_frozen hblk3 0
 refine hK.out _ _ ((blk_cell hblk3 0).trans rfl) (fun hHeld => ?_)
 clear hK K
 refine no_ (by simp only [Act.put, aS, aZ, aC, i64_w, i32_w]; rfl) ?_
 refine pu_ 9 13 (bs_ 12 1023) rfl rfl (by kernel_rfl) rfl (by intro w'; go_simp; with_reducible rfl) (by simp only [Act.put, aS, aZ, aC, i64_w, i32_w]; rfl) (fun _ _ _ h => h) ?_
 refine pu_ 10 14 (bs_ 12 2047) rfl rfl (by kernel_rfl) rfl (by intro w'; go_simp; with_reducible rfl) (by simp only [Act.put, aS, aZ, aC, i64_w, i32_w]; rfl) (fun _ _ _ h => h) ?_
 refine last_ (i := 11) (N := none) (bs_ 12 4095) rfl rfl (by kernel_rfl) (by decide) (fun K hK => ?_)
 refine skip_ (w1 := ?_) (by rfl) rfl ?_ ?_
 rotate_left
 · go_simp
   rfl
 refine hK.out _ _ ?_
 clear hK K
 refine done_ (by kernel_rfl) ?_
 go_end0
 have ho2 := R_keepT ho hblk3 (by intro q hq e; subst e; simp [Kd.string, Kd.scalar] at hq) (keep_setC w3 pb 0 (.slice A9 (lines ++ [joinB ws ⟨#[32]⟩]).length c9))
 simp only [List.length_append, List.length_cons, List.length_nil, Nat.zero_add] at ho2
 exact ⟨rfl, _, wld.set_same hblk3 _, ho2, hb.setCell (p := ⟨pb, 0, none⟩) HP2.out.ge _, HP2.out.ge, HP2.out.env0⟩
def itoaB (n : Int) : ByteArray := ⟨(Lib.itoa n).toArray⟩
def quoteB (s : ByteArray) : ByteArray := ⟨(sc.quoteL s.data.toList).toArray⟩
theorem num_c (n : Int) (hn : sc.InInt n) (w : World) (hE : sc.Env w) : Calls Tryz.prog 33 #[.int .i64 n] w fun e w' => e = .returned (.string (itoaB n)) ∧ Below w.heap.size w w' := by
 have HC := am_ (sc.itoa_c n hn w hE)
 clear hE
 go_enter Tryz.func33, Tryz.ntmps33
 go_wp2_with (go_at_call 29; refine HC.out.mono ?_; rintro e w' ⟨rfl, hb⟩)
 go_ret
 exact ⟨rfl, hb⟩
theorem quoteB_c (s : ByteArray) (hs : s.size ≤ 1099511627776) (w : World) (hE : sc.Env w) : Calls Tryz.prog 20 #[.string s] w fun e w' => e = .returned (.string (quoteB s)) ∧ Below w.heap.size w w' := sc.quote_c s hs w hE
abbrev kindL : List ByteArray := [⟨#[]⟩, ⟨#[98, 101, 103, 105, 110]⟩, ⟨#[103, 101, 116]⟩, ⟨#[115, 99, 97, 110]⟩, ⟨#[112, 117, 116]⟩, ⟨#[100, 101, 108, 101, 116, 101]⟩, ⟨#[99, 111, 109, 109, 105, 116]⟩, ⟨#[97, 98, 111, 114, 116]⟩]
theorem kinds_cell (w : World) (k : Nat) {x : ByteArray} (h : kindL[k]? = some x) : (w.alloc (.cells (kindL.map Value.string).toArray 9)).cell? ⟨w.heap.size, k, none⟩ = some (.string x) :=
 wld.cell_of (wld.alloc_same w _) (by rw [List.getElem?_toArray, List.getElem?_map, h]; rfl)
theorem kinds_c (w : World) : Calls Tryz.prog 78 #[] w fun e w' => e = .returned (.slice (some ⟨w.heap.size, 0, none⟩) 8 8) ∧ (∀ k x, kindL[k]? = some x → w'.cell? ⟨w.heap.size, k, none⟩ = some (.string x)) ∧ Below w.heap.size w w' := by
 go_enter Tryz.func78, Tryz.ntmps78
 go_wp2
 go_ret
 exact ⟨rfl, fun k x h => kinds_cell w k h, b1_ (Below.refl _ _) _⟩
structure BInv (W w0 w : World) (pb g : Nat) (lines : List ByteArray) (t : TypeId) (cells : Array Value) : Prop where
 p0 : PInvE W w0 pb lines
 box : w.heap[g]? = some (.cells cells t (0, 0))
 b0 : Below w0.heap.size w0 w
 ge : w0.heap.size ≤ g
section
variable {W w0 w w1 : World} {pb g : Nat} {lines ws : List ByteArray} {t : TypeId} {cells : Array Value} {vw : Value}
theorem BInv.below (h : BInv W w0 w pb g lines t cells) (hb : Below w.heap.size w w1) : BInv W w0 w1 pb g lines t cells := ⟨h.p0, (hb.block g (blk_lt h.box)).trans h.box, below_step h.b0 hb, h.ge⟩
theorem BInv.drew (h : BInv W w0 w pb g lines t cells) : BInv W w0 w.drew pb g lines t cells := h.below (b3_ (Below.refl _ _))
theorem BInv.alloc (h : BInv W w0 w pb g lines t cells) (o : Obj) : BInv W w0 (w.alloc o) pb g lines t cells := h.below (b1_ (Below.refl _ _) o)
theorem BInv.p (h : BInv W w0 w pb g lines t cells) : PInvE W w pb lines := h.p0.below h.b0
theorem BInv.env (h : BInv W w0 w pb g lines t cells) : sc.Env w := h.p.env
theorem BInv.at (h : BInv W w0 w pb g lines t cells) (i : Nat) {v : Value} (hv : cells[i]? = some v) : w.cell? ⟨g, i, none⟩ = some v := (blk_cell h.box i).trans hv
theorem BInv.new (h : PInvE W w0 pb lines) (cells : Array Value) (t : TypeId) : BInv W w0 (w0.alloc (.cells cells t)) pb w0.heap.size lines t cells := ⟨h, wld.alloc_same _ _, b1_ (Below.refl _ _) _, Nat.le_refl _⟩
structure AInv (W w0 w : World) (pb g : Nat) (lines : List ByteArray) (t : TypeId) (cells : Array Value) (vw : Value) (ws : List ByteArray) : Prop where
 b : BInv W w0 w pb g lines t cells
 row : Kd.R Kd.string 9 w w0.heap.size TT_ vw ws
theorem AInv.below (h : AInv W w0 w pb g lines t cells vw ws) (hb : Below w.heap.size w w1) : AInv W w0 w1 pb g lines t cells vw ws := ⟨h.b.below hb, Kd.R_below h.row hb⟩
theorem AInv.drew (h : AInv W w0 w pb g lines t cells vw ws) : AInv W w0 w.drew pb g lines t cells vw ws := h.below (b3_ (Below.refl _ _))
theorem AInv.alloc (h : AInv W w0 w pb g lines t cells vw ws) (o : Obj) : AInv W w0 (w.alloc o) pb g lines t cells vw ws := h.below (b1_ (Below.refl _ _) o)
theorem AInv.env (h : AInv W w0 w pb g lines t cells vw ws) : sc.Env w := h.b.env
theorem AInv.at (h : AInv W w0 w pb g lines t cells vw ws) (i : Nat) {v : Value} (hv : cells[i]? = some v) : w.cell? ⟨g, i, none⟩ = some v := h.b.at i hv
theorem AInv.start (h : BInv W w0 w pb g lines t cells) (ws : List ByteArray) (hne : ws ≠ []) (hl : ws.length ≤ maxLen) : AInv W w0 (w.alloc (.cells (ws.map Value.string).toArray 9)) pb g lines t cells (.slice (some ⟨w.heap.size, 0, none⟩) ws.length ws.length) ws :=
 ⟨h.alloc _, R_strings w ws w0.heap.size h.b0.size hne hl⟩
theorem AInv.grown (h : AInv W w0 w pb g lines t cells vw ws) (ht : t ≠ 9) {o : Obj} {vw1 : Value} {ws1 : List ByteArray} (hg : (w.alloc o).grownBy w1 vw.ownBlock) (hr : Kd.R Kd.string 9 w1 w0.heap.size TT_ vw1 ws1) : AInv W w0 w1 pb g lines t cells vw1 ws1 := by
 refine ⟨⟨h.b.p0, ?_, ?_, h.b.ge⟩, hr⟩
 · exact grown_blk (h.b.alloc o).box (R_typ (Kd.R_below h.row (b1_ (Below.refl _ _) o))) (Ne.symm ht) hg
 exact (h.b.alloc o).b0.grown hg ((h.b.alloc o).b0.size) (fun k e => Kd.R_base h.row k e)
end
theorem R_string_own {w : World} {base : Nat} {v : Value} {ws : List ByteArray} (h : Kd.R Kd.string 9 w base TT_ v ws) : w.ownsRow base 9 1 v ws.length (ws.map Value.string) := Kd.own_of_R (enc := Value.string) (h1 := fun _ => rfl) h
theorem own_R_string {w : World} {base n : Nat} {v : Value} {ws : List ByteArray} (h : w.ownsRow base 9 1 v n (ws.map Value.string)) (hn : n = ws.length) : Kd.R Kd.string 9 w base TT_ v ws := Kd.R_of_own (enc := Value.string) (h1 := fun _ => rfl) (by rw [← hn]; exact h) (fun _ _ => trivial)
section
variable {ops : Array Oper} {o : Oper} {a : Act} {Q : Exit → Act → World → Prop} {E : Prop} {W w0 w : World} {pb g : Nat} {lines ws : List ByteArray} {t : TypeId} {cells : Array Value} {vw : Value} {K : Act → World → Prop}
theorem AInv.append_ (h : AInv W w0 w pb g lines t cells vw ws) (ht : t ≠ 9) (ys : List ByteArray) (s x : Operand) (hgd : o.guard = none) (ho : o.op = .call { callee := .builtin .append, args := #[s, x], argTypes := #[71, 71] })
 (hs : a.eval s = vw) (m : Nat) (hm : ys.length = m) (hm0 : 0 < m) (hx : a.eval x = .slice (some ⟨w.heap.size, 0, none⟩) m m) (n : Nat) (hn : ws.length + m = n) (hl : n ≤ 4294967296)
 (hK : ∀ g1 c1 w1, AInv W w0 w1 pb g lines t cells (.slice (some ⟨g1, 0, none⟩) n c1) (ws ++ ys) → K (a.put o.dst (.slice (some ⟨g1, 0, none⟩) n c1)) w1) :
 if Region.wanted o (yielded ops a.tmps) = true then Oper.wp Tryz.prog o a (w.alloc (.cells (ys.map Value.string).toArray 9)) K Q else E := by
 obtain ⟨i0, hi, hz0, hz1, hz2⟩ := info_parts it.info9'
 subst hn
 refine step_append_lies _ hgd s x 71 ho w0.heap.size 9 i0 (.string ⟨#[]⟩) 1 16 Tryz.underlying71 hi hz0 hz1 hz2 rfl (by decide) vw ws.length (ws.map Value.string) hs ((R_string_own h.row).alloc _) ⟨w.heap.size, 0, none⟩ m m (ys.map Value.string) hx (by simp [hm]) (World.news_of_block (wld.alloc_same _ _)) (by simp [Value.oneCell']) hm0 (by unfold maxLen; omega) (by omega) (by have := h.b.b0.size; simp; omega) _ rfl ?_
 intro g1 c1 w1 hown hg _ _
 refine hK g1 c1 w1 (h.grown ht hg (own_R_string (by rw [List.map_append]; exact hown) (by simp [hm])))
theorem AInv.appendL {rest : List Oper} (h : AInv W w0 w pb g lines t cells vw ws) (ht : t ≠ 9) (ys : List ByteArray) (s x : Operand) (hgd : o.guard = none) (ho : o.op = .call { callee := .builtin .append, args := #[s, x], argTypes := #[71, 71] })
 (hs : a.eval s = vw) (m : Nat) (hm : ys.length = m) (hm0 : 0 < m) (hx : a.eval x = .slice (some ⟨w.heap.size, 0, none⟩) m m) (n : Nat) (hn : ws.length + m = n) (hl : n ≤ 4294967296)
 (hK : ∀ g1 c1 w1, AInv W w0 w1 pb g lines t cells (.slice (some ⟨g1, 0, none⟩) n c1) (ws ++ ys) → wpList Tryz.prog ops Q rest (a.put o.dst (.slice (some ⟨g1, 0, none⟩) n c1)) w1) :
 wpList Tryz.prog ops Q (o :: rest) a (w.alloc (.cells (ys.map Value.string).toArray 9)) := by
 refine wpList_plain hgd fun K hK' => ?_
 have := h.append_ (ops := #[]) (Q := Q) (E := True) (K := K) ht ys s x hgd ho hs m hm hm0 hx n hn hl (fun g1 c1 w1 h1 => hK' _ _ (hK g1 c1 w1 h1))
 rwa [if_pos (by simp [Region.wanted, hgd])] at this
end
theorem AInv.reads {W w0 w : World} {pb g n c : Nat} {A : Option Addr} {lines ws : List ByteArray} {t : TypeId} {cells : Array Value} (h : AInv W w0 w pb g lines t cells (.slice A n c) ws) : n = ws.length ∧ ws.length ≤ c ∧ Kd.string.C w A ws.length ws := by
 obtain ⟨A', c', e, h1, h2⟩ := Kd.R_reads h.row
 injection e with e1 e2 e3
 subst e1 e3
 exact ⟨e2, h1, h2⟩
theorem AInv.line {W w0 w : World} {pb g n c : Nat} {A : Option Addr} {lines ws : List ByteArray} {t : TypeId} {cells : Array Value} (h : AInv W w0 w pb g lines t cells (.slice A n c) ws) (hl : lines.length ≤ 4294967296) (hn : ws.length ≤ 140737488355328) (hj : (joinB ws ⟨#[32]⟩).size ≤ 140737488355328) :
 Calls Tryz.prog 32 #[.pointer (some ⟨pb, 0, none⟩), .slice A n c] w fun e w' => e = .returned (.tuple #[]) ∧ PInvE W w' pb (lines ++ [joinB ws ⟨#[32]⟩]) := by
 obtain ⟨rfl, h1, h2⟩ := h.reads
 exact pline_calls W w pb lines ws A c h.b.p h2 h1 hl hn hj
def askWords (kind ses life num place : Int) (key to_ : ByteArray) (val : List Int) (lim : Int) : List ByteArray :=
 [⟨#[97, 115, 107]⟩, itoaB ses, kindL.getD kind.toNat ⟨#[]⟩] ++ (if kind > 1 then [itoaB life, itoaB num] else []) ++ (if kind > 1 ∧ kind < 6 then [itoaB place, quoteB key] else []) ++
  (if kind = 3 then [quoteB to_, itoaB lim] else if kind = 4 then [quoteB (strOfNums val)] else [])
theorem pask_calls1 (W w0 : World) (pb : Nat) (lines : List ByteArray) (ses life num place : Int) (key to_ : ByteArray) (A : Option Addr) (c : Nat) (val : List Int) (lim : Int) (h : PInvE W w0 pb lines)
 (hval : Kd.C (Kd.int .u8) w0 A val.length val) (h1 : sc.InInt ses) (h2 : sc.InInt life) (h3 : sc.InInt num) (h4 : sc.InInt place) (h5 : sc.InInt lim) (h6 : key.size ≤ 1099511627776) (h7 : to_.size ≤ 1099511627776) (h8 : (strOfNums val).size ≤ 1099511627776)
 (hl : lines.length ≤ 4294967296) (hj : (joinB (askWords 1 ses life num place key to_ val lim) ⟨#[32]⟩).size ≤ 140737488355328) :
 Calls Tryz.prog 59 #[.pointer (some ⟨pb, 0, none⟩), .int .i64 ses, .agg #[.int .i64 1, .int .i64 life, .int .i64 num, .int .i64 place, .string key, .string to_, .slice A val.length c, .int .i64 lim]] w0 fun e w' =>
  e = .returned (.tuple #[]) ∧ PInvE W w' pb (lines ++ [joinB (askWords 1 ses life num place key to_ val lim) ⟨#[32]⟩]) := by
 rw [show askWords 1 ses life num place key to_ val lim = [⟨#[97, 115, 107]⟩, itoaB ses, ⟨#[98, 101, 103, 105, 110]⟩] from rfl] at hj ⊢
 have HX := am_ (BInv.new h #[.int .i64 1, .int .i64 life, .int .i64 num, .int .i64 place, .string key, .string to_, .slice A val.length c, .int .i64 lim] 49)
 have H1 := am_ h1
 have H2 := am_ h2
 have H3 := am_ h3
 have H4 := am_ h4
 have H5 := am_ h5
 have H6 := am_ h6
 have H7 := am_ h7
 have H8 := am_ h8
 have HV := am_ hval
 have HL := am_ hl
 have HJ := am_ hj
 clear h hval h1 h2 h3 h4 h5 h6 h7 h8 hl hj
 go_enter Tryz.func59, Tryz.ntmps59
 go_wp2
 generalize (w0.alloc _) = wx at HX ⊢
 refine start_ (n := 9) (S := fun w' => w'.cell? ⟨w0.heap.size, 0, none⟩ = some (.int .i64 1)) (ds := []) #[false, false, false, false, false, false, false, false, false] (by kernel_rfl) rfl rfl (HX.out.drew.at 0 rfl) (fun hHeld => ?_)
 replace HX := am_ HX.out.drew; generalize wx.drew = w1 at HX hHeld ⊢
 refine pu_ 0 7 (bs_ 9 1) rfl rfl (by kernel_rfl) rfl (by intro w'; go_simp; with_reducible rfl) (by simp only [Act.put, aS, aZ, aC, i64_w, i32_w]; rfl) (fun _ _ _ h => h) ?_
 refine pu_ 3 10 (bs_ 9 9) rfl rfl (by kernel_rfl) rfl (by intro w'; go_simp; with_reducible rfl) (by simp only [Act.put, aS, aZ, aC, i64_w, i32_w]; rfl) (fun _ _ _ h => h) ?_
 refine take_ (i := 4) (N := some 11) (v := ?_) (a' := ?_) (bs_ 9 25) rfl rfl (by kernel_rfl) (fun _ _ _ h => h) (Or.inl ⟨by rfl, ?_⟩) hHeld ?_ ?_
 rotate_left
 · intro w' s0
   go_simp
   with_reducible rfl
 rotate_left
 · simp only [Act.put, aS, aZ, aC, i64_w, i32_w]
   rfl
 refine one_ (i := 1) (N := some 8) (bs_ 9 27) rfl rfl (by kernel_rfl) (by decide) (fun K hK => ?_)
 refine goes_ Tryz.func33 (by kernel_rfl) rfl #[.int .i64 ses] (by rfl) rfl rfl (by (try simp only [aT, aK, aL]); first | done | rfl) ?_
 refine (num_c ses H1.out _ HX.out.env).mono ?_
 rintro e w2 ⟨rfl, hb_⟩
 refine ⟨_, rfl, ?_⟩
 replace HX := am_ (HX.out.below hb_)
 clear hb_
 refine hK.out _ _ (HX.out.at 0 rfl) (fun hHeld => ?_)
 clear hK K
 refine no_ (by simp only [Act.put, aS, aZ, aC, i64_w, i32_w]; rfl) ?_
 refine one_ (i := 2) (N := some 9) (bs_ 9 31) rfl rfl (by kernel_rfl) (by decide) (fun K hK => ?_)
 refine goes_ Tryz.func78 (by kernel_rfl) rfl #[] (by rfl) rfl rfl (by (try simp only [aT, aK, aL]); first | done | rfl) ?_
 refine (kinds_c _).mono ?_
 rintro e w3 ⟨rfl, hkc_, hb_⟩
 refine ⟨_, rfl, ?_⟩
 have hkc := hkc_ 1 ⟨#[98, 101, 103, 105, 110]⟩ rfl
 replace HX := am_ (HX.out.below hb_)
 clear hb_ hkc_
 refine hK.out _ _ (HX.out.at 0 rfl) (fun hHeld => ?_)
 clear hK K
 refine no_ (by simp only [Act.put, aS, aZ, aC, i64_w, i32_w]; rfl) ?_
 refine pu_ 5 12 (bs_ 9 63) rfl rfl (by kernel_rfl) rfl (by intro w'; go_simp; with_reducible rfl) (by simp only [Act.put, aS, aZ, aC, i64_w, i32_w]; rfl) (fun _ _ _ h => h) ?_
 refine one_ (i := 6) (N := some 13) (bs_ 9 127) rfl rfl (by kernel_rfl) (by decide) (fun K hK => ?_)
 refine value_ (w1 := ?_) (v := ?_) (by rfl) rfl ?_ ?_
 rotate_left 2
 · go_simp
   constructor
   · rfl
   rfl
 refine hK.out _ _ (HX.out.at 0 rfl) (fun hHeld => ?_)
 clear hK K
 refine no_ (by simp only [Act.put, aS, aZ, aC, i64_w, i32_w]; rfl) ?_
 refine one_ (i := 7) (N := some 14) (bs_ 9 255) rfl rfl (by kernel_rfl) (by decide) (fun K hK => ?_)
 have HA : Aside0 (AInv W w0 (w3.alloc (.cells #[.string ⟨#[97, 115, 107]⟩, .string (itoaB ses), .string ⟨#[98, 101, 103, 105, 110]⟩] 9)) pb w0.heap.size lines 49 #[.int .i64 1, .int .i64 life, .int .i64 num, .int .i64 place, .string key, .string to_, .slice A val.length c, .int .i64 lim] (.slice (some ⟨w3.heap.size, 0, none⟩) 3 3) [⟨#[97, 115, 107]⟩, itoaB ses, ⟨#[98, 101, 103, 105, 110]⟩]) := am_ (AInv.start HX.out [⟨#[97, 115, 107]⟩, itoaB ses, ⟨#[98, 101, 103, 105, 110]⟩] (by simp) (by simp [maxLen]))
 refine value_ (w1 := ?_) (v := ?_) (by rfl) rfl ?_ ?_
 rotate_left 2
 · go_simp
   constructor
   · rfl
   rfl
 refine hK.out _ _ (HA.out.at 0 rfl) (fun hHeld => ?_)
 clear hK K
 refine no_ (by simp only [Act.put, aS, aZ, aC, i64_w, i32_w]; rfl) ?_
 refine pu_ 8 6 (bs_ 9 511) rfl rfl (by kernel_rfl) rfl (by intro w'; go_simp; with_reducible rfl) (by simp only [Act.put, aS, aZ, aC, i64_w, i32_w]; rfl) (fun _ _ _ h => h) ?_
 refine done_ (by kernel_rfl) ?_
 clear HX hkc
 clear hHeld
 generalize w3.alloc _ = wA at HA ⊢
 generalize w3.heap.size = gs at HA ⊢
 have k_kind := HA.out.at 0 rfl
 go_wp2_with fail
 refine (HA.out.line HL.out (by simp) HJ.out).mono ?_
 rintro e w9 ⟨rfl, hP⟩
 go_wp2_with fail
 go_end0
 exact ⟨rfl, hP⟩
theorem pask_calls2 (W w0 : World) (pb : Nat) (lines : List ByteArray) (ses life num place : Int) (key to_ : ByteArray) (A : Option Addr) (c : Nat) (val : List Int) (lim : Int) (h : PInvE W w0 pb lines)
 (hval : Kd.C (Kd.int .u8) w0 A val.length val) (h1 : sc.InInt ses) (h2 : sc.InInt life) (h3 : sc.InInt num) (h4 : sc.InInt place) (h5 : sc.InInt lim) (h6 : key.size ≤ 1099511627776) (h7 : to_.size ≤ 1099511627776) (h8 : (strOfNums val).size ≤ 1099511627776)
 (hl : lines.length ≤ 4294967296) (hj : (joinB (askWords 2 ses life num place key to_ val lim) ⟨#[32]⟩).size ≤ 140737488355328) :
 Calls Tryz.prog 59 #[.pointer (some ⟨pb, 0, none⟩), .int .i64 ses, .agg #[.int .i64 2, .int .i64 life, .int .i64 num, .int .i64 place, .string key, .string to_, .slice A val.length c, .int .i64 lim]] w0 fun e w' =>
  e = .returned (.tuple #[]) ∧ PInvE W w' pb (lines ++ [joinB (askWords 2 ses life num place key to_ val lim) ⟨#[32]⟩]) := by
 rw [show askWords 2 ses life num place key to_ val lim = [⟨#[97, 115, 107]⟩, itoaB ses, ⟨#[103, 101, 116]⟩, itoaB life, itoaB num, itoaB place, quoteB key] from rfl] at hj ⊢
 have HX := am_ (BInv.new h #[.int .i64 2, .int .i64 life, .int .i64 num, .int .i64 place, .string key, .string to_, .slice A val.length c, .int .i64 lim] 49)
 have H1 := am_ h1
 have H2 := am_ h2
 have H3 := am_ h3
 have H4 := am_ h4
 have H5 := am_ h5
 have H6 := am_ h6
 have H7 := am_ h7
 have H8 := am_ h8
 have HV := am_ hval
 have HL := am_ hl
 have HJ := am_ hj
 clear h hval h1 h2 h3 h4 h5 h6 h7 h8 hl hj
 go_enter Tryz.func59, Tryz.ntmps59
 go_wp2
 generalize (w0.alloc _) = wx at HX ⊢
 refine start_ (n := 9) (S := fun w' => w'.cell? ⟨w0.heap.size, 0, none⟩ = some (.int .i64 2)) (ds := []) #[false, false, false, false, false, false, false, false, false] (by kernel_rfl) rfl rfl (HX.out.drew.at 0 rfl) (fun hHeld => ?_)
 replace HX := am_ HX.out.drew; generalize wx.drew = w1 at HX hHeld ⊢
 refine pu_ 0 7 (bs_ 9 1) rfl rfl (by kernel_rfl) rfl (by intro w'; go_simp; with_reducible rfl) (by simp only [Act.put, aS, aZ, aC, i64_w, i32_w]; rfl) (fun _ _ _ h => h) ?_
 refine pu_ 3 10 (bs_ 9 9) rfl rfl (by kernel_rfl) rfl (by intro w'; go_simp; with_reducible rfl) (by simp only [Act.put, aS, aZ, aC, i64_w, i32_w]; rfl) (fun _ _ _ h => h) ?_
 refine take_ (i := 4) (N := some 11) (v := ?_) (a' := ?_) (bs_ 9 25) rfl rfl (by kernel_rfl) (fun _ _ _ h => h) (Or.inl ⟨by rfl, ?_⟩) hHeld ?_ ?_
 rotate_left
 · intro w' s0
   go_simp
   with_reducible rfl
 rotate_left
 · simp only [Act.put, aS, aZ, aC, i64_w, i32_w]
   rfl
 refine one_ (i := 1) (N := some 8) (bs_ 9 27) rfl rfl (by kernel_rfl) (by decide) (fun K hK => ?_)
 refine goes_ Tryz.func33 (by kernel_rfl) rfl #[.int .i64 ses] (by rfl) rfl rfl (by (try simp only [aT, aK, aL]); first | done | rfl) ?_
 refine (num_c ses H1.out _ HX.out.env).mono ?_
 rintro e w2 ⟨rfl, hb_⟩
 refine ⟨_, rfl, ?_⟩
 replace HX := am_ (HX.out.below hb_)
 clear hb_
 refine hK.out _ _ (HX.out.at 0 rfl) (fun hHeld => ?_)
 clear hK K
 refine no_ (by simp only [Act.put, aS, aZ, aC, i64_w, i32_w]; rfl) ?_
 refine one_ (i := 2) (N := some 9) (bs_ 9 31) rfl rfl (by kernel_rfl) (by decide) (fun K hK => ?_)
 refine goes_ Tryz.func78 (by kernel_rfl) rfl #[] (by rfl) rfl rfl (by (try simp only [aT, aK, aL]); first | done | rfl) ?_
 refine (kinds_c _).mono ?_
 rintro e w3 ⟨rfl, hkc_, hb_⟩
 refine ⟨_, rfl, ?_⟩
 have hkc := hkc_ 2 ⟨#[103, 101, 116]⟩ rfl
 replace HX := am_ (HX.out.below hb_)
 clear hb_ hkc_
 refine hK.out _ _ (HX.out.at 0 rfl) (fun hHeld => ?_)
 clear hK K
 refine no_ (by simp only [Act.put, aS, aZ, aC, i64_w, i32_w]; rfl) ?_
 refine pu_ 5 12 (bs_ 9 63) rfl rfl (by kernel_rfl) rfl (by intro w'; go_simp; with_reducible rfl) (by simp only [Act.put, aS, aZ, aC, i64_w, i32_w]; rfl) (fun _ _ _ h => h) ?_
 refine one_ (i := 6) (N := some 13) (bs_ 9 127) rfl rfl (by kernel_rfl) (by decide) (fun K hK => ?_)
 refine value_ (w1 := ?_) (v := ?_) (by rfl) rfl ?_ ?_
 rotate_left 2
 · go_simp
   constructor
   · rfl
   rfl
 refine hK.out _ _ (HX.out.at 0 rfl) (fun hHeld => ?_)
 clear hK K
 refine no_ (by simp only [Act.put, aS, aZ, aC, i64_w, i32_w]; rfl) ?_
 refine one_ (i := 7) (N := some 14) (bs_ 9 255) rfl rfl (by kernel_rfl) (by decide) (fun K hK => ?_)
 have HA : Aside0 (AInv W w0 (w3.alloc (.cells #[.string ⟨#[97, 115, 107]⟩, .string (itoaB ses), .string ⟨#[103, 101, 116]⟩] 9)) pb w0.heap.size lines 49 #[.int .i64 2, .int .i64 life, .int .i64 num, .int .i64 place, .string key, .string to_, .slice A val.length c, .int .i64 lim] (.slice (some ⟨w3.heap.size, 0, none⟩) 3 3) [⟨#[97, 115, 107]⟩, itoaB ses, ⟨#[103, 101, 116]⟩]) := am_ (AInv.start HX.out [⟨#[97, 115, 107]⟩, itoaB ses, ⟨#[103, 101, 116]⟩] (by simp) (by simp [maxLen]))
 refine value_ (w1 := ?_) (v := ?_) (by rfl) rfl ?_ ?_
 rotate_left 2
 · go_simp
   constructor
   · rfl
   rfl
 refine hK.out _ _ (HA.out.at 0 rfl) (fun hHeld => ?_)
 clear hK K
 refine no_ (by simp only [Act.put, aS, aZ, aC, i64_w, i32_w]; rfl) ?_
 refine pu_ 8 6 (bs_ 9 511) rfl rfl (by kernel_rfl) rfl (by intro w'; go_simp; with_reducible rfl) (by simp only [Act.put, aS, aZ, aC, i64_w, i32_w]; rfl) (fun _ _ _ h => h) ?_
 refine done_ (by kernel_rfl) ?_
 clear HX hkc
 clear hHeld
 generalize w3.alloc _ = wA at HA ⊢
 generalize w3.heap.size = gs at HA ⊢
 have k_kind := HA.out.at 0 rfl
 go_wp2_with fail
 clear k_kind
 refine start_ (n := 12) (S := fun w' => w'.cell? ⟨w0.heap.size, 1, none⟩ = some (.int .i64 life) ∧ w'.cell? ⟨w0.heap.size, 2, none⟩ = some (.int .i64 num)) (ds := []) #[false, false, false, false, false, false, false, false, false, false, false, false] (by kernel_rfl) rfl rfl ⟨HA.out.drew.at 1 rfl, HA.out.drew.at 2 rfl⟩ (fun hHeld => ?_)
 replace HA := am_ HA.out.drew; generalize wA.drew = wD1 at HA hHeld ⊢
 refine pu_ 0 18 (bs_ 12 1) rfl rfl (by kernel_rfl) rfl (by intro w'; go_simp; with_reducible rfl) (by simp only [Act.put, aS, aZ, aC, i64_w, i32_w]; rfl) (fun _ _ _ h => h) ?_
 refine pu_ 1 19 (bs_ 12 3) rfl rfl (by kernel_rfl) rfl (by intro w'; go_simp; with_reducible rfl) (by simp only [Act.put, aS, aZ, aC, i64_w, i32_w]; rfl) (fun _ _ _ h => h) ?_
 refine pu_ 2 20 (bs_ 12 7) rfl rfl (by kernel_rfl) rfl (by intro w'; go_simp; with_reducible rfl) (by simp only [Act.put, aS, aZ, aC, i64_w, i32_w]; rfl) (fun _ _ _ h => h) ?_
 refine pu_ 5 23 (bs_ 12 39) rfl rfl (by kernel_rfl) rfl (by intro w'; go_simp; with_reducible rfl) (by simp only [Act.put, aS, aZ, aC, i64_w, i32_w]; rfl) (fun _ _ _ h => h) ?_
 refine pu_ 6 24 (bs_ 12 103) rfl rfl (by kernel_rfl) rfl (by intro w'; go_simp; with_reducible rfl) (by simp only [Act.put, aS, aZ, aC, i64_w, i32_w]; rfl) (fun _ _ _ h => h) ?_
 refine ta_ 3 21 (bs_ 12 111) rfl rfl (by kernel_rfl) rfl (by rintro w' ⟨s0, s1⟩; go_simp; with_reducible rfl) hHeld (by simp only [Act.put, aS, aZ, aC, i64_w, i32_w]; rfl) (fun _ _ _ h => h) ?_
 refine ta_ 7 25 (bs_ 12 239) rfl rfl (by kernel_rfl) rfl (by rintro w' ⟨s0, s1⟩; go_simp; with_reducible rfl) hHeld (by simp only [Act.put, aS, aZ, aC, i64_w, i32_w]; rfl) (fun _ _ _ h => h) ?_
 refine one_ (i := 4) (N := some 22) (bs_ 12 255) rfl rfl (by kernel_rfl) (by decide) (fun K hK => ?_)
 refine goes_ Tryz.func33 (by kernel_rfl) rfl #[.int .i64 life] (by rfl) rfl rfl (by (try simp only [aT, aK, aL]); first | done | rfl) ?_
 refine (num_c life H2.out _ HA.out.env).mono ?_
 rintro e wC1 ⟨rfl, hb_⟩
 refine ⟨_, rfl, ?_⟩
 replace HA := am_ (HA.out.below hb_)
 clear hb_
 refine hK.out _ _ ⟨HA.out.at 1 rfl, HA.out.at 2 rfl⟩ (fun hHeld => ?_)
 clear hK K
 refine no_ (by simp only [Act.put, aS, aZ, aC, i64_w, i32_w]; rfl) ?_
 refine one_ (i := 8) (N := some 26) (bs_ 12 511) rfl rfl (by kernel_rfl) (by decide) (fun K hK => ?_)
 refine goes_ Tryz.func33 (by kernel_rfl) rfl #[.int .i64 num] (by rfl) rfl rfl (by (try simp only [aT, aK, aL]); first | done | rfl) ?_
 refine (num_c num H3.out _ HA.out.env).mono ?_
 rintro e wE1 ⟨rfl, hb_⟩
 refine ⟨_, rfl, ?_⟩
 replace HA := am_ (HA.out.below hb_)
 clear hb_
 refine hK.out _ _ ⟨HA.out.at 1 rfl, HA.out.at 2 rfl⟩ (fun hHeld => ?_)
 clear hK K
 refine no_ (by simp only [Act.put, aS, aZ, aC, i64_w, i32_w]; rfl) ?_
 refine one_ (i := 9) (N := some 27) (bs_ 12 1023) rfl rfl (by kernel_rfl) (by decide) (fun K hK => ?_)
 refine value_ (w1 := ?_) (v := ?_) (by rfl) rfl ?_ ?_
 rotate_left 2
 · go_simp
   constructor
   · rfl
   rfl
 refine hK.out _ _ ⟨(HA.out.alloc _).at 1 rfl, (HA.out.alloc _).at 2 rfl⟩ (fun hHeld => ?_)
 clear hK K
 refine no_ (by simp only [Act.put, aS, aZ, aC, i64_w, i32_w]; rfl) ?_
 refine one_ (i := 10) (N := some 28) (bs_ 12 2047) rfl rfl (by kernel_rfl) (by decide) (fun K hK => ?_)
 refine HA.out.append_ (by decide) [itoaB life, itoaB num] (.tmp 18) (.tmp 27) rfl rfl rfl 2 rfl (by decide) rfl 5 rfl (by decide) ?_
 intro gB1 cB1 wB1 HB_
 replace HA := am_ HB_
 clear HB_
 refine hK.out _ _ ⟨HA.out.at 1 rfl, HA.out.at 2 rfl⟩ (fun hHeld => ?_)
 clear hK K
 refine no_ (by simp only [Act.put, aS, aZ, aC, i64_w, i32_w]; rfl) ?_
 refine pu_ 11 6 (bs_ 12 4095) rfl rfl (by kernel_rfl) rfl (by intro w'; go_simp; with_reducible rfl) (by simp only [Act.put, aS, aZ, aC, i64_w, i32_w]; rfl) (fun _ _ _ h => h) ?_
 refine done_ (by kernel_rfl) ?_
 clear hHeld
 have k_kind := HA.out.at 0 rfl
 go_wp2_with fail
 clear k_kind
 refine start_ (n := 10) (S := fun w' => w'.cell? ⟨w0.heap.size, 3, none⟩ = some (.int .i64 place) ∧ w'.cell? ⟨w0.heap.size, 4, none⟩ = some (.string key)) (ds := []) #[false, false, false, false, false, false, false, false, false, false] (by kernel_rfl) rfl rfl ⟨HA.out.drew.at 3 rfl, HA.out.drew.at 4 rfl⟩ (fun hHeld => ?_)
 replace HA := am_ HA.out.drew; generalize wB1.drew = wD2 at HA hHeld ⊢
 refine pu_ 0 37 (bs_ 10 1) rfl rfl (by kernel_rfl) rfl (by intro w'; go_simp; with_reducible rfl) (by simp only [Act.put, aS, aZ, aC, i64_w, i32_w]; rfl) (fun _ _ _ h => h) ?_
 refine pu_ 1 38 (bs_ 10 3) rfl rfl (by kernel_rfl) rfl (by intro w'; go_simp; with_reducible rfl) (by simp only [Act.put, aS, aZ, aC, i64_w, i32_w]; rfl) (fun _ _ _ h => h) ?_
 refine pu_ 4 41 (bs_ 10 19) rfl rfl (by kernel_rfl) rfl (by intro w'; go_simp; with_reducible rfl) (by simp only [Act.put, aS, aZ, aC, i64_w, i32_w]; rfl) (fun _ _ _ h => h) ?_
 refine ta_ 2 39 (bs_ 10 23) rfl rfl (by kernel_rfl) rfl (by rintro w' ⟨s0, s1⟩; go_simp; with_reducible rfl) hHeld (by simp only [Act.put, aS, aZ, aC, i64_w, i32_w]; rfl) (fun _ _ _ h => h) ?_
 refine ta_ 5 42 (bs_ 10 55) rfl rfl (by kernel_rfl) rfl (by rintro w' ⟨s0, s1⟩; go_simp; with_reducible rfl) hHeld (by simp only [Act.put, aS, aZ, aC, i64_w, i32_w]; rfl) (fun _ _ _ h => h) ?_
 refine one_ (i := 3) (N := some 40) (bs_ 10 63) rfl rfl (by kernel_rfl) (by decide) (fun K hK => ?_)
 refine goes_ Tryz.func33 (by kernel_rfl) rfl #[.int .i64 place] (by rfl) rfl rfl (by (try simp only [aT, aK, aL]); first | done | rfl) ?_
 refine (num_c place H4.out _ HA.out.env).mono ?_
 rintro e wC2 ⟨rfl, hb_⟩
 refine ⟨_, rfl, ?_⟩
 replace HA := am_ (HA.out.below hb_)
 clear hb_
 refine hK.out _ _ ⟨HA.out.at 3 rfl, HA.out.at 4 rfl⟩ (fun hHeld => ?_)
 clear hK K
 refine no_ (by simp only [Act.put, aS, aZ, aC, i64_w, i32_w]; rfl) ?_
 refine one_ (i := 6) (N := some 43) (bs_ 10 127) rfl rfl (by kernel_rfl) (by decide) (fun K hK => ?_)
 refine goes_ Tryz.func20 (by kernel_rfl) rfl #[.string key] (by rfl) rfl rfl (by (try simp only [aT, aK, aL]); first | done | rfl) ?_
 refine (quoteB_c key H6.out _ HA.out.env).mono ?_
 rintro e wE2 ⟨rfl, hb_⟩
 refine ⟨_, rfl, ?_⟩
 replace HA := am_ (HA.out.below hb_)
 clear hb_
 refine hK.out _ _ ⟨HA.out.at 3 rfl, HA.out.at 4 rfl⟩ (fun hHeld => ?_)
 clear hK K
 refine no_ (by simp only [Act.put, aS, aZ, aC, i64_w, i32_w]; rfl) ?_
 refine one_ (i := 7) (N := some 44) (bs_ 10 255) rfl rfl (by kernel_rfl) (by decide) (fun K hK => ?_)
 refine value_ (w1 := ?_) (v := ?_) (by rfl) rfl ?_ ?_
 rotate_left 2
 · go_simp
   constructor
   · rfl
   rfl
 refine hK.out _ _ ⟨(HA.out.alloc _).at 3 rfl, (HA.out.alloc _).at 4 rfl⟩ (fun hHeld => ?_)
 clear hK K
 refine no_ (by simp only [Act.put, aS, aZ, aC, i64_w, i32_w]; rfl) ?_
 refine one_ (i := 8) (N := some 45) (bs_ 10 511) rfl rfl (by kernel_rfl) (by decide) (fun K hK => ?_)
 refine HA.out.append_ (by decide) [itoaB place, quoteB key] (.tmp 37) (.tmp 44) rfl rfl rfl 2 rfl (by decide) rfl 7 rfl (by decide) ?_
 intro gB2 cB2 wB2 HB_
 replace HA := am_ HB_
 clear HB_
 refine hK.out _ _ ⟨HA.out.at 3 rfl, HA.out.at 4 rfl⟩ (fun hHeld => ?_)
 clear hK K
 refine no_ (by simp only [Act.put, aS, aZ, aC, i64_w, i32_w]; rfl) ?_
 refine pu_ 9 6 (bs_ 10 1023) rfl rfl (by kernel_rfl) rfl (by intro w'; go_simp; with_reducible rfl) (by simp only [Act.put, aS, aZ, aC, i64_w, i32_w]; rfl) (fun _ _ _ h => h) ?_
 refine done_ (by kernel_rfl) ?_
 clear hHeld
 have k_kind := HA.out.at 0 rfl
 go_wp2_with fail
 refine (HA.out.line HL.out (by simp) HJ.out).mono ?_
 rintro e w9 ⟨rfl, hP⟩
 go_wp2_with fail
 go_end0
 exact ⟨rfl, hP⟩
theorem pask_calls3 (W w0 : World) (pb : Nat) (lines : List ByteArray) (ses life num place : Int) (key to_ : ByteArray) (A : Option Addr) (c : Nat) (val : List Int) (lim : Int) (h : PInvE W w0 pb lines)
 (hval : Kd.C (Kd.int .u8) w0 A val.length val) (h1 : sc.InInt ses) (h2 : sc.InInt life) (h3 : sc.InInt num) (h4 : sc.InInt place) (h5 : sc.InInt lim) (h6 : key.size ≤ 1099511627776) (h7 : to_.size ≤ 1099511627776) (h8 : (strOfNums val).size ≤ 1099511627776)
 (hl : lines.length ≤ 4294967296) (hj : (joinB (askWords 3 ses life num place key to_ val lim) ⟨#[32]⟩).size ≤ 140737488355328) :
 Calls Tryz.prog 59 #[.pointer (some ⟨pb, 0, none⟩), .int .i64 ses, .agg #[.int .i64 3, .int .i64 life, .int .i64 num, .int .i64 place, .string key, .string to_, .slice A val.length c, .int .i64 lim]] w0 fun e w' =>
  e = .returned (.tuple #[]) ∧ PInvE W w' pb (lines ++ [joinB (askWords 3 ses life num place key to_ val lim) ⟨#[32]⟩]) := by
 rw [show askWords 3 ses life num place key to_ val lim = [⟨#[97, 115, 107]⟩, itoaB ses, ⟨#[115, 99, 97, 110]⟩, itoaB life, itoaB num, itoaB place, quoteB key, quoteB to_, itoaB lim] from rfl] at hj ⊢
 have HX := am_ (BInv.new h #[.int .i64 3, .int .i64 life, .int .i64 num, .int .i64 place, .string key, .string to_, .slice A val.length c, .int .i64 lim] 49)
 have H1 := am_ h1
 have H2 := am_ h2
 have H3 := am_ h3
 have H4 := am_ h4
 have H5 := am_ h5
 have H6 := am_ h6
 have H7 := am_ h7
 have H8 := am_ h8
 have HV := am_ hval
 have HL := am_ hl
 have HJ := am_ hj
 clear h hval h1 h2 h3 h4 h5 h6 h7 h8 hl hj
 go_enter Tryz.func59, Tryz.ntmps59
 go_wp2
 generalize (w0.alloc _) = wx at HX ⊢
 refine start_ (n := 9) (S := fun w' => w'.cell? ⟨w0.heap.size, 0, none⟩ = some (.int .i64 3)) (ds := []) #[false, false, false, false, false, false, false, false, false] (by kernel_rfl) rfl rfl (HX.out.drew.at 0 rfl) (fun hHeld => ?_)
 replace HX := am_ HX.out.drew; generalize wx.drew = w1 at HX hHeld ⊢
 refine pu_ 0 7 (bs_ 9 1) rfl rfl (by kernel_rfl) rfl (by intro w'; go_simp; with_reducible rfl) (by simp only [Act.put, aS, aZ, aC, i64_w, i32_w]; rfl) (fun _ _ _ h => h) ?_
 refine pu_ 3 10 (bs_ 9 9) rfl rfl (by kernel_rfl) rfl (by intro w'; go_simp; with_reducible rfl) (by simp only [Act.put, aS, aZ, aC, i64_w, i32_w]; rfl) (fun _ _ _ h => h) ?_
 refine take_ (i := 4) (N := some 11) (v := ?_) (a' := ?_) (bs_ 9 25) rfl rfl (by kernel_rfl) (fun _ _ _ h => h) (Or.inl ⟨by rfl, ?_⟩) hHeld ?_ ?_
 rotate_left
 · intro w' s0
   go_simp
   with_reducible rfl
 rotate_left
 · simp only [Act.put, aS, aZ, aC, i64_w, i32_w]
   rfl
 refine one_ (i := 1) (N := some 8) (bs_ 9 27) rfl rfl (by kernel_rfl) (by decide) (fun K hK => ?_)
 refine goes_ Tryz.func33 (by kernel_rfl) rfl #[.int .i64 ses] (by rfl) rfl rfl (by (try simp only [aT, aK, aL]); first | done | rfl) ?_
 refine (num_c ses H1.out _ HX.out.env).mono ?_
 rintro e w2 ⟨rfl, hb_⟩
 refine ⟨_, rfl, ?_⟩
 replace HX := am_ (HX.out.below hb_)
 clear hb_
 refine hK.out _ _ (HX.out.at 0 rfl) (fun hHeld => ?_)
 clear hK K
 refine no_ (by simp only [Act.put, aS, aZ, aC, i64_w, i32_w]; rfl) ?_
 refine one_ (i := 2) (N := some 9) (bs_ 9 31) rfl rfl (by kernel_rfl) (by decide) (fun K hK => ?_)
 refine goes_ Tryz.func78 (by kernel_rfl) rfl #[] (by rfl) rfl rfl (by (try simp only [aT, aK, aL]); first | done | rfl) ?_
 refine (kinds_c _).mono ?_
 rintro e w3 ⟨rfl, hkc_, hb_⟩
 refine ⟨_, rfl, ?_⟩
 have hkc := hkc_ 3 ⟨#[115, 99, 97, 110]⟩ rfl
 replace HX := am_ (HX.out.below hb_)
 clear hb_ hkc_
 refine hK.out _ _ (HX.out.at 0 rfl) (fun hHeld => ?_)
 clear hK K
 refine no_ (by simp only [Act.put, aS, aZ, aC, i64_w, i32_w]; rfl) ?_
 refine pu_ 5 12 (bs_ 9 63) rfl rfl (by kernel_rfl) rfl (by intro w'; go_simp; with_reducible rfl) (by simp only [Act.put, aS, aZ, aC, i64_w, i32_w]; rfl) (fun _ _ _ h => h) ?_
 refine one_ (i := 6) (N := some 13) (bs_ 9 127) rfl rfl (by kernel_rfl) (by decide) (fun K hK => ?_)
 refine value_ (w1 := ?_) (v := ?_) (by rfl) rfl ?_ ?_
 rotate_left 2
 · go_simp
   constructor
   · rfl
   rfl
 refine hK.out _ _ (HX.out.at 0 rfl) (fun hHeld => ?_)
 clear hK K
 refine no_ (by simp only [Act.put, aS, aZ, aC, i64_w, i32_w]; rfl) ?_
 refine one_ (i := 7) (N := some 14) (bs_ 9 255) rfl rfl (by kernel_rfl) (by decide) (fun K hK => ?_)
 have HA : Aside0 (AInv W w0 (w3.alloc (.cells #[.string ⟨#[97, 115, 107]⟩, .string (itoaB ses), .string ⟨#[115, 99, 97, 110]⟩] 9)) pb w0.heap.size lines 49 #[.int .i64 3, .int .i64 life, .int .i64 num, .int .i64 place, .string key, .string to_, .slice A val.length c, .int .i64 lim] (.slice (some ⟨w3.heap.size, 0, none⟩) 3 3) [⟨#[97, 115, 107]⟩, itoaB ses, ⟨#[115, 99, 97, 110]⟩]) := am_ (AInv.start HX.out [⟨#[97, 115, 107]⟩, itoaB ses, ⟨#[115, 99, 97, 110]⟩] (by simp) (by simp [maxLen]))
 refine value_ (w1 := ?_) (v := ?_) (by rfl) rfl ?_ ?_
 rotate_left 2
 · go_simp
   constructor
   · rfl
   rfl
 refine hK.out _ _ (HA.out.at 0 rfl) (fun hHeld => ?_)
 clear hK K
 refine no_ (by simp only [Act.put, aS, aZ, aC, i64_w, i32_w]; rfl) ?_
 refine pu_ 8 6 (bs_ 9 511) rfl rfl (by kernel_rfl) rfl (by intro w'; go_simp; with_reducible rfl) (by simp only [Act.put, aS, aZ, aC, i64_w, i32_w]; rfl) (fun _ _ _ h => h) ?_
 refine done_ (by kernel_rfl) ?_
 clear HX hkc
 clear hHeld
 generalize w3.alloc _ = wA at HA ⊢
 generalize w3.heap.size = gs at HA ⊢
 have k_kind := HA.out.at 0 rfl
 go_wp2_with fail
 clear k_kind
 refine start_ (n := 12) (S := fun w' => w'.cell? ⟨w0.heap.size, 1, none⟩ = some (.int .i64 life) ∧ w'.cell? ⟨w0.heap.size, 2, none⟩ = some (.int .i64 num)) (ds := []) #[false, false, false, false, false, false, false, false, false, false, false, false] (by kernel_rfl) rfl rfl ⟨HA.out.drew.at 1 rfl, HA.out.drew.at 2 rfl⟩ (fun hHeld => ?_)
 replace HA := am_ HA.out.drew; generalize wA.drew = wD1 at HA hHeld ⊢
 refine pu_ 0 18 (bs_ 12 1) rfl rfl (by kernel_rfl) rfl (by intro w'; go_simp; with_reducible rfl) (by simp only [Act.put, aS, aZ, aC, i64_w, i32_w]; rfl) (fun _ _ _ h => h) ?_
 refine pu_ 1 19 (bs_ 12 3) rfl rfl (by kernel_rfl) rfl (by intro w'; go_simp; with_reducible rfl) (by simp only [Act.put, aS, aZ, aC, i64_w, i32_w]; rfl) (fun _ _ _ h => h) ?_
 refine pu_ 2 20 (bs_ 12 7) rfl rfl (by kernel_rfl) rfl (by intro w'; go_simp; with_reducible rfl) (by simp only [Act.put, aS, aZ, aC, i64_w, i32_w]; rfl) (fun _ _ _ h => h) ?_
 refine pu_ 5 23 (bs_ 12 39) rfl rfl (by kernel_rfl) rfl (by intro w'; go_simp; with_reducible rfl) (by simp only [Act.put, aS, aZ, aC, i64_w, i32_w]; rfl) (fun _ _ _ h => h) ?_
 refine pu_ 6 24 (bs_ 12 103) rfl rfl (by kernel_rfl) rfl (by intro w'; go_simp; with_reducible rfl) (by simp only [Act.put, aS, aZ, aC, i64_w, i32_w]; rfl) (fun _ _ _ h => h) ?_
 refine ta_ 3 21 (bs_ 12 111) rfl rfl (by kernel_rfl) rfl (by rintro w' ⟨s0, s1⟩; go_simp; with_reducible rfl) hHeld (by simp only [Act.put, aS, aZ, aC, i64_w, i32_w]; rfl) (fun _ _ _ h => h) ?_
 refine ta_ 7 25 (bs_ 12 239) rfl rfl (by kernel_rfl) rfl (by rintro w' ⟨s0, s1⟩; go_simp; with_reducible rfl) hHeld (by simp only [Act.put, aS, aZ, aC, i64_w, i32_w]; rfl) (fun _ _ _ h => h) ?_
 refine one_ (i := 4) (N := some 22) (bs_ 12 255) rfl rfl (by kernel_rfl) (by decide) (fun K hK => ?_)
 refine goes_ Tryz.func33 (by kernel_rfl) rfl #[.int .i64 life] (by rfl) rfl rfl (by (try simp only [aT, aK, aL]); first | done | rfl) ?_
 refine (num_c life H2.out _ HA.out.env).mono ?_
 rintro e wC1 ⟨rfl, hb_⟩
 refine ⟨_, rfl, ?_⟩
 replace HA := am_ (HA.out.below hb_)
 clear hb_
 refine hK.out _ _ ⟨HA.out.at 1 rfl, HA.out.at 2 rfl⟩ (fun hHeld => ?_)
 clear hK K
 refine no_ (by simp only [Act.put, aS, aZ, aC, i64_w, i32_w]; rfl) ?_
 refine one_ (i := 8) (N := some 26) (bs_ 12 511) rfl rfl (by kernel_rfl) (by decide) (fun K hK => ?_)
 refine goes_ Tryz.func33 (by kernel_rfl) rfl #[.int .i64 num] (by rfl) rfl rfl (by (try simp only [aT, aK, aL]); first | done | rfl) ?_
 refine (num_c num H3.out _ HA.out.env).mono ?_
 rintro e wE1 ⟨rfl, hb_⟩
 refine ⟨_, rfl, ?_⟩
 replace HA := am_ (HA.out.below hb_)
 clear hb_
 refine hK.out _ _ ⟨HA.out.at 1 rfl, HA.out.at 2 rfl⟩ (fun hHeld => ?_)
 clear hK K
 refine no_ (by simp only [Act.put, aS, aZ, aC, i64_w, i32_w]; rfl) ?_
 refine one_ (i := 9) (N := some 27) (bs_ 12 1023) rfl rfl (by kernel_rfl) (by decide) (fun K hK => ?_)
 refine value_ (w1 := ?_) (v := ?_) (by rfl) rfl ?_ ?_
 rotate_left 2
 · go_simp
   constructor
   · rfl
   rfl
 refine hK.out _ _ ⟨(HA.out.alloc _).at 1 rfl, (HA.out.alloc _).at 2 rfl⟩ (fun hHeld => ?_)
 clear hK K
 refine no_ (by simp only [Act.put, aS, aZ, aC, i64_w, i32_w]; rfl) ?_
 refine one_ (i := 10) (N := some 28) (bs_ 12 2047) rfl rfl (by kernel_rfl) (by decide) (fun K hK => ?_)
 refine HA.out.append_ (by decide) [itoaB life, itoaB num] (.tmp 18) (.tmp 27) rfl rfl rfl 2 rfl (by decide) rfl 5 rfl (by decide) ?_
 intro gB1 cB1 wB1 HB_
 replace HA := am_ HB_
 clear HB_
 refine hK.out _ _ ⟨HA.out.at 1 rfl, HA.out.at 2 rfl⟩ (fun hHeld => ?_)
 clear hK K
 refine no_ (by simp only [Act.put, aS, aZ, aC, i64_w, i32_w]; rfl) ?_
 refine pu_ 11 6 (bs_ 12 4095) rfl rfl (by kernel_rfl) rfl (by intro w'; go_simp; with_reducible rfl) (by simp only [Act.put, aS, aZ, aC, i64_w, i32_w]; rfl) (fun _ _ _ h => h) ?_
 refine done_ (by kernel_rfl) ?_
 clear hHeld
 have k_kind := HA.out.at 0 rfl
 go_wp2_with fail
 clear k_kind
 refine start_ (n := 10) (S := fun w' => w'.cell? ⟨w0.heap.size, 3, none⟩ = some (.int .i64 place) ∧ w'.cell? ⟨w0.heap.size, 4, none⟩ = some (.string key)) (ds := []) #[false, false, false, false, false, false, false, false, false, false] (by kernel_rfl) rfl rfl ⟨HA.out.drew.at 3 rfl, HA.out.drew.at 4 rfl⟩ (fun hHeld => ?_)
 replace HA := am_ HA.out.drew; generalize wB1.drew = wD2 at HA hHeld ⊢
 refine pu_ 0 37 (bs_ 10 1) rfl rfl (by kernel_rfl) rfl (by intro w'; go_simp; with_reducible rfl) (by simp only [Act.put, aS, aZ, aC, i64_w, i32_w]; rfl) (fun _ _ _ h => h) ?_
 refine pu_ 1 38 (bs_ 10 3) rfl rfl (by kernel_rfl) rfl (by intro w'; go_simp; with_reducible rfl) (by simp only [Act.put, aS, aZ, aC, i64_w, i32_w]; rfl) (fun _ _ _ h => h) ?_
 refine pu_ 4 41 (bs_ 10 19) rfl rfl (by kernel_rfl) rfl (by intro w'; go_simp; with_reducible rfl) (by simp only [Act.put, aS, aZ, aC, i64_w, i32_w]; rfl) (fun _ _ _ h => h) ?_
 refine ta_ 2 39 (bs_ 10 23) rfl rfl (by kernel_rfl) rfl (by rintro w' ⟨s0, s1⟩; go_simp; with_reducible rfl) hHeld (by simp only [Act.put, aS, aZ, aC, i64_w, i32_w]; rfl) (fun _ _ _ h => h) ?_
 refine ta_ 5 42 (bs_ 10 55) rfl rfl (by kernel_rfl) rfl (by rintro w' ⟨s0, s1⟩; go_simp; with_reducible rfl) hHeld (by simp only [Act.put, aS, aZ, aC, i64_w, i32_w]; rfl) (fun _ _ _ h => h) ?_
 refine one_ (i := 3) (N := some 40) (bs_ 10 63) rfl rfl (by kernel_rfl) (by decide) (fun K hK => ?_)
 refine goes_ Tryz.func33 (by kernel_rfl) rfl #[.int .i64 place] (by rfl) rfl rfl (by (try simp only [aT, aK, aL]); first | done | rfl) ?_
 refine (num_c place H4.out _ HA.out.env).mono ?_
 rintro e wC2 ⟨rfl, hb_⟩
 refine ⟨_, rfl, ?_⟩
 replace HA := am_ (HA.out.below hb_)
 clear hb_
 refine hK.out _ _ ⟨HA.out.at 3 rfl, HA.out.at 4 rfl⟩ (fun hHeld => ?_)
 clear hK K
 refine no_ (by simp only [Act.put, aS, aZ, aC, i64_w, i32_w]; rfl) ?_
 refine one_ (i := 6) (N := some 43) (bs_ 10 127) rfl rfl (by kernel_rfl) (by decide) (fun K hK => ?_)
 refine goes_ Tryz.func20 (by kernel_rfl) rfl #[.string key] (by rfl) rfl rfl (by (try simp only [aT, aK, aL]); first | done | rfl) ?_
 refine (quoteB_c key H6.out _ HA.out.env).mono ?_
 rintro e wE2 ⟨rfl, hb_⟩
 refine ⟨_, rfl, ?_⟩
 replace HA := am_ (HA.out.below hb_)
 clear hb_
 refine hK.out _ _ ⟨HA.out.at 3 rfl, HA.out.at 4 rfl⟩ (fun hHeld => ?_)
 clear hK K
 refine no_ (by simp only [Act.put, aS, aZ, aC, i64_w, i32_w]; rfl) ?_
 refine one_ (i := 7) (N := some 44) (bs_ 10 255) rfl rfl (by kernel_rfl) (by decide) (fun K hK => ?_)
 refine value_ (w1 := ?_) (v := ?_) (by rfl) rfl ?_ ?_
 rotate_left 2
 · go_simp
   constructor
   · rfl
   rfl
 refine hK.out _ _ ⟨(HA.out.alloc _).at 3 rfl, (HA.out.alloc _).at 4 rfl⟩ (fun hHeld => ?_)
 clear hK K
 refine no_ (by simp only [Act.put, aS, aZ, aC, i64_w, i32_w]; rfl) ?_
 refine one_ (i := 8) (N := some 45) (bs_ 10 511) rfl rfl (by kernel_rfl) (by decide) (fun K hK => ?_)
 refine HA.out.append_ (by decide) [itoaB place, quoteB key] (.tmp 37) (.tmp 44) rfl rfl rfl 2 rfl (by decide) rfl 7 rfl (by decide) ?_
 intro gB2 cB2 wB2 HB_
 replace HA := am_ HB_
 clear HB_
 refine hK.out _ _ ⟨HA.out.at 3 rfl, HA.out.at 4 rfl⟩ (fun hHeld => ?_)
 clear hK K
 refine no_ (by simp only [Act.put, aS, aZ, aC, i64_w, i32_w]; rfl) ?_
 refine pu_ 9 6 (bs_ 10 1023) rfl rfl (by kernel_rfl) rfl (by intro w'; go_simp; with_reducible rfl) (by simp only [Act.put, aS, aZ, aC, i64_w, i32_w]; rfl) (fun _ _ _ h => h) ?_
 refine done_ (by kernel_rfl) ?_
 clear hHeld
 have k_kind := HA.out.at 0 rfl
 go_wp2_with fail
 clear k_kind
 refine start_ (n := 10) (S := fun w' => w'.cell? ⟨w0.heap.size, 5, none⟩ = some (.string to_) ∧ w'.cell? ⟨w0.heap.size, 7, none⟩ = some (.int .i64 lim)) (ds := []) #[false, false, false, false, false, false, false, false, false, false] (by kernel_rfl) rfl rfl ⟨HA.out.drew.at 5 rfl, HA.out.drew.at 7 rfl⟩ (fun hHeld => ?_)
 replace HA := am_ HA.out.drew; generalize wB2.drew = wD3 at HA hHeld ⊢
 refine pu_ 0 50 (bs_ 10 1) rfl rfl (by kernel_rfl) rfl (by intro w'; go_simp; with_reducible rfl) (by simp only [Act.put, aS, aZ, aC, i64_w, i32_w]; rfl) (fun _ _ _ h => h) ?_
 refine pu_ 1 51 (bs_ 10 3) rfl rfl (by kernel_rfl) rfl (by intro w'; go_simp; with_reducible rfl) (by simp only [Act.put, aS, aZ, aC, i64_w, i32_w]; rfl) (fun _ _ _ h => h) ?_
 refine pu_ 4 54 (bs_ 10 19) rfl rfl (by kernel_rfl) rfl (by intro w'; go_simp; with_reducible rfl) (by simp only [Act.put, aS, aZ, aC, i64_w, i32_w]; rfl) (fun _ _ _ h => h) ?_
 refine ta_ 2 52 (bs_ 10 23) rfl rfl (by kernel_rfl) rfl (by rintro w' ⟨s0, s1⟩; go_simp; with_reducible rfl) hHeld (by simp only [Act.put, aS, aZ, aC, i64_w, i32_w]; rfl) (fun _ _ _ h => h) ?_
 refine ta_ 5 55 (bs_ 10 55) rfl rfl (by kernel_rfl) rfl (by rintro w' ⟨s0, s1⟩; go_simp; with_reducible rfl) hHeld (by simp only [Act.put, aS, aZ, aC, i64_w, i32_w]; rfl) (fun _ _ _ h => h) ?_
 refine one_ (i := 3) (N := some 53) (bs_ 10 63) rfl rfl (by kernel_rfl) (by decide) (fun K hK => ?_)
 refine goes_ Tryz.func20 (by kernel_rfl) rfl #[.string to_] (by rfl) rfl rfl (by (try simp only [aT, aK, aL]); first | done | rfl) ?_
 refine (quoteB_c to_ H7.out _ HA.out.env).mono ?_
 rintro e wC3 ⟨rfl, hb_⟩
 refine ⟨_, rfl, ?_⟩
 replace HA := am_ (HA.out.below hb_)
 clear hb_
 refine hK.out _ _ ⟨HA.out.at 5 rfl, HA.out.at 7 rfl⟩ (fun hHeld => ?_)
 clear hK K
 refine no_ (by simp only [Act.put, aS, aZ, aC, i64_w, i32_w]; rfl) ?_
 refine one_ (i := 6) (N := some 56) (bs_ 10 127) rfl rfl (by kernel_rfl) (by decide) (fun K hK => ?_)
 refine goes_ Tryz.func33 (by kernel_rfl) rfl #[.int .i64 lim] (by rfl) rfl rfl (by (try simp only [aT, aK, aL]); first | done | rfl) ?_
 refine (num_c lim H5.out _ HA.out.env).mono ?_
 rintro e wE3 ⟨rfl, hb_⟩
 refine ⟨_, rfl, ?_⟩
 replace HA := am_ (HA.out.below hb_)
 clear hb_
 refine hK.out _ _ ⟨HA.out.at 5 rfl, HA.out.at 7 rfl⟩ (fun hHeld => ?_)
 clear hK K
 refine no_ (by simp only [Act.put, aS, aZ, aC, i64_w, i32_w]; rfl) ?_
 refine one_ (i := 7) (N := some 57) (bs_ 10 255) rfl rfl (by kernel_rfl) (by decide) (fun K hK => ?_)
 refine value_ (w1 := ?_) (v := ?_) (by rfl) rfl ?_ ?_
 rotate_left 2
 · go_simp
   constructor
   · rfl
   rfl
 refine hK.out _ _ ⟨(HA.out.alloc _).at 5 rfl, (HA.out.alloc _).at 7 rfl⟩ (fun hHeld => ?_)
 clear hK K
 refine no_ (by simp only [Act.put, aS, aZ, aC, i64_w, i32_w]; rfl) ?_
 refine one_ (i := 8) (N := some 58) (bs_ 10 511) rfl rfl (by kernel_rfl) (by decide) (fun K hK => ?_)
 refine HA.out.append_ (by decide) [quoteB to_, itoaB lim] (.tmp 50) (.tmp 57) rfl rfl rfl 2 rfl (by decide) rfl 9 rfl (by decide) ?_
 intro gB3 cB3 wB3 HB_
 replace HA := am_ HB_
 clear HB_
 refine hK.out _ _ ⟨HA.out.at 5 rfl, HA.out.at 7 rfl⟩ (fun hHeld => ?_)
 clear hK K
 refine no_ (by simp only [Act.put, aS, aZ, aC, i64_w, i32_w]; rfl) ?_
 refine pu_ 9 6 (bs_ 10 1023) rfl rfl (by kernel_rfl) rfl (by intro w'; go_simp; with_reducible rfl) (by simp only [Act.put, aS, aZ, aC, i64_w, i32_w]; rfl) (fun _ _ _ h => h) ?_
 refine done_ (by kernel_rfl) ?_
 clear hHeld
 go_wp2_with fail
 refine (HA.out.line HL.out (by simp) HJ.out).mono ?_
 rintro e w9 ⟨rfl, hP⟩
 go_wp2_with fail
 go_end0
 exact ⟨rfl, hP⟩
theorem pask_calls4 (W w0 : World) (pb : Nat) (lines : List ByteArray) (ses life num place : Int) (key to_ : ByteArray) (A : Option Addr) (c : Nat) (val : List Int) (lim : Int) (h : PInvE W w0 pb lines)
 (hval : Kd.C (Kd.int .u8) w0 A val.length val) (h1 : sc.InInt ses) (h2 : sc.InInt life) (h3 : sc.InInt num) (h4 : sc.InInt place) (h5 : sc.InInt lim) (h6 : key.size ≤ 1099511627776) (h7 : to_.size ≤ 1099511627776) (h8 : (strOfNums val).size ≤ 1099511627776)
 (hl : lines.length ≤ 4294967296) (hj : (joinB (askWords 4 ses life num place key to_ val lim) ⟨#[32]⟩).size ≤ 140737488355328) :
 Calls Tryz.prog 59 #[.pointer (some ⟨pb, 0, none⟩), .int .i64 ses, .agg #[.int .i64 4, .int .i64 life, .int .i64 num, .int .i64 place, .string key, .string to_, .slice A val.length c, .int .i64 lim]] w0 fun e w' =>
  e = .returned (.tuple #[]) ∧ PInvE W w' pb (lines ++ [joinB (askWords 4 ses life num place key to_ val lim) ⟨#[32]⟩]) := by
 rw [show askWords 4 ses life num place key to_ val lim = [⟨#[97, 115, 107]⟩, itoaB ses, ⟨#[112, 117, 116]⟩, itoaB life, itoaB num, itoaB place, quoteB key, quoteB (strOfNums val)] from rfl] at hj ⊢
 have HX := am_ (BInv.new h #[.int .i64 4, .int .i64 life, .int .i64 num, .int .i64 place, .string key, .string to_, .slice A val.length c, .int .i64 lim] 49)
 have H1 := am_ h1
 have H2 := am_ h2
 have H3 := am_ h3
 have H4 := am_ h4
 have H5 := am_ h5
 have H6 := am_ h6
 have H7 := am_ h7
 have H8 := am_ h8
 have HV := am_ hval
 have HL := am_ hl
 have HJ := am_ hj
 clear h hval h1 h2 h3 h4 h5 h6 h7 h8 hl hj
 go_enter Tryz.func59, Tryz.ntmps59
 go_wp2
 generalize (w0.alloc _) = wx at HX ⊢
 refine start_ (n := 9) (S := fun w' => w'.cell? ⟨w0.heap.size, 0, none⟩ = some (.int .i64 4)) (ds := []) #[false, false, false, false, false, false, false, false, false] (by kernel_rfl) rfl rfl (HX.out.drew.at 0 rfl) (fun hHeld => ?_)
 replace HX := am_ HX.out.drew; generalize wx.drew = w1 at HX hHeld ⊢
 refine pu_ 0 7 (bs_ 9 1) rfl rfl (by kernel_rfl) rfl (by intro w'; go_simp; with_reducible rfl) (by simp only [Act.put, aS, aZ, aC, i64_w, i32_w]; rfl) (fun _ _ _ h => h) ?_
 refine pu_ 3 10 (bs_ 9 9) rfl rfl (by kernel_rfl) rfl (by intro w'; go_simp; with_reducible rfl) (by simp only [Act.put, aS, aZ, aC, i64_w, i32_w]; rfl) (fun _ _ _ h => h) ?_
 refine take_ (i := 4) (N := some 11) (v := ?_) (a' := ?_) (bs_ 9 25) rfl rfl (by kernel_rfl) (fun _ _ _ h => h) (Or.inl ⟨by rfl, ?_⟩) hHeld ?_ ?_
 rotate_left
 · intro w' s0
   go_simp
   with_reducible rfl
 rotate_left
 · simp only [Act.put, aS, aZ, aC, i64_w, i32_w]
   rfl
 refine one_ (i := 1) (N := some 8) (bs_ 9 27) rfl rfl (by kernel_rfl) (by decide) (fun K hK => ?_)
 refine goes_ Tryz.func33 (by kernel_rfl) rfl #[.int .i64 ses] (by rfl) rfl rfl (by (try simp only [aT, aK, aL]); first | done | rfl) ?_
 refine (num_c ses H1.out _ HX.out.env).mono ?_
 rintro e w2 ⟨rfl, hb_⟩
 refine ⟨_, rfl, ?_⟩
 replace HX := am_ (HX.out.below hb_)
 clear hb_
 refine hK.out _ _ (HX.out.at 0 rfl) (fun hHeld => ?_)
 clear hK K
 refine no_ (by simp only [Act.put, aS, aZ, aC, i64_w, i32_w]; rfl) ?_
 refine one_ (i := 2) (N := some 9) (bs_ 9 31) rfl rfl (by kernel_rfl) (by decide) (fun K hK => ?_)
 refine goes_ Tryz.func78 (by kernel_rfl) rfl #[] (by rfl) rfl rfl (by (try simp only [aT, aK, aL]); first | done | rfl) ?_
 refine (kinds_c _).mono ?_
 rintro e w3 ⟨rfl, hkc_, hb_⟩
 refine ⟨_, rfl, ?_⟩
 have hkc := hkc_ 4 ⟨#[112, 117, 116]⟩ rfl
 replace HX := am_ (HX.out.below hb_)
 clear hb_ hkc_
 refine hK.out _ _ (HX.out.at 0 rfl) (fun hHeld => ?_)
 clear hK K
 refine no_ (by simp only [Act.put, aS, aZ, aC, i64_w, i32_w]; rfl) ?_
 refine pu_ 5 12 (bs_ 9 63) rfl rfl (by kernel_rfl) rfl (by intro w'; go_simp; with_reducible rfl) (by simp only [Act.put, aS, aZ, aC, i64_w, i32_w]; rfl) (fun _ _ _ h => h) ?_
 refine one_ (i := 6) (N := some 13) (bs_ 9 127) rfl rfl (by kernel_rfl) (by decide) (fun K hK => ?_)
 refine value_ (w1 := ?_) (v := ?_) (by rfl) rfl ?_ ?_
 rotate_left 2
 · go_simp
   constructor
   · rfl
   rfl
 refine hK.out _ _ (HX.out.at 0 rfl) (fun hHeld => ?_)
 clear hK K
 refine no_ (by simp only [Act.put, aS, aZ, aC, i64_w, i32_w]; rfl) ?_
 refine one_ (i := 7) (N := some 14) (bs_ 9 255) rfl rfl (by kernel_rfl) (by decide) (fun K hK => ?_)
 have HA : Aside0 (AInv W w0 (w3.alloc (.cells #[.string ⟨#[97, 115, 107]⟩, .string (itoaB ses), .string ⟨#[112, 117, 116]⟩] 9)) pb w0.heap.size lines 49 #[.int .i64 4, .int .i64 life, .int .i64 num, .int .i64 place, .string key, .string to_, .slice A val.length c, .int .i64 lim] (.slice (some ⟨w3.heap.size, 0, none⟩) 3 3) [⟨#[97, 115, 107]⟩, itoaB ses, ⟨#[112, 117, 116]⟩]) := am_ (AInv.start HX.out [⟨#[97, 115, 107]⟩, itoaB ses, ⟨#[112, 117, 116]⟩] (by simp) (by simp [maxLen]))
 refine value_ (w1 := ?_) (v := ?_) (by rfl) rfl ?_ ?_
 rotate_left 2
 · go_simp
   constructor
   · rfl
   rfl
 refine hK.out _ _ (HA.out.at 0 rfl) (fun hHeld => ?_)
 clear hK K
 refine no_ (by simp only [Act.put, aS, aZ, aC, i64_w, i32_w]; rfl) ?_
 refine pu_ 8 6 (bs_ 9 511) rfl rfl (by kernel_rfl) rfl (by intro w'; go_simp; with_reducible rfl) (by simp only [Act.put, aS, aZ, aC, i64_w, i32_w]; rfl) (fun _ _ _ h => h) ?_
 refine done_ (by kernel_rfl) ?_
 clear HX hkc
 clear hHeld
 generalize w3.alloc _ = wA at HA ⊢
 generalize w3.heap.size = gs at HA ⊢
 have k_kind := HA.out.at 0 rfl
 go_wp2_with fail
 clear k_kind
 refine start_ (n := 12) (S := fun w' => w'.cell? ⟨w0.heap.size, 1, none⟩ = some (.int .i64 life) ∧ w'.cell? ⟨w0.heap.size, 2, none⟩ = some (.int .i64 num)) (ds := []) #[false, false, false, false, false, false, false, false, false, false, false, false] (by kernel_rfl) rfl rfl ⟨HA.out.drew.at 1 rfl, HA.out.drew.at 2 rfl⟩ (fun hHeld => ?_)
 replace HA := am_ HA.out.drew; generalize wA.drew = wD1 at HA hHeld ⊢
 refine pu_ 0 18 (bs_ 12 1) rfl rfl (by kernel_rfl) rfl (by intro w'; go_simp; with_reducible rfl) (by simp only [Act.put, aS, aZ, aC, i64_w, i32_w]; rfl) (fun _ _ _ h => h) ?_
 refine pu_ 1 19 (bs_ 12 3) rfl rfl (by kernel_rfl) rfl (by intro w'; go_simp; with_reducible rfl) (by simp only [Act.put, aS, aZ, aC, i64_w, i32_w]; rfl) (fun _ _ _ h => h) ?_
 refine pu_ 2 20 (bs_ 12 7) rfl rfl (by kernel_rfl) rfl (by intro w'; go_simp; with_reducible rfl) (by simp only [Act.put, aS, aZ, aC, i64_w, i32_w]; rfl) (fun _ _ _ h => h) ?_
 refine pu_ 5 23 (bs_ 12 39) rfl rfl (by kernel_rfl) rfl (by intro w'; go_simp; with_reducible rfl) (by simp only [Act.put, aS, aZ, aC, i64_w, i32_w]; rfl) (fun _ _ _ h => h) ?_
 refine pu_ 6 24 (bs_ 12 103) rfl rfl (by kernel_rfl) rfl (by intro w'; go_simp; with_reducible rfl) (by simp only [Act.put, aS, aZ, aC, i64_w, i32_w]; rfl) (fun _ _ _ h => h) ?_
 refine ta_ 3 21 (bs_ 12 111) rfl rfl (by kernel_rfl) rfl (by rintro w' ⟨s0, s1⟩; go_simp; with_reducible rfl) hHeld (by simp only [Act.put, aS, aZ, aC, i64_w, i32_w]; rfl) (fun _ _ _ h => h) ?_
 refine ta_ 7 25 (bs_ 12 239) rfl rfl (by kernel_rfl) rfl (by rintro w' ⟨s0, s1⟩; go_simp; with_reducible rfl) hHeld (by simp only [Act.put, aS, aZ, aC, i64_w, i32_w]; rfl) (fun _ _ _ h => h) ?_
 refine one_ (i := 4) (N := some 22) (bs_ 12 255) rfl rfl (by kernel_rfl) (by decide) (fun K hK => ?_)
 refine goes_ Tryz.func33 (by kernel_rfl) rfl #[.int .i64 life] (by rfl) rfl rfl (by (try simp only [aT, aK, aL]); first | done | rfl) ?_
 refine (num_c life H2.out _ HA.out.env).mono ?_
 rintro e wC1 ⟨rfl, hb_⟩
 refine ⟨_, rfl, ?_⟩
 replace HA := am_ (HA.out.below hb_)
 clear hb_
 refine hK.out _ _ ⟨HA.out.at 1 rfl, HA.out.at 2 rfl⟩ (fun hHeld => ?_)
 clear hK K
 refine no_ (by simp only [Act.put, aS, aZ, aC, i64_w, i32_w]; rfl) ?_
 refine one_ (i := 8) (N := some 26) (bs_ 12 511) rfl rfl (by kernel_rfl) (by decide) (fun K hK => ?_)
 refine goes_ Tryz.func33 (by kernel_rfl) rfl #[.int .i64 num] (by rfl) rfl rfl (by (try simp only [aT, aK, aL]); first | done | rfl) ?_
 refine (num_c num H3.out _ HA.out.env).mono ?_
 rintro e wE1 ⟨rfl, hb_⟩
 refine ⟨_, rfl, ?_⟩
 replace HA := am_ (HA.out.below hb_)
 clear hb_
 refine hK.out _ _ ⟨HA.out.at 1 rfl, HA.out.at 2 rfl⟩ (fun hHeld => ?_)
 clear hK K
 refine no_ (by simp only [Act.put, aS, aZ, aC, i64_w, i32_w]; rfl) ?_
 refine one_ (i := 9) (N := some 27) (bs_ 12 1023) rfl rfl (by kernel_rfl) (by decide) (fun K hK => ?_)
 refine value_ (w1 := ?_) (v := ?_) (by rfl) rfl ?_ ?_
 rotate_left 2
 · go_simp
   constructor
   · rfl
   rfl
 refine hK.out _ _ ⟨(HA.out.alloc _).at 1 rfl, (HA.out.alloc _).at 2 rfl⟩ (fun hHeld => ?_)
 clear hK K
 refine no_ (by simp only [Act.put, aS, aZ, aC, i64_w, i32_w]; rfl) ?_
 refine one_ (i := 10) (N := some 28) (bs_ 12 2047) rfl rfl (by kernel_rfl) (by decide) (fun K hK => ?_)
 refine HA.out.append_ (by decide) [itoaB life, itoaB num] (.tmp 18) (.tmp 27) rfl rfl rfl 2 rfl (by decide) rfl 5 rfl (by decide) ?_
 intro gB1 cB1 wB1 HB_
 replace HA := am_ HB_
 clear HB_
 refine hK.out _ _ ⟨HA.out.at 1 rfl, HA.out.at 2 rfl⟩ (fun hHeld => ?_)
 clear hK K
 refine no_ (by simp only [Act.put, aS, aZ, aC, i64_w, i32_w]; rfl) ?_
 refine pu_ 11 6 (bs_ 12 4095) rfl rfl (by kernel_rfl) rfl (by intro w'; go_simp; with_reducible rfl) (by simp only [Act.put, aS, aZ, aC, i64_w, i32_w]; rfl) (fun _ _ _ h => h) ?_
 refine done_ (by kernel_rfl) ?_
 clear hHeld
 have k_kind := HA.out.at 0 rfl
 go_wp2_with fail
 clear k_kind
 refine start_ (n := 10) (S := fun w' => w'.cell? ⟨w0.heap.size, 3, none⟩ = some (.int .i64 place) ∧ w'.cell? ⟨w0.heap.size, 4, none⟩ = some (.string key)) (ds := []) #[false, false, false, false, false, false, false, false, false, false] (by kernel_rfl) rfl rfl ⟨HA.out.drew.at 3 rfl, HA.out.drew.at 4 rfl⟩ (fun hHeld => ?_)
 replace HA := am_ HA.out.drew; generalize wB1.drew = wD2 at HA hHeld ⊢
 refine pu_ 0 37 (bs_ 10 1) rfl rfl (by kernel_rfl) rfl (by intro w'; go_simp; with_reducible rfl) (by simp only [Act.put, aS, aZ, aC, i64_w, i32_w]; rfl) (fun _ _ _ h => h) ?_
 refine pu_ 1 38 (bs_ 10 3) rfl rfl (by kernel_rfl) rfl (by intro w'; go_simp; with_reducible rfl) (by simp only [Act.put, aS, aZ, aC, i64_w, i32_w]; rfl) (fun _ _ _ h => h) ?_
 refine pu_ 4 41 (bs_ 10 19) rfl rfl (by kernel_rfl) rfl (by intro w'; go_simp; with_reducible rfl) (by simp only [Act.put, aS, aZ, aC, i64_w, i32_w]; rfl) (fun _ _ _ h => h) ?_
 refine ta_ 2 39 (bs_ 10 23) rfl rfl (by kernel_rfl) rfl (by rintro w' ⟨s0, s1⟩; go_simp; with_reducible rfl) hHeld (by simp only [Act.put, aS, aZ, aC, i64_w, i32_w]; rfl) (fun _ _ _ h => h) ?_
 refine ta_ 5 42 (bs_ 10 55) rfl rfl (by kernel_rfl) rfl (by rintro w' ⟨s0, s1⟩; go_simp; with_reducible rfl) hHeld (by simp only [Act.put, aS, aZ, aC, i64_w, i32_w]; rfl) (fun _ _ _ h => h) ?_
 refine one_ (i := 3) (N := some 40) (bs_ 10 63) rfl rfl (by kernel_rfl) (by decide) (fun K hK => ?_)
 refine goes_ Tryz.func33 (by kernel_rfl) rfl #[.int .i64 place] (by rfl) rfl rfl (by (try simp only [aT, aK, aL]); first | done | rfl) ?_
 refine (num_c place H4.out _ HA.out.env).mono ?_
 rintro e wC2 ⟨rfl, hb_⟩
 refine ⟨_, rfl, ?_⟩
 replace HA := am_ (HA.out.below hb_)
 clear hb_
 refine hK.out _ _ ⟨HA.out.at 3 rfl, HA.out.at 4 rfl⟩ (fun hHeld => ?_)
 clear hK K
 refine no_ (by simp only [Act.put, aS, aZ, aC, i64_w, i32_w]; rfl) ?_
 refine one_ (i := 6) (N := some 43) (bs_ 10 127) rfl rfl (by kernel_rfl) (by decide) (fun K hK => ?_)
 refine goes_ Tryz.func20 (by kernel_rfl) rfl #[.string key] (by rfl) rfl rfl (by (try simp only [aT, aK, aL]); first | done | rfl) ?_
 refine (quoteB_c key H6.out _ HA.out.env).mono ?_
 rintro e wE2 ⟨rfl, hb_⟩
 refine ⟨_, rfl, ?_⟩
 replace HA := am_ (HA.out.below hb_)
 clear hb_
 refine hK.out _ _ ⟨HA.out.at 3 rfl, HA.out.at 4 rfl⟩ (fun hHeld => ?_)
 clear hK K
 refine no_ (by simp only [Act.put, aS, aZ, aC, i64_w, i32_w]; rfl) ?_
 refine one_ (i := 7) (N := some 44) (bs_ 10 255) rfl rfl (by kernel_rfl) (by decide) (fun K hK => ?_)
 refine value_ (w1 := ?_) (v := ?_) (by rfl) rfl ?_ ?_
 rotate_left 2
 · go_simp
   constructor
   · rfl
   rfl
 refine hK.out _ _ ⟨(HA.out.alloc _).at 3 rfl, (HA.out.alloc _).at 4 rfl⟩ (fun hHeld => ?_)
 clear hK K
 refine no_ (by simp only [Act.put, aS, aZ, aC, i64_w, i32_w]; rfl) ?_
 refine one_ (i := 8) (N := some 45) (bs_ 10 511) rfl rfl (by kernel_rfl) (by decide) (fun K hK => ?_)
 refine HA.out.append_ (by decide) [itoaB place, quoteB key] (.tmp 37) (.tmp 44) rfl rfl rfl 2 rfl (by decide) rfl 7 rfl (by decide) ?_
 intro gB2 cB2 wB2 HB_
 replace HA := am_ HB_
 clear HB_
 refine hK.out _ _ ⟨HA.out.at 3 rfl, HA.out.at 4 rfl⟩ (fun hHeld => ?_)
 clear hK K
 refine no_ (by simp only [Act.put, aS, aZ, aC, i64_w, i32_w]; rfl) ?_
 refine pu_ 9 6 (bs_ 10 1023) rfl rfl (by kernel_rfl) rfl (by intro w'; go_simp; with_reducible rfl) (by simp only [Act.put, aS, aZ, aC, i64_w, i32_w]; rfl) (fun _ _ _ h => h) ?_
 refine done_ (by kernel_rfl) ?_
 clear hHeld
 have k_kind := HA.out.at 0 rfl
 have k_val := HA.out.at 6 rfl
 have hcv := Kd.C_string (P := Tryz.prog) (A := A) (c := c) Tryz.underlying38 Tryz.underlying5 Tryz.underlying9 (Kd.C_below HV.out HA.out.b.b0)
 go_wp2_with (first | (go_at_call 20; refine (quoteB_c _ H8.out _ HA.out.env).mono ?_; rintro e wC9 ⟨rfl, hb_⟩; replace HA := am_ (HA.out.below hb_); clear hb_ k_val hcv k_kind) | (at_builtin; refine HA.out.appendL (by decide) [quoteB (strOfNums val)] _ _ rfl rfl rfl 1 rfl (by decide) rfl 8 rfl (by decide) ?_; intro gB9 cB9 wB9 HB_; replace HA := am_ HB_; clear HB_) | (go_at_call 32; refine (HA.out.line HL.out (by simp) HJ.out).mono ?_; rintro e w9 ⟨rfl, hP⟩))
 go_end0
 exact ⟨rfl, hP⟩
theorem pask_calls5 (W w0 : World) (pb : Nat) (lines : List ByteArray) (ses life num place : Int) (key to_ : ByteArray) (A : Option Addr) (c : Nat) (val : List Int) (lim : Int) (h : PInvE W w0 pb lines)
 (hval : Kd.C (Kd.int .u8) w0 A val.length val) (h1 : sc.InInt ses) (h2 : sc.InInt life) (h3 : sc.InInt num) (h4 : sc.InInt place) (h5 : sc.InInt lim) (h6 : key.size ≤ 1099511627776) (h7 : to_.size ≤ 1099511627776) (h8 : (strOfNums val).size ≤ 1099511627776)
 (hl : lines.length ≤ 4294967296) (hj : (joinB (askWords 5 ses life num place key to_ val lim) ⟨#[32]⟩).size ≤ 140737488355328) :
 Calls Tryz.prog 59 #[.pointer (some ⟨pb, 0, none⟩), .int .i64 ses, .agg #[.int .i64 5, .int .i64 life, .int .i64 num, .int .i64 place, .string key, .string to_, .slice A val.length c, .int .i64 lim]] w0 fun e w' =>
  e = .returned (.tuple #[]) ∧ PInvE W w' pb (lines ++ [joinB (askWords 5 ses life num place key to_ val lim) ⟨#[32]⟩]) := by
 rw [show askWords 5 ses life num place key to_ val lim = [⟨#[97, 115, 107]⟩, itoaB ses, ⟨#[100, 101, 108, 101, 116, 101]⟩, itoaB life, itoaB num, itoaB place, quoteB key] from rfl] at hj ⊢
 have HX := am_ (BInv.new h #[.int .i64 5, .int .i64 life, .int .i64 num, .int .i64 place, .string key, .string to_, .slice A val.length c, .int .i64 lim] 49)
 have H1 := am_ h1
 have H2 := am_ h2
 have H3 := am_ h3
 have H4 := am_ h4
 have H5 := am_ h5
 have H6 := am_ h6
 have H7 := am_ h7
 have H8 := am_ h8
 have HV := am_ hval
 have HL := am_ hl
 have HJ := am_ hj
 clear h hval h1 h2 h3 h4 h5 h6 h7 h8 hl hj
 go_enter Tryz.func59, Tryz.ntmps59
 go_wp2
 generalize (w0.alloc _) = wx at HX ⊢
 refine start_ (n := 9) (S := fun w' => w'.cell? ⟨w0.heap.size, 0, none⟩ = some (.int .i64 5)) (ds := []) #[false, false, false, false, false, false, false, false, false] (by kernel_rfl) rfl rfl (HX.out.drew.at 0 rfl) (fun hHeld => ?_)
 replace HX := am_ HX.out.drew; generalize wx.drew = w1 at HX hHeld ⊢
 refine pu_ 0 7 (bs_ 9 1) rfl rfl (by kernel_rfl) rfl (by intro w'; go_simp; with_reducible rfl) (by simp only [Act.put, aS, aZ, aC, i64_w, i32_w]; rfl) (fun _ _ _ h => h) ?_
 refine pu_ 3 10 (bs_ 9 9) rfl rfl (by kernel_rfl) rfl (by intro w'; go_simp; with_reducible rfl) (by simp only [Act.put, aS, aZ, aC, i64_w, i32_w]; rfl) (fun _ _ _ h => h) ?_
 refine take_ (i := 4) (N := some 11) (v := ?_) (a' := ?_) (bs_ 9 25) rfl rfl (by kernel_rfl) (fun _ _ _ h => h) (Or.inl ⟨by rfl, ?_⟩) hHeld ?_ ?_
 rotate_left
 · intro w' s0
   go_simp
   with_reducible rfl
 rotate_left
 · simp only [Act.put, aS, aZ, aC, i64_w, i32_w]
   rfl
 refine one_ (i := 1) (N := some 8) (bs_ 9 27) rfl rfl (by kernel_rfl) (by decide) (fun K hK => ?_)
 refine goes_ Tryz.func33 (by kernel_rfl) rfl #[.int .i64 ses] (by rfl) rfl rfl (by (try simp only [aT, aK, aL]); first | done | rfl) ?_
 refine (num_c ses H1.out _ HX.out.env).mono ?_
 rintro e w2 ⟨rfl, hb_⟩
 refine ⟨_, rfl, ?_⟩
 replace HX := am_ (HX.out.below hb_)
 clear hb_
 refine hK.out _ _ (HX.out.at 0 rfl) (fun hHeld => ?_)
 clear hK K
 refine no_ (by simp only [Act.put, aS, aZ, aC, i64_w, i32_w]; rfl) ?_
 refine one_ (i := 2) (N := some 9) (bs_ 9 31) rfl rfl (by kernel_rfl) (by decide) (fun K hK => ?_)
 refine goes_ Tryz.func78 (by kernel_rfl) rfl #[] (by rfl) rfl rfl (by (try simp only [aT, aK, aL]); first | done | rfl) ?_
 refine (kinds_c _).mono ?_
 rintro e w3 ⟨rfl, hkc_, hb_⟩
 refine ⟨_, rfl, ?_⟩
 have hkc := hkc_ 5 ⟨#[100, 101, 108, 101, 116, 101]⟩ rfl
 replace HX := am_ (HX.out.below hb_)
 clear hb_ hkc_
 refine hK.out _ _ (HX.out.at 0 rfl) (fun hHeld => ?_)
 clear hK K
 refine no_ (by simp only [Act.put, aS, aZ, aC, i64_w, i32_w]; rfl) ?_
 refine pu_ 5 12 (bs_ 9 63) rfl rfl (by kernel_rfl) rfl (by intro w'; go_simp; with_reducible rfl) (by simp only [Act.put, aS, aZ, aC, i64_w, i32_w]; rfl) (fun _ _ _ h => h) ?_
 refine one_ (i := 6) (N := some 13) (bs_ 9 127) rfl rfl (by kernel_rfl) (by decide) (fun K hK => ?_)
 refine value_ (w1 := ?_) (v := ?_) (by rfl) rfl ?_ ?_
 rotate_left 2
 · go_simp
   constructor
   · rfl
   rfl
 refine hK.out _ _ (HX.out.at 0 rfl) (fun hHeld => ?_)
 clear hK K
 refine no_ (by simp only [Act.put, aS, aZ, aC, i64_w, i32_w]; rfl) ?_
 refine one_ (i := 7) (N := some 14) (bs_ 9 255) rfl rfl (by kernel_rfl) (by decide) (fun K hK => ?_)
 have HA : Aside0 (AInv W w0 (w3.alloc (.cells #[.string ⟨#[97, 115, 107]⟩, .string (itoaB ses), .string ⟨#[100, 101, 108, 101, 116, 101]⟩] 9)) pb w0.heap.size lines 49 #[.int .i64 5, .int .i64 life, .int .i64 num, .int .i64 place, .string key, .string to_, .slice A val.length c, .int .i64 lim] (.slice (some ⟨w3.heap.size, 0, none⟩) 3 3) [⟨#[97, 115, 107]⟩, itoaB ses, ⟨#[100, 101, 108, 101, 116, 101]⟩]) := am_ (AInv.start HX.out [⟨#[97, 115, 107]⟩, itoaB ses, ⟨#[100, 101, 108, 101, 116, 101]⟩] (by simp) (by simp [maxLen]))
 refine value_ (w1 := ?_) (v := ?_) (by rfl) rfl ?_ ?_
 rotate_left 2
 · go_simp
   constructor
   · rfl
   rfl
 refine hK.out _ _ (HA.out.at 0 rfl) (fun hHeld => ?_)
 clear hK K
 refine no_ (by simp only [Act.put, aS, aZ, aC, i64_w, i32_w]; rfl) ?_
 refine pu_ 8 6 (bs_ 9 511) rfl rfl (by kernel_rfl) rfl (by intro w'; go_simp; with_reducible rfl) (by simp only [Act.put, aS, aZ, aC, i64_w, i32_w]; rfl) (fun _ _ _ h => h) ?_
 refine done_ (by kernel_rfl) ?_
 clear HX hkc
 clear hHeld
 generalize w3.alloc _ = wA at HA ⊢
 generalize w3.heap.size = gs at HA ⊢
 have k_kind := HA.out.at 0 rfl
 go_wp2_with fail
 clear k_kind
 refine start_ (n := 12) (S := fun w' => w'.cell? ⟨w0.heap.size, 1, none⟩ = some (.int .i64 life) ∧ w'.cell? ⟨w0.heap.size, 2, none⟩ = some (.int .i64 num)) (ds := []) #[false, false, false, false, false, false, false, false, false, false, false, false] (by kernel_rfl) rfl rfl ⟨HA.out.drew.at 1 rfl, HA.out.drew.at 2 rfl⟩ (fun hHeld => ?_)
 replace HA := am_ HA.out.drew; generalize wA.drew = wD1 at HA hHeld ⊢
 refine pu_ 0 18 (bs_ 12 1) rfl rfl (by kernel_rfl) rfl (by intro w'; go_simp; with_reducible rfl) (by simp only [Act.put, aS, aZ, aC, i64_w, i32_w]; rfl) (fun _ _ _ h => h) ?_
 refine pu_ 1 19 (bs_ 12 3) rfl rfl (by kernel_rfl) rfl (by intro w'; go_simp; with_reducible rfl) (by simp only [Act.put, aS, aZ, aC, i64_w, i32_w]; rfl) (fun _ _ _ h => h) ?_
 refine pu_ 2 20 (bs_ 12 7) rfl rfl (by kernel_rfl) rfl (by intro w'; go_simp; with_reducible rfl) (by simp only [Act.put, aS, aZ, aC, i64_w, i32_w]; rfl) (fun _ _ _ h => h) ?_
 refine pu_ 5 23 (bs_ 12 39) rfl rfl (by kernel_rfl) rfl (by intro w'; go_simp; with_reducible rfl) (by simp only [Act.put, aS, aZ, aC, i64_w, i32_w]; rfl) (fun _ _ _ h => h) ?_
 refine pu_ 6 24 (bs_ 12 103) rfl rfl (by kernel_rfl) rfl (by intro w'; go_simp; with_reducible rfl) (by simp only [Act.put, aS, aZ, aC, i64_w, i32_w]; rfl) (fun _ _ _ h => h) ?_
 refine ta_ 3 21 (bs_ 12 111) rfl rfl (by kernel_rfl) rfl (by rintro w' ⟨s0, s1⟩; go_simp; with_reducible rfl) hHeld (by simp only [Act.put, aS, aZ, aC, i64_w, i32_w]; rfl) (fun _ _ _ h => h) ?_
 refine ta_ 7 25 (bs_ 12 239) rfl rfl (by kernel_rfl) rfl (by rintro w' ⟨s0, s1⟩; go_simp; with_reducible rfl) hHeld (by simp only [Act.put, aS, aZ, aC, i64_w, i32_w]; rfl) (fun _ _ _ h => h) ?_
 refine one_ (i := 4) (N := some 22) (bs_ 12 255) rfl rfl (by kernel_rfl) (by decide) (fun K hK => ?_)
 refine goes_ Tryz.func33 (by kernel_rfl) rfl #[.int .i64 life] (by rfl) rfl rfl (by (try simp only [aT, aK, aL]); first | done | rfl) ?_
 refine (num_c life H2.out _ HA.out.env).mono ?_
 rintro e wC1 ⟨rfl, hb_⟩
 refine ⟨_, rfl, ?_⟩
 replace HA := am_ (HA.out.below hb_)
 clear hb_
 refine hK.out _ _ ⟨HA.out.at 1 rfl, HA.out.at 2 rfl⟩ (fun hHeld => ?_)
 clear hK K
 refine no_ (by simp only [Act.put, aS, aZ, aC, i64_w, i32_w]; rfl) ?_
 refine one_ (i := 8) (N := some 26) (bs_ 12 511) rfl rfl (by kernel_rfl) (by decide) (fun K hK => ?_)
 refine goes_ Tryz.func33 (by kernel_rfl) rfl #[.int .i64 num] (by rfl) rfl rfl (by (try simp only [aT, aK, aL]); first | done | rfl) ?_
 refine (num_c num H3.out _ HA.out.env).mono ?_
 rintro e wE1 ⟨rfl, hb_⟩
 refine ⟨_, rfl, ?_⟩
 replace HA := am_ (HA.out.below hb_)
 clear hb_
 refine hK.out _ _ ⟨HA.out.at 1 rfl, HA.out.at 2 rfl⟩ (fun hHeld => ?_)
 clear hK K
 refine no_ (by simp only [Act.put, aS, aZ, aC, i64_w, i32_w]; rfl) ?_
 refine one_ (i := 9) (N := some 27) (bs_ 12 1023) rfl rfl (by kernel_rfl) (by decide) (fun K hK => ?_)
 refine value_ (w1 := ?_) (v := ?_) (by rfl) rfl ?_ ?_
 rotate_left 2
 · go_simp
   constructor
   · rfl
   rfl
 refine hK.out _ _ ⟨(HA.out.alloc _).at 1 rfl, (HA.out.alloc _).at 2 rfl⟩ (fun hHeld => ?_)
 clear hK K
 refine no_ (by simp only [Act.put, aS, aZ, aC, i64_w, i32_w]; rfl) ?_
 refine one_ (i := 10) (N := some 28) (bs_ 12 2047) rfl rfl (by kernel_rfl) (by decide) (fun K hK => ?_)
 refine HA.out.append_ (by decide) [itoaB life, itoaB num] (.tmp 18) (.tmp 27) rfl rfl rfl 2 rfl (by decide) rfl 5 rfl (by decide) ?_
 intro gB1 cB1 wB1 HB_
 replace HA := am_ HB_
 clear HB_
 refine hK.out _ _ ⟨HA.out.at 1 rfl, HA.out.at 2 rfl⟩ (fun hHeld => ?_)
 clear hK K
 refine no_ (by simp only [Act.put, aS, aZ, aC, i64_w, i32_w]; rfl) ?_
 refine pu_ 11 6 (bs_ 12 4095) rfl rfl (by kernel_rfl) rfl (by intro w'; go_simp; with_reducible rfl) (by simp only [Act.put, aS, aZ, aC, i64_w, i32_w]; rfl) (fun _ _ _ h => h) ?_
 refine done_ (by kernel_rfl) ?_
 clear hHeld
 have k_kind := HA.out.at 0 rfl
 go_wp2_with fail
 clear k_kind
 refine start_ (n := 10) (S := fun w' => w'.cell? ⟨w0.heap.size, 3, none⟩ = some (.int .i64 place) ∧ w'.cell? ⟨w0.heap.size, 4, none⟩ = some (.string key)) (ds := []) #[false, false, false, false, false, false, false, false, false, false] (by kernel_rfl) rfl rfl ⟨HA.out.drew.at 3 rfl, HA.out.drew.at 4 rfl⟩ (fun hHeld => ?_)
 replace HA := am_ HA.out.drew; generalize wB1.drew = wD2 at HA hHeld ⊢
 refine pu_ 0 37 (bs_ 10 1) rfl rfl (by kernel_rfl) rfl (by intro w'; go_simp; with_reducible rfl) (by simp only [Act.put, aS, aZ, aC, i64_w, i32_w]; rfl) (fun _ _ _ h => h) ?_
 refine pu_ 1 38 (bs_ 10 3) rfl rfl (by kernel_rfl) rfl (by intro w'; go_simp; with_reducible rfl) (by simp only [Act.put, aS, aZ, aC, i64_w, i32_w]; rfl) (fun _ _ _ h => h) ?_
 refine pu_ 4 41 (bs_ 10 19) rfl rfl (by kernel_rfl) rfl (by intro w'; go_simp; with_reducible rfl) (by simp only [Act.put, aS, aZ, aC, i64_w, i32_w]; rfl) (fun _ _ _ h => h) ?_
 refine ta_ 2 39 (bs_ 10 23) rfl rfl (by kernel_rfl) rfl (by rintro w' ⟨s0, s1⟩; go_simp; with_reducible rfl) hHeld (by simp only [Act.put, aS, aZ, aC, i64_w, i32_w]; rfl) (fun _ _ _ h => h) ?_
 refine ta_ 5 42 (bs_ 10 55) rfl rfl (by kernel_rfl) rfl (by rintro w' ⟨s0, s1⟩; go_simp; with_reducible rfl) hHeld (by simp only [Act.put, aS, aZ, aC, i64_w, i32_w]; rfl) (fun _ _ _ h => h) ?_
 refine one_ (i := 3) (N := some 40) (bs_ 10 63) rfl rfl (by kernel_rfl) (by decide) (fun K hK => ?_)
 refine goes_ Tryz.func33 (by kernel_rfl) rfl #[.int .i64 place] (by rfl) rfl rfl (by (try simp only [aT, aK, aL]); first | done | rfl) ?_
 refine (num_c place H4.out _ HA.out.env).mono ?_
 rintro e wC2 ⟨rfl, hb_⟩
 refine ⟨_, rfl, ?_⟩
 replace HA := am_ (HA.out.below hb_)
 clear hb_
 refine hK.out _ _ ⟨HA.out.at 3 rfl, HA.out.at 4 rfl⟩ (fun hHeld => ?_)
 clear hK K
 refine no_ (by simp only [Act.put, aS, aZ, aC, i64_w, i32_w]; rfl) ?_
 refine one_ (i := 6) (N := some 43) (bs_ 10 127) rfl rfl (by kernel_rfl) (by decide) (fun K hK => ?_)
 refine goes_ Tryz.func20 (by kernel_rfl) rfl #[.string key] (by rfl) rfl rfl (by (try simp only [aT, aK, aL]); first | done | rfl) ?_
 refine (quoteB_c key H6.out _ HA.out.env).mono ?_
 rintro e wE2 ⟨rfl, hb_⟩
 refine ⟨_, rfl, ?_⟩
 replace HA := am_ (HA.out.below hb_)
 clear hb_
 refine hK.out _ _ ⟨HA.out.at 3 rfl, HA.out.at 4 rfl⟩ (fun hHeld => ?_)
 clear hK K
 refine no_ (by simp only [Act.put, aS, aZ, aC, i64_w, i32_w]; rfl) ?_
 refine one_ (i := 7) (N := some 44) (bs_ 10 255) rfl rfl (by kernel_rfl) (by decide) (fun K hK => ?_)
 refine value_ (w1 := ?_) (v := ?_) (by rfl) rfl ?_ ?_
 rotate_left 2
 · go_simp
   constructor
   · rfl
   rfl
 refine hK.out _ _ ⟨(HA.out.alloc _).at 3 rfl, (HA.out.alloc _).at 4 rfl⟩ (fun hHeld => ?_)
 clear hK K
 refine no_ (by simp only [Act.put, aS, aZ, aC, i64_w, i32_w]; rfl) ?_
 refine one_ (i := 8) (N := some 45) (bs_ 10 511) rfl rfl (by kernel_rfl) (by decide) (fun K hK => ?_)
 refine HA.out.append_ (by decide) [itoaB place, quoteB key] (.tmp 37) (.tmp 44) rfl rfl rfl 2 rfl (by decide) rfl 7 rfl (by decide) ?_
 intro gB2 cB2 wB2 HB_
 replace HA := am_ HB_
 clear HB_
 refine hK.out _ _ ⟨HA.out.at 3 rfl, HA.out.at 4 rfl⟩ (fun hHeld => ?_)
 clear hK K
 refine no_ (by simp only [Act.put, aS, aZ, aC, i64_w, i32_w]; rfl) ?_
 refine pu_ 9 6 (bs_ 10 1023) rfl rfl (by kernel_rfl) rfl (by intro w'; go_simp; with_reducible rfl) (by simp only [Act.put, aS, aZ, aC, i64_w, i32_w]; rfl) (fun _ _ _ h => h) ?_
 refine done_ (by kernel_rfl) ?_
 clear hHeld
 have k_kind := HA.out.at 0 rfl
 go_wp2_with fail
 refine (HA.out.line HL.out (by simp) HJ.out).mono ?_
 rintro e w9 ⟨rfl, hP⟩
 go_wp2_with fail
 go_end0
 exact ⟨rfl, hP⟩
theorem pask_calls6 (W w0 : World) (pb : Nat) (lines : List ByteArray) (ses life num place : Int) (key to_ : ByteArray) (A : Option Addr) (c : Nat) (val : List Int) (lim : Int) (h : PInvE W w0 pb lines)
 (hval : Kd.C (Kd.int .u8) w0 A val.length val) (h1 : sc.InInt ses) (h2 : sc.InInt life) (h3 : sc.InInt num) (h4 : sc.InInt place) (h5 : sc.InInt lim) (h6 : key.size ≤ 1099511627776) (h7 : to_.size ≤ 1099511627776) (h8 : (strOfNums val).size ≤ 1099511627776)
 (hl : lines.length ≤ 4294967296) (hj : (joinB (askWords 6 ses life num place key to_ val lim) ⟨#[32]⟩).size ≤ 140737488355328) :
 Calls Tryz.prog 59 #[.pointer (some ⟨pb, 0, none⟩), .int .i64 ses, .agg #[.int .i64 6, .int .i64 life, .int .i64 num, .int .i64 place, .string key, .string to_, .slice A val.length c, .int .i64 lim]] w0 fun e w' =>
  e = .returned (.tuple #[]) ∧ PInvE W w' pb (lines ++ [joinB (askWords 6 ses life num place key to_ val lim) ⟨#[32]⟩]) := by
 rw [show askWords 6 ses life num place key to_ val lim = [⟨#[97, 115, 107]⟩, itoaB ses, ⟨#[99, 111, 109, 109, 105, 116]⟩, itoaB life, itoaB num] from rfl] at hj ⊢
 have HX := am_ (BInv.new h #[.int .i64 6, .int .i64 life, .int .i64 num, .int .i64 place, .string key, .string to_, .slice A val.length c, .int .i64 lim] 49)
 have H1 := am_ h1
 have H2 := am_ h2
 have H3 := am_ h3
 have H4 := am_ h4
 have H5 := am_ h5
 have H6 := am_ h6
 have H7 := am_ h7
 have H8 := am_ h8
 have HV := am_ hval
 have HL := am_ hl
 have HJ := am_ hj
 clear h hval h1 h2 h3 h4 h5 h6 h7 h8 hl hj
 go_enter Tryz.func59, Tryz.ntmps59
 go_wp2
 generalize (w0.alloc _) = wx at HX ⊢
 refine start_ (n := 9) (S := fun w' => w'.cell? ⟨w0.heap.size, 0, none⟩ = some (.int .i64 6)) (ds := []) #[false, false, false, false, false, false, false, false, false] (by kernel_rfl) rfl rfl (HX.out.drew.at 0 rfl) (fun hHeld => ?_)
 replace HX := am_ HX.out.drew; generalize wx.drew = w1 at HX hHeld ⊢
 refine pu_ 0 7 (bs_ 9 1) rfl rfl (by kernel_rfl) rfl (by intro w'; go_simp; with_reducible rfl) (by simp only [Act.put, aS, aZ, aC, i64_w, i32_w]; rfl) (fun _ _ _ h => h) ?_
 refine pu_ 3 10 (bs_ 9 9) rfl rfl (by kernel_rfl) rfl (by intro w'; go_simp; with_reducible rfl) (by simp only [Act.put, aS, aZ, aC, i64_w, i32_w]; rfl) (fun _ _ _ h => h) ?_
 refine take_ (i := 4) (N := some 11) (v := ?_) (a' := ?_) (bs_ 9 25) rfl rfl (by kernel_rfl) (fun _ _ _ h => h) (Or.inl ⟨by rfl, ?_⟩) hHeld ?_ ?_
 rotate_left
 · intro w' s0
   go_simp
   with_reducible rfl
 rotate_left
 · simp only [Act.put, aS, aZ, aC, i64_w, i32_w]
   rfl
 refine one_ (i := 1) (N := some 8) (bs_ 9 27) rfl rfl (by kernel_rfl) (by decide) (fun K hK => ?_)
 refine goes_ Tryz.func33 (by kernel_rfl) rfl #[.int .i64 ses] (by rfl) rfl rfl (by (try simp only [aT, aK, aL]); first | done | rfl) ?_
 refine (num_c ses H1.out _ HX.out.env).mono ?_
 rintro e w2 ⟨rfl, hb_⟩
 refine ⟨_, rfl, ?_⟩
 replace HX := am_ (HX.out.below hb_)
 clear hb_
 refine hK.out _ _ (HX.out.at 0 rfl) (fun hHeld => ?_)
 clear hK K
 refine no_ (by simp only [Act.put, aS, aZ, aC, i64_w, i32_w]; rfl) ?_
 refine one_ (i := 2) (N := some 9) (bs_ 9 31) rfl rfl (by kernel_rfl) (by decide) (fun K hK => ?_)
 refine goes_ Tryz.func78 (by kernel_rfl) rfl #[] (by rfl) rfl rfl (by (try simp only [aT, aK, aL]); first | done | rfl) ?_
 refine (kinds_c _).mono ?_
 rintro e w3 ⟨rfl, hkc_, hb_⟩
 refine ⟨_, rfl, ?_⟩
 have hkc := hkc_ 6 ⟨#[99, 111, 109, 109, 105, 116]⟩ rfl
 replace HX := am_ (HX.out.below hb_)
 clear hb_ hkc_
 refine hK.out _ _ (HX.out.at 0 rfl) (fun hHeld => ?_)
 clear hK K
 refine no_ (by simp only [Act.put, aS, aZ, aC, i64_w, i32_w]; rfl) ?_
 refine pu_ 5 12 (bs_ 9 63) rfl rfl (by kernel_rfl) rfl (by intro w'; go_simp; with_reducible rfl) (by simp only [Act.put, aS, aZ, aC, i64_w, i32_w]; rfl) (fun _ _ _ h => h) ?_
 refine one_ (i := 6) (N := some 13) (bs_ 9 127) rfl rfl (by kernel_rfl) (by decide) (fun K hK => ?_)
 refine value_ (w1 := ?_) (v := ?_) (by rfl) rfl ?_ ?_
 rotate_left 2
 · go_simp
   constructor
   · rfl
   rfl
 refine hK.out _ _ (HX.out.at 0 rfl) (fun hHeld => ?_)
 clear hK K
 refine no_ (by simp only [Act.put, aS, aZ, aC, i64_w, i32_w]; rfl) ?_
 refine one_ (i := 7) (N := some 14) (bs_ 9 255) rfl rfl (by kernel_rfl) (by decide) (fun K hK => ?_)
 have HA : Aside0 (AInv W w0 (w3.alloc (.cells #[.string ⟨#[97, 115, 107]⟩, .string (itoaB ses), .string ⟨#[99, 111, 109, 109, 105, 116]⟩] 9)) pb w0.heap.size lines 49 #[.int .i64 6, .int .i64 life, .int .i64 num, .int .i64 place, .string key, .string to_, .slice A val.length c, .int .i64 lim] (.slice (some ⟨w3.heap.size, 0, none⟩) 3 3) [⟨#[97, 115, 107]⟩, itoaB ses, ⟨#[99, 111, 109, 109, 105, 116]⟩]) := am_ (AInv.start HX.out [⟨#[97, 115, 107]⟩, itoaB ses, ⟨#[99, 111, 109, 109, 105, 116]⟩] (by simp) (by simp [maxLen]))
 refine value_ (w1 := ?_) (v := ?_) (by rfl) rfl ?_ ?_
 rotate_left 2
 · go_simp
   constructor
   · rfl
   rfl
 refine hK.out _ _ (HA.out.at 0 rfl) (fun hHeld => ?_)
 clear hK K
 refine no_ (by simp only [Act.put, aS, aZ, aC, i64_w, i32_w]; rfl) ?_
 refine pu_ 8 6 (bs_ 9 511) rfl rfl (by kernel_rfl) rfl (by intro w'; go_simp; with_reducible rfl) (by simp only [Act.put, aS, aZ, aC, i64_w, i32_w]; rfl) (fun _ _ _ h => h) ?_
 refine done_ (by kernel_rfl) ?_
 clear HX hkc
 clear hHeld
 generalize w3.alloc _ = wA at HA ⊢
 generalize w3.heap.size = gs at HA ⊢
 have k_kind := HA.out.at 0 rfl
 go_wp2_with fail
 clear k_kind
 refine start_ (n := 12) (S := fun w' => w'.cell? ⟨w0.heap.size, 1, none⟩ = some (.int .i64 life) ∧ w'.cell? ⟨w0.heap.size, 2, none⟩ = some (.int .i64 num)) (ds := []) #[false, false, false, false, false, false, false, false, false, false, false, false] (by kernel_rfl) rfl rfl ⟨HA.out.drew.at 1 rfl, HA.out.drew.at 2 rfl⟩ (fun hHeld => ?_)
 replace HA := am_ HA.out.drew; generalize wA.drew = wD1 at HA hHeld ⊢
 refine pu_ 0 18 (bs_ 12 1) rfl rfl (by kernel_rfl) rfl (by intro w'; go_simp; with_reducible rfl) (by simp only [Act.put, aS, aZ, aC, i64_w, i32_w]; rfl) (fun _ _ _ h => h) ?_
 refine pu_ 1 19 (bs_ 12 3) rfl rfl (by kernel_rfl) rfl (by intro w'; go_simp; with_reducible rfl) (by simp only [Act.put, aS, aZ, aC, i64_w, i32_w]; rfl) (fun _ _ _ h => h) ?_
 refine pu_ 2 20 (bs_ 12 7) rfl rfl (by kernel_rfl) rfl (by intro w'; go_simp; with_reducible rfl) (by simp only [Act.put, aS, aZ, aC, i64_w, i32_w]; rfl) (fun _ _ _ h => h) ?_
 refine pu_ 5 23 (bs_ 12 39) rfl rfl (by kernel_rfl) rfl (by intro w'; go_simp; with_reducible rfl) (by simp only [Act.put, aS, aZ, aC, i64_w, i32_w]; rfl) (fun _ _ _ h => h) ?_
 refine pu_ 6 24 (bs_ 12 103) rfl rfl (by kernel_rfl) rfl (by intro w'; go_simp; with_reducible rfl) (by simp only [Act.put, aS, aZ, aC, i64_w, i32_w]; rfl) (fun _ _ _ h => h) ?_
 refine ta_ 3 21 (bs_ 12 111) rfl rfl (by kernel_rfl) rfl (by rintro w' ⟨s0, s1⟩; go_simp; with_reducible rfl) hHeld (by simp only [Act.put, aS, aZ, aC, i64_w, i32_w]; rfl) (fun _ _ _ h => h) ?_
 refine ta_ 7 25 (bs_ 12 239) rfl rfl (by kernel_rfl) rfl (by rintro w' ⟨s0, s1⟩; go_simp; with_reducible rfl) hHeld (by simp only [Act.put, aS, aZ, aC, i64_w, i32_w]; rfl) (fun _ _ _ h => h) ?_
 refine one_ (i := 4) (N := some 22) (bs_ 12 255) rfl rfl (by kernel_rfl) (by decide) (fun K hK => ?_)
 refine goes_ Tryz.func33 (by kernel_rfl) rfl #[.int .i64 life] (by rfl) rfl rfl (by (try simp only [aT, aK, aL]); first | done | rfl) ?_
 refine (num_c life H2.out _ HA.out.env).mono ?_
 rintro e wC1 ⟨rfl, hb_⟩
 refine ⟨_, rfl, ?_⟩
 replace HA := am_ (HA.out.below hb_)
 clear hb_
 refine hK.out _ _ ⟨HA.out.at 1 rfl, HA.out.at 2 rfl⟩ (fun hHeld => ?_)
 clear hK K
 refine no_ (by simp only [Act.put, aS, aZ, aC, i64_w, i32_w]; rfl) ?_
 refine one_ (i := 8) (N := some 26) (bs_ 12 511) rfl rfl (by kernel_rfl) (by decide) (fun K hK => ?_)
 refine goes_ Tryz.func33 (by kernel_rfl) rfl #[.int .i64 num] (by rfl) rfl rfl (by (try simp only [aT, aK, aL]); first | done | rfl) ?_
 refine (num_c num H3.out _ HA.out.env).mono ?_
 rintro e wE1 ⟨rfl, hb_⟩
 refine ⟨_, rfl, ?_⟩
 replace HA := am_ (HA.out.below hb_)
 clear hb_
 refine hK.out _ _ ⟨HA.out.at 1 rfl, HA.out.at 2 rfl⟩ (fun hHeld => ?_)
 clear hK K
 refine no_ (by simp only [Act.put, aS, aZ, aC, i64_w, i32_w]; rfl) ?_
 refine one_ (i := 9) (N := some 27) (bs_ 12 1023) rfl rfl (by kernel_rfl) (by decide) (fun K hK => ?_)
 refine value_ (w1 := ?_) (v := ?_) (by rfl) rfl ?_ ?_
 rotate_left 2
 · go_simp
   constructor
   · rfl
   rfl
 refine hK.out _ _ ⟨(HA.out.alloc _).at 1 rfl, (HA.out.alloc _).at 2 rfl⟩ (fun hHeld => ?_)
 clear hK K
 refine no_ (by simp only [Act.put, aS, aZ, aC, i64_w, i32_w]; rfl) ?_
 refine one_ (i := 10) (N := some 28) (bs_ 12 2047) rfl rfl (by kernel_rfl) (by decide) (fun K hK => ?_)
 refine HA.out.append_ (by decide) [itoaB life, itoaB num] (.tmp 18) (.tmp 27) rfl rfl rfl 2 rfl (by decide) rfl 5 rfl (by decide) ?_
 intro gB1 cB1 wB1 HB_
 replace HA := am_ HB_
 clear HB_
 refine hK.out _ _ ⟨HA.out.at 1 rfl, HA.out.at 2 rfl⟩ (fun hHeld => ?_)
 clear hK K
 refine no_ (by simp only [Act.put, aS, aZ, aC, i64_w, i32_w]; rfl) ?_
 refine pu_ 11 6 (bs_ 12 4095) rfl rfl (by kernel_rfl) rfl (by intro w'; go_simp; with_reducible rfl) (by simp only [Act.put, aS, aZ, aC, i64_w, i32_w]; rfl) (fun _ _ _ h => h) ?_
 refine done_ (by kernel_rfl) ?_
 clear hHeld
 have k_kind := HA.out.at 0 rfl
 go_wp2_with fail
 refine (HA.out.line HL.out (by simp) HJ.out).mono ?_
 rintro e w9 ⟨rfl, hP⟩
 go_wp2_with fail
 go_end0
 exact ⟨rfl, hP⟩
theorem pask_calls7 (W w0 : World) (pb : Nat) (lines : List ByteArray) (ses life num place : Int) (key to_ : ByteArray) (A : Option Addr) (c : Nat) (val : List Int) (lim : Int) (h : PInvE W w0 pb lines)
 (hval : Kd.C (Kd.int .u8) w0 A val.length val) (h1 : sc.InInt ses) (h2 : sc.InInt life) (h3 : sc.InInt num) (h4 : sc.InInt place) (h5 : sc.InInt lim) (h6 : key.size ≤ 1099511627776) (h7 : to_.size ≤ 1099511627776) (h8 : (strOfNums val).size ≤ 1099511627776)
 (hl : lines.length ≤ 4294967296) (hj : (joinB (askWords 7 ses life num place key to_ val lim) ⟨#[32]⟩).size ≤ 140737488355328) :
 Calls Tryz.prog 59 #[.pointer (some ⟨pb, 0, none⟩), .int .i64 ses, .agg #[.int .i64 7, .int .i64 life, .int .i64 num, .int .i64 place, .string key, .string to_, .slice A val.length c, .int .i64 lim]] w0 fun e w' =>
  e = .returned (.tuple #[]) ∧ PInvE W w' pb (lines ++ [joinB (askWords 7 ses life num place key to_ val lim) ⟨#[32]⟩]) := by
 rw [show askWords 7 ses life num place key to_ val lim = [⟨#[97, 115, 107]⟩, itoaB ses, ⟨#[97, 98, 111, 114, 116]⟩, itoaB life, itoaB num] from rfl] at hj ⊢
 have HX := am_ (BInv.new h #[.int .i64 7, .int .i64 life, .int .i64 num, .int .i64 place, .string key, .string to_, .slice A val.length c, .int .i64 lim] 49)
 have H1 := am_ h1
 have H2 := am_ h2
 have H3 := am_ h3
 have H4 := am_ h4
 have H5 := am_ h5
 have H6 := am_ h6
 have H7 := am_ h7
 have H8 := am_ h8
 have HV := am_ hval
 have HL := am_ hl
 have HJ := am_ hj
 clear h hval h1 h2 h3 h4 h5 h6 h7 h8 hl hj
 go_enter Tryz.func59, Tryz.ntmps59
 go_wp2
 generalize (w0.alloc _) = wx at HX ⊢
 refine start_ (n := 9) (S := fun w' => w'.cell? ⟨w0.heap.size, 0, none⟩ = some (.int .i64 7)) (ds := []) #[false, false, false, false, false, false, false, false, false] (by kernel_rfl) rfl rfl (HX.out.drew.at 0 rfl) (fun hHeld => ?_)
 replace HX := am_ HX.out.drew; generalize wx.drew = w1 at HX hHeld ⊢
 refine pu_ 0 7 (bs_ 9 1) rfl rfl (by kernel_rfl) rfl (by intro w'; go_simp; with_reducible rfl) (by simp only [Act.put, aS, aZ, aC, i64_w, i32_w]; rfl) (fun _ _ _ h => h) ?_
 refine pu_ 3 10 (bs_ 9 9) rfl rfl (by kernel_rfl) rfl (by intro w'; go_simp; with_reducible rfl) (by simp only [Act.put, aS, aZ, aC, i64_w, i32_w]; rfl) (fun _ _ _ h => h) ?_
 refine take_ (i := 4) (N := some 11) (v := ?_) (a' := ?_) (bs_ 9 25) rfl rfl (by kernel_rfl) (fun _ _ _ h => h) (Or.inl ⟨by rfl, ?_⟩) hHeld ?_ ?_
 rotate_left
 · intro w' s0
   go_simp
   with_reducible rfl
 rotate_left
 · simp only [Act.put, aS, aZ, aC, i64_w, i32_w]
   rfl
 refine one_ (i := 1) (N := some 8) (bs_ 9 27) rfl rfl (by kernel_rfl) (by decide) (fun K hK => ?_)
 refine goes_ Tryz.func33 (by kernel_rfl) rfl #[.int .i64 ses] (by rfl) rfl rfl (by (try simp only [aT, aK, aL]); first | done | rfl) ?_
 refine (num_c ses H1.out _ HX.out.env).mono ?_
 rintro e w2 ⟨rfl, hb_⟩
 refine ⟨_, rfl, ?_⟩
 replace HX := am_ (HX.out.below hb_)
 clear hb_
 refine hK.out _ _ (HX.out.at 0 rfl) (fun hHeld => ?_)
 clear hK K
 refine no_ (by simp only [Act.put, aS, aZ, aC, i64_w, i32_w]; rfl) ?_
 refine one_ (i := 2) (N := some 9) (bs_ 9 31) rfl rfl (by kernel_rfl) (by decide) (fun K hK => ?_)
 refine goes_ Tryz.func78 (by kernel_rfl) rfl #[] (by rfl) rfl rfl (by (try simp only [aT, aK, aL]); first | done | rfl) ?_
 refine (kinds_c _).mono ?_
 rintro e w3 ⟨rfl, hkc_, hb_⟩
 refine ⟨_, rfl, ?_⟩
 have hkc := hkc_ 7 ⟨#[97, 98, 111, 114, 116]⟩ rfl
 replace HX := am_ (HX.out.below hb_)
 clear hb_ hkc_
 refine hK.out _ _ (HX.out.at 0 rfl) (fun hHeld => ?_)
 clear hK K
 refine no_ (by simp only [Act.put, aS, aZ, aC, i64_w, i32_w]; rfl) ?_
 refine pu_ 5 12 (bs_ 9 63) rfl rfl (by kernel_rfl) rfl (by intro w'; go_simp; with_reducible rfl) (by simp only [Act.put, aS, aZ, aC, i64_w, i32_w]; rfl) (fun _ _ _ h => h) ?_
 refine one_ (i := 6) (N := some 13) (bs_ 9 127) rfl rfl (by kernel_rfl) (by decide) (fun K hK => ?_)
 refine value_ (w1 := ?_) (v := ?_) (by rfl) rfl ?_ ?_
 rotate_left 2
 · go_simp
   constructor
   · rfl
   rfl
 refine hK.out _ _ (HX.out.at 0 rfl) (fun hHeld => ?_)
 clear hK K
 refine no_ (by simp only [Act.put, aS, aZ, aC, i64_w, i32_w]; rfl) ?_
 refine one_ (i := 7) (N := some 14) (bs_ 9 255) rfl rfl (by kernel_rfl) (by decide) (fun K hK => ?_)
 have HA : Aside0 (AInv W w0 (w3.alloc (.cells #[.string ⟨#[97, 115, 107]⟩, .string (itoaB ses), .string ⟨#[97, 98, 111, 114, 116]⟩] 9)) pb w0.heap.size lines 49 #[.int .i64 7, .int .i64 life, .int .i64 num, .int .i64 place, .string key, .string to_, .slice A val.length c, .int .i64 lim] (.slice (some ⟨w3.heap.size, 0, none⟩) 3 3) [⟨#[97, 115, 107]⟩, itoaB ses, ⟨#[97, 98, 111, 114, 116]⟩]) := am_ (AInv.start HX.out [⟨#[97, 115, 107]⟩, itoaB ses, ⟨#[97, 98, 111, 114, 116]⟩] (by simp) (by simp [maxLen]))
 refine value_ (w1 := ?_) (v := ?_) (by rfl) rfl ?_ ?_
 rotate_left 2
 · go_simp
   constructor
   · rfl
   rfl
 refine hK.out _ _ (HA.out.at 0 rfl) (fun hHeld => ?_)
 clear hK K
 refine no_ (by simp only [Act.put, aS, aZ, aC, i64_w, i32_w]; rfl) ?_
 refine pu_ 8 6 (bs_ 9 511) rfl rfl (by kernel_rfl) rfl (by intro w'; go_simp; with_reducible rfl) (by simp only [Act.put, aS, aZ, aC, i64_w, i32_w]; rfl) (fun _ _ _ h => h) ?_
 refine done_ (by kernel_rfl) ?_
 clear HX hkc
 clear hHeld
 generalize w3.alloc _ = wA at HA ⊢
 generalize w3.heap.size = gs at HA ⊢
 have k_kind := HA.out.at 0 rfl
 go_wp2_with fail
 clear k_kind
 refine start_ (n := 12) (S := fun w' => w'.cell? ⟨w0.heap.size, 1, none⟩ = some (.int .i64 life) ∧ w'.cell? ⟨w0.heap.size, 2, none⟩ = some (.int .i64 num)) (ds := []) #[false, false, false, false, false, false, false, false, false, false, false, false] (by kernel_rfl) rfl rfl ⟨HA.out.drew.at 1 rfl, HA.out.drew.at 2 rfl⟩ (fun hHeld => ?_)
 replace HA := am_ HA.out.drew; generalize wA.drew = wD1 at HA hHeld ⊢
 refine pu_ 0 18 (bs_ 12 1) rfl rfl (by kernel_rfl) rfl (by intro w'; go_simp; with_reducible rfl) (by simp only [Act.put, aS, aZ, aC, i64_w, i32_w]; rfl) (fun _ _ _ h => h) ?_
 refine pu_ 1 19 (bs_ 12 3) rfl rfl (by kernel_rfl) rfl (by intro w'; go_simp; with_reducible rfl) (by simp only [Act.put, aS, aZ, aC, i64_w, i32_w]; rfl) (fun _ _ _ h => h) ?_
 refine pu_ 2 20 (bs_ 12 7) rfl rfl (by kernel_rfl) rfl (by intro w'; go_simp; with_reducible rfl) (by simp only [Act.put, aS, aZ, aC, i64_w, i32_w]; rfl) (fun _ _ _ h => h) ?_
 refine pu_ 5 23 (bs_ 12 39) rfl rfl (by kernel_rfl) rfl (by intro w'; go_simp; with_reducible rfl) (by simp only [Act.put, aS, aZ, aC, i64_w, i32_w]; rfl) (fun _ _ _ h => h) ?_
 refine pu_ 6 24 (bs_ 12 103) rfl rfl (by kernel_rfl) rfl (by intro w'; go_simp; with_reducible rfl) (by simp only [Act.put, aS, aZ, aC, i64_w, i32_w]; rfl) (fun _ _ _ h => h) ?_
 refine ta_ 3 21 (bs_ 12 111) rfl rfl (by kernel_rfl) rfl (by rintro w' ⟨s0, s1⟩; go_simp; with_reducible rfl) hHeld (by simp only [Act.put, aS, aZ, aC, i64_w, i32_w]; rfl) (fun _ _ _ h => h) ?_
 refine ta_ 7 25 (bs_ 12 239) rfl rfl (by kernel_rfl) rfl (by rintro w' ⟨s0, s1⟩; go_simp; with_reducible rfl) hHeld (by simp only [Act.put, aS, aZ, aC, i64_w, i32_w]; rfl) (fun _ _ _ h => h) ?_
 refine one_ (i := 4) (N := some 22) (bs_ 12 255) rfl rfl (by kernel_rfl) (by decide) (fun K hK => ?_)
 refine goes_ Tryz.func33 (by kernel_rfl) rfl #[.int .i64 life] (by rfl) rfl rfl (by (try simp only [aT, aK, aL]); first | done | rfl) ?_
 refine (num_c life H2.out _ HA.out.env).mono ?_
 rintro e wC1 ⟨rfl, hb_⟩
 refine ⟨_, rfl, ?_⟩
 replace HA := am_ (HA.out.below hb_)
 clear hb_
 refine hK.out _ _ ⟨HA.out.at 1 rfl, HA.out.at 2 rfl⟩ (fun hHeld => ?_)
 clear hK K
 refine no_ (by simp only [Act.put, aS, aZ, aC, i64_w, i32_w]; rfl) ?_
 refine one_ (i := 8) (N := some 26) (bs_ 12 511) rfl rfl (by kernel_rfl) (by decide) (fun K hK => ?_)
 refine goes_ Tryz.func33 (by kernel_rfl) rfl #[.int .i64 num] (by rfl) rfl rfl (by (try simp only [aT, aK, aL]); first | done | rfl) ?_
 refine (num_c num H3.out _ HA.out.env).mono ?_
 rintro e wE1 ⟨rfl, hb_⟩
 refine ⟨_, rfl, ?_⟩
 replace HA := am_ (HA.out.below hb_)
 clear hb_
 refine hK.out _ _ ⟨HA.out.at 1 rfl, HA.out.at 2 rfl⟩ (fun hHeld => ?_)
 clear hK K
 refine no_ (by simp only [Act.put, aS, aZ, aC, i64_w, i32_w]; rfl) ?_
 refine one_ (i := 9) (N := some 27) (bs_ 12 1023) rfl rfl (by kernel_rfl) (by decide) (fun K hK => ?_)
 refine value_ (w1 := ?_) (v := ?_) (by rfl) rfl ?_ ?_
 rotate_left 2
 · go_simp
   constructor
   · rfl
   rfl
 refine hK.out _ _ ⟨(HA.out.alloc _).at 1 rfl, (HA.out.alloc _).at 2 rfl⟩ (fun hHeld => ?_)
 clear hK K
 refine no_ (by simp only [Act.put, aS, aZ, aC, i64_w, i32_w]; rfl) ?_
 refine one_ (i := 10) (N := some 28) (bs_ 12 2047) rfl rfl (by kernel_rfl) (by decide) (fun K hK => ?_)
 refine HA.out.append_ (by decide) [itoaB life, itoaB num] (.tmp 18) (.tmp 27) rfl rfl rfl 2 rfl (by decide) rfl 5 rfl (by decide) ?_
 intro gB1 cB1 wB1 HB_
 replace HA := am_ HB_
 clear HB_
 refine hK.out _ _ ⟨HA.out.at 1 rfl, HA.out.at 2 rfl⟩ (fun hHeld => ?_)
 clear hK K
 refine no_ (by simp only [Act.put, aS, aZ, aC, i64_w, i32_w]; rfl) ?_
 refine pu_ 11 6 (bs_ 12 4095) rfl rfl (by kernel_rfl) rfl (by intro w'; go_simp; with_reducible rfl) (by simp only [Act.put, aS, aZ, aC, i64_w, i32_w]; rfl) (fun _ _ _ h => h) ?_
 refine done_ (by kernel_rfl) ?_
 clear hHeld
 have k_kind := HA.out.at 0 rfl
 go_wp2_with fail
 refine (HA.out.line HL.out (by simp) HJ.out).mono ?_
 rintro e w9 ⟨rfl, hP⟩
 go_wp2_with fail
 go_end0
 exact ⟨rfl, hP⟩
theorem Cat_ {α : Type} {d : Kd α} {w : World} {A : Option Addr} {n : Nat} {xs : List α} (h : d.C w A n xs) {j : Nat} {x : α} (hj : xs[j]? = some x) (hs : 0 < d.sz) :
 ∃ b o cs, A = some ⟨b, o, none⟩ ∧ d.K w x cs ∧ (∀ i u, cs[i]? = some u → w.cell? ⟨b, o + (j * d.sz + i), none⟩ = some u) := by
 obtain ⟨h1, h2, h3⟩ := h
 have hjl : j < xs.length := (List.getElem?_eq_some_iff.1 hj).1
 obtain ⟨ad, rfl, hc⟩ := h3 (by omega)
 obtain ⟨cs, hl, hK, hcell⟩ := hc j x hj
 obtain ⟨cs0, hl0, _, hcell0⟩ := hc 0 xs[0] (List.getElem?_eq_getElem (by omega))
 have h0 := hcell0 0 cs0[0] (List.getElem?_eq_getElem (by omega))
 have hz : ad.add (0 * d.sz + 0) = ad := by unfold Addr.add; simp
 rw [hz] at h0
 have hsp := spot_of h0
 obtain ⟨b, o, sp⟩ := ad
 cases hsp
 refine ⟨b, o, cs, rfl, hK, fun i u hi => ?_⟩
 have := hcell i u hi
 rwa [addPlainQ] at this
def fateW (f : S66) : ByteArray := itoaB f.f0 ++ ⟨#[44]⟩ ++ itoaB f.f1 ++ ⟨#[44]⟩ ++ itoaB f.f2
def strikeW (l : List S66) : List ByteArray := ⟨#[47]⟩ :: l.map fateW
def evHead (kind place : Int) : List ByteArray := if kind = 2 then [⟨#[116, 105, 99, 107]⟩] else if kind = 3 then [⟨#[118, 97, 99, 117, 117, 109]⟩, itoaB place] else if kind = 4 then [⟨#[99, 104, 101, 99, 107, 112, 111, 105, 110, 116]⟩, itoaB place] else [⟨#[105, 100, 108, 101]⟩]
def evWords (x : S52) : List ByteArray := if x.f0 = 1 then askWords x.f2.f0 x.f1 x.f2.f1.f0 x.f2.f1.f1 x.f2.f2 x.f2.f3 x.f2.f4 x.f2.f5 x.f2.f6 else evHead x.f0 x.f3 ++ x.f4.flatMap strikeW
theorem flat_le (L : List (List S66)) (k : Nat) {l : List S66} (h : L[k]? = some l) : ((L.take k).flatMap strikeW).length + (l.length + 1) ≤ (L.flatMap strikeW).length := by
 have e : L = L.take k ++ l :: L.drop (k + 1) := by
  obtain ⟨h1, rfl⟩ := List.getElem?_eq_some_iff.1 h
  rw [← List.drop_eq_getElem_cons h1, List.take_append_drop]
 conv => rhs; rw [e]
 simp only [List.flatMap_append, List.flatMap_cons, List.length_append, strikeW, List.length_cons, List.length_map]
 omega
def FateOK (f : S66) : Prop := sc.InInt f.f0 ∧ sc.InInt f.f1 ∧ 0 ≤ f.f2 ∧ f.f2 ≤ 255
theorem itoaB_size (n : Int) (h : sc.InInt n) : (itoaB n).size ≤ 21 := by
 have := Lib.itoa_length_le n h.1 h.2
 show (Lib.itoa n).toArray.size ≤ 21
 simpa using this
theorem pev_calls (W w0 : World) (pb : Nat) (lines : List ByteArray) (kk ses qk life num qplace : Int) (key to_ : ByteArray) (A8 : Option Addr) (n8 c8 : Nat) (lim place : Int) (A11 : Option Addr) (c11 : Nat) (L : List (List S66)) (hk : 2 ≤ kk ∧ kk ≤ 5) (h : PInvE W w0 pb lines)
 (hL : (Kd.slice 66 k66).C w0 A11 L.length L) (hp : sc.InInt place) (hf : ∀ l ∈ L, ∀ f ∈ l, FateOK f)
 (hl : lines.length ≤ 4294967296) (hn : (evHead kk place ++ L.flatMap strikeW).length ≤ 4294967296) (hj : (joinB (evHead kk place ++ L.flatMap strikeW) ⟨#[32]⟩).size ≤ 140737488355328) :
 Calls Tryz.prog 34 #[.pointer (some ⟨pb, 0, none⟩), .agg #[.int .i64 kk, .int .i64 ses, .int .i64 qk, .int .i64 life, .int .i64 num, .int .i64 qplace, .string key, .string to_, .slice A8 n8 c8, .int .i64 lim, .int .i64 place, .slice A11 L.length c11]] w0 fun e w' =>
  e = .returned (.tuple #[]) ∧ PInvE W w' pb (lines ++ [joinB (evHead kk place ++ L.flatMap strikeW) ⟨#[32]⟩]) := by
 obtain ⟨hd, hhd⟩ : ∃ hd, hd = evHead kk place := ⟨_, rfl⟩
 rw [← hhd] at hn hj ⊢
 have HX := am_ (BInv.new h #[.int .i64 kk, .int .i64 ses, .int .i64 qk, .int .i64 life, .int .i64 num, .int .i64 qplace, .string key, .string to_, .slice A8 n8 c8, .int .i64 lim, .int .i64 place, .slice A11 L.length c11] 52)
 have HLC := am_ hL
 have HPL := am_ hp
 have HF := am_ hf
 have HL := am_ hl
 have HN := am_ hn
 have HJ := am_ hj
 have HHD := am_ hhd
 have hLm : L.length ≤ 9223372036854775807 := hL.2.1
 have g1 : (kk == 1) = false := by simp; omega
 clear h hL hp hf hl hn hj hhd
 go_enter Tryz.func34, Tryz.ntmps34
 by_cases h2 : kk = 2
 have g2 : (kk == 2) = true := by simpa using h2
 focus
  have HE : Aside0 (hd = [⟨#[116, 105, 99, 107]⟩]) := am_ (by rw [HHD.out]; simp [evHead, h2])
  clear HHD hk h2
  have HA : Aside0 (AInv W w0 ((w0.alloc (.cells #[.int .i64 kk, .int .i64 ses, .int .i64 qk, .int .i64 life, .int .i64 num, .int .i64 qplace, .string key, .string to_, .slice A8 n8 c8, .int .i64 lim, .int .i64 place, .slice A11 L.length c11] 52)).alloc (.cells #[.string ⟨#[116, 105, 99, 107]⟩] 9)) pb w0.heap.size lines 52 #[.int .i64 kk, .int .i64 ses, .int .i64 qk, .int .i64 life, .int .i64 num, .int .i64 qplace, .string key, .string to_, .slice A8 n8 c8, .int .i64 lim, .int .i64 place, .slice A11 L.length c11] (.slice (some ⟨w0.heap.size + 1, 0, none⟩) 1 1) [⟨#[116, 105, 99, 107]⟩]) := am_ (by have h := AInv.start HX.out [⟨#[116, 105, 99, 107]⟩] (by simp) (by simp [maxLen]); rw [World.size_alloc] at h; exact h)
  go_wp2
  clear HX
  generalize (w0.alloc _).alloc _ = wA at HA ⊢
  generalize w0.heap.size + 1 = gA at HA ⊢
  rw [← HE.out] at HA
  clear HE
 rotate_left
 have g2 : (kk == 2) = false := by simpa using h2
 by_cases h3 : kk = 3
 have g3 : (kk == 3) = true := by simpa using h3
 focus
  have HE : Aside0 (hd = [⟨#[118, 97, 99, 117, 117, 109]⟩, itoaB place]) := am_ (by rw [HHD.out]; simp [evHead, h2, h3])
  clear HHD hk h2 h3
  go_wp2_with (go_at_call 33; refine (num_c place HPL.out _ HX.out.env).mono ?_; rintro e w1 ⟨rfl, hb_⟩; replace HX := am_ (HX.out.below hb_); clear hb_; have HA : Aside0 (AInv W w0 (w1.alloc (.cells #[.string ⟨#[118, 97, 99, 117, 117, 109]⟩, .string (itoaB place)] 9)) pb w0.heap.size lines 52 #[.int .i64 kk, .int .i64 ses, .int .i64 qk, .int .i64 life, .int .i64 num, .int .i64 qplace, .string key, .string to_, .slice A8 n8 c8, .int .i64 lim, .int .i64 place, .slice A11 L.length c11] (.slice (some ⟨w1.heap.size, 0, none⟩) 2 2) [⟨#[118, 97, 99, 117, 117, 109]⟩, itoaB place]) := am_ (AInv.start HX.out [⟨#[118, 97, 99, 117, 117, 109]⟩, itoaB place] (by simp) (by simp [maxLen])); have k_L := HA.out.at 11 rfl)
  clear HX k_L
  generalize w1.alloc _ = wA at HA ⊢
  generalize w1.heap.size = gA at HA ⊢
  rw [← HE.out] at HA
  clear HE
 rotate_left
 have g3 : (kk == 3) = false := by simpa using h3
 by_cases h4 : kk = 4
 have g4 : (kk == 4) = true := by simpa using h4
 focus
  have HE : Aside0 (hd = [⟨#[99, 104, 101, 99, 107, 112, 111, 105, 110, 116]⟩, itoaB place]) := am_ (by rw [HHD.out]; simp [evHead, h2, h3, h4])
  clear HHD hk h2 h3 h4
  go_wp2_with (go_at_call 33; refine (num_c place HPL.out _ HX.out.env).mono ?_; rintro e w1 ⟨rfl, hb_⟩; replace HX := am_ (HX.out.below hb_); clear hb_; have HA : Aside0 (AInv W w0 (w1.alloc (.cells #[.string ⟨#[99, 104, 101, 99, 107, 112, 111, 105, 110, 116]⟩, .string (itoaB place)] 9)) pb w0.heap.size lines 52 #[.int .i64 kk, .int .i64 ses, .int .i64 qk, .int .i64 life, .int .i64 num, .int .i64 qplace, .string key, .string to_, .slice A8 n8 c8, .int .i64 lim, .int .i64 place, .slice A11 L.length c11] (.slice (some ⟨w1.heap.size, 0, none⟩) 2 2) [⟨#[99, 104, 101, 99, 107, 112, 111, 105, 110, 116]⟩, itoaB place]) := am_ (AInv.start HX.out [⟨#[99, 104, 101, 99, 107, 112, 111, 105, 110, 116]⟩, itoaB place] (by simp) (by simp [maxLen])); have k_L := HA.out.at 11 rfl)
  clear HX k_L
  generalize w1.alloc _ = wA at HA ⊢
  generalize w1.heap.size = gA at HA ⊢
  rw [← HE.out] at HA
  clear HE
 rotate_left
 have g4 : (kk == 4) = false := by simpa using h4
 focus
  have g5 : (kk == 5) = true := by simp; omega
  have HE : Aside0 (hd = [⟨#[105, 100, 108, 101]⟩]) := am_ (by rw [HHD.out]; simp [evHead, h2, h3, h4])
  clear HHD hk h2 h3 h4
  have HA : Aside0 (AInv W w0 ((w0.alloc (.cells #[.int .i64 kk, .int .i64 ses, .int .i64 qk, .int .i64 life, .int .i64 num, .int .i64 qplace, .string key, .string to_, .slice A8 n8 c8, .int .i64 lim, .int .i64 place, .slice A11 L.length c11] 52)).alloc (.cells #[.string ⟨#[105, 100, 108, 101]⟩] 9)) pb w0.heap.size lines 52 #[.int .i64 kk, .int .i64 ses, .int .i64 qk, .int .i64 life, .int .i64 num, .int .i64 qplace, .string key, .string to_, .slice A8 n8 c8, .int .i64 lim, .int .i64 place, .slice A11 L.length c11] (.slice (some ⟨w0.heap.size + 1, 0, none⟩) 1 1) [⟨#[105, 100, 108, 101]⟩]) := am_ (by have h := AInv.start HX.out [⟨#[105, 100, 108, 101]⟩] (by simp) (by simp [maxLen]); rw [World.size_alloc] at h; exact h)
  go_wp2
  clear HX
  generalize (w0.alloc _).alloc _ = wA at HA ⊢
  generalize w0.heap.size + 1 = gA at HA ⊢
  rw [← HE.out] at HA
  clear HE
 rotate_left
 all_goals
  go_loopw [4, 40] (fun vw i wr => ∃ (k n c : Nat) (A : Option Addr), k ≤ L.length ∧ i = .int .i64 k ∧ vw = .slice A n c ∧ AInv W w0 wr pb w0.heap.size lines 52 #[.int .i64 kk, .int .i64 ses, .int .i64 qk, .int .i64 life, .int .i64 num, .int .i64 qplace, .string key, .string to_, .slice A8 n8 c8, .int .i64 lim, .int .i64 place, .slice A11 L.length c11] (.slice A n c) (hd ++ (L.take k).flatMap strikeW)) (fun _ i _ => L.length - (intOf i).toNat)
  case atStart => exact ⟨0, _, _, _, Nat.zero_le _, rfl, rfl, by simpa using HA.out⟩
  case round =>
   clear HA
   obtain ⟨k, n, c, A, hk, rfl, rfl, hA⟩ := hrel
   have HA := am_ hA
   clear hA
   have k_x := HA.out.at 11 rfl
   by_cases hlt : k < L.length
   · obtain ⟨l, hl⟩ : ∃ l, L[k]? = some l := ⟨L[k], List.getElem?_eq_getElem hlt⟩
     obtain ⟨bL, oL, cs, hAL, hKl, hcl⟩ := Cat_ HLC.out hl (by decide)
     subst hAL
     obtain ⟨Al, cl, rfl, hcl2, hlC⟩ := hKl
     have hc0' := hcl 0 _ rfl
     have hc0 : wr.cell? ⟨bL, oL + k, none⟩ = some (.slice Al l.length cl) := by
      have := (HA.out.b.b0.cell (p := ⟨bL, oL + (k * 1 + 0), none⟩) (World.block_lt_of_cell? w0 _ hc0')).trans hc0'
      rwa [Nat.mul_one, Nat.add_zero] at this
     have htk : L.take (k + 1) = L.take k ++ [l] := by rw [List.take_add_one, hl]; rfl
     have HTK := am_ htk
     have HLM := am_ (List.mem_of_getElem? hl)
     have HLK := am_ hl
     have HLC2 := am_ hlC
     have hlm : l.length ≤ 9223372036854775807 := hlC.2.1
     clear htk hl hlC hcl hcl2 hc0'
     have hrn := HA.out.reads.1
     have hbd : n + (l.length + 1) ≤ 4294967296 := by
      have h1 := flat_le L k HLK.out
      have h2 := HN.out
      rw [hrn]
      simp only [List.length_append] at h2 ⊢
      omega
     have HRN := am_ hrn
     have HBD := am_ hbd
     clear hrn hbd
     go_wp2_with (at_builtin; refine HA.out.appendL (by decide) [⟨#[47]⟩] _ _ rfl rfl rfl 1 rfl (by decide) rfl (n + 1) (by rw [← HRN.out]) (by have := HBD.out; omega) ?_; intro gB cB wB HB_; clear k_x hc0)
     go_loopw [4, 49] (fun vw i wr2 => ∃ (j n2 c2 : Nat) (A2 : Option Addr), j ≤ l.length ∧ i = .int .i64 j ∧ vw = .slice A2 n2 c2 ∧ AInv W w0 wr2 pb w0.heap.size lines 52 #[.int .i64 kk, .int .i64 ses, .int .i64 qk, .int .i64 life, .int .i64 num, .int .i64 qplace, .string key, .string to_, .slice A8 n8 c8, .int .i64 lim, .int .i64 place, .slice (some ⟨bL, oL, none⟩) L.length c11] (.slice A2 n2 c2) ((hd ++ (L.take k).flatMap strikeW) ++ ⟨#[47]⟩ :: (l.take j).map fateW)) (fun _ i _ => l.length - (intOf i).toNat)
     case atStart => exact ⟨0, _, _, _, Nat.zero_le _, rfl, rfl, by simpa using HB_⟩
     case round =>
      clear HB_ HA
      obtain ⟨j, n2, c2, A2, hj, rfl, rfl, hA⟩ := hrel
      have HA := am_ hA
      clear hA
      by_cases hlt2 : j < l.length
      · obtain ⟨f, hf⟩ : ∃ f, l[j]? = some f := ⟨l[j], List.getElem?_eq_getElem hlt2⟩
        obtain ⟨bF, oF, cs, hAF, hKf, hcf⟩ := Cat_ HLC2.out hf (by decide)
        subst hAF
        obtain rfl := k66_open hKf
        have kb : ∀ i u, ([.int .i64 f.f0, .int .i64 f.f1, .int .u8 f.f2] : List Value)[i]? = some u → wr.cell? ⟨bF, oF + (j * 3 + i), none⟩ = some u := fun i u hi =>
         (HA.out.b.b0.cell (p := ⟨bF, oF + (j * 3 + i), none⟩) (World.block_lt_of_cell? w0 _ (hcf i u hi))).trans (hcf i u hi)
        have k0 : wr.cell? ⟨bF, oF + j * 3, none⟩ = some (.int .i64 f.f0) := kb 0 _ rfl
        have k1 : wr.cell? ⟨bF, oF + j * 3 + 1, none⟩ = some (.int .i64 f.f1) := kb 1 _ rfl
        have k2 : wr.cell? ⟨bF, oF + j * 3 + 2, none⟩ = some (.int .u8 f.f2) := kb 2 _ rfl
        have htk2 : l.take (j + 1) = l.take j ++ [f] := by rw [List.take_add_one, hf]; rfl
        have hfo := HF.out l HLM.out f (List.mem_of_getElem? hf)
        have hrn2 := HA.out.reads.1
        have hbd2 : n2 + 1 ≤ 4294967296 := by
         have h2 := HBD.out
         have h3 := HRN.out
         rw [hrn2]
         simp only [List.length_append, List.length_cons, List.length_map, List.length_take] at h3 ⊢
         omega
        have HTK2 := am_ htk2
        have HFO := am_ hfo
        have HRN2 := am_ hrn2
        have HBD2 := am_ hbd2
        have hf20 := hfo.2.2.1
        have hf21 := hfo.2.2.2
        have z0 := itoaB_size f.f0 hfo.1
        have z1 := itoaB_size f.f1 hfo.2.1
        have z2 := itoaB_size f.f2 ⟨by omega, by omega⟩
        have q1 : ¬ 9223372036854775807 < (itoaB f.f0).size + 1 := by omega
        have q2 : ¬ 9223372036854775807 < (itoaB f.f0).size + 1 + (itoaB f.f1).size := by omega
        have q3 : ¬ 9223372036854775807 < (itoaB f.f0).size + 1 + (itoaB f.f1).size + 1 := by omega
        have q4 : ¬ 9223372036854775807 < (itoaB f.f0).size + 1 + (itoaB f.f1).size + 1 + (itoaB f.f2).size := by omega
        have hw := IntWalk.i64_in f.f2 (by omega)
        clear kb hcf hKf hf htk2 hfo hrn2 hbd2 z0 z1 z2
        go_wp2
        have HFX := am_ (wld.alloc_same wr (.cells #[.int .i64 f.f0, .int .i64 f.f1, .int .u8 f.f2] 66))
        replace HA := am_ (HA.out.alloc (.cells #[.int .i64 f.f0, .int .i64 f.f1, .int .u8 f.f2] 66))
        clear k0 k1 k2
        generalize wr.alloc _ = wF at HA HFX ⊢
        generalize wr.heap.size = fb at HFX ⊢
        refine start_ (n := 18) (S := fun w' => w'.cell? ⟨fb, 0, none⟩ = some (.int .i64 f.f0) ∧ w'.cell? ⟨fb, 1, none⟩ = some (.int .i64 f.f1) ∧ w'.cell? ⟨fb, 2, none⟩ = some (.int .u8 f.f2)) (ds := [16]) #[false, false, false, false, false, false, false, false, false, false, false, false, false, false, false, false, false, false] (by kernel_rfl) rfl rfl (c3_ HFX.out) (fun hHeld => ?_)
        replace HA := am_ HA.out.drew; replace HFX := am_ (show wF.drew.heap[fb]? = _ from HFX.out); generalize wF.drew = wG at HA HFX hHeld ⊢
        refine pu_ 0 53 (bs_ 18 1) rfl rfl (by kernel_rfl) rfl (by intro w'; go_simp; with_reducible rfl) (by simp only [Act.put, aS, aZ, aC, i64_w, i32_w]; rfl) (fun _ _ _ h => h) ?_
        refine pu_ 1 54 (bs_ 18 3) rfl rfl (by kernel_rfl) rfl (by intro w'; go_simp; with_reducible rfl) (by simp only [Act.put, aS, aZ, aC, i64_w, i32_w]; rfl) (fun _ _ _ h => h) ?_
        refine pu_ 5 58 (bs_ 18 35) rfl rfl (by kernel_rfl) rfl (by intro w'; go_simp; with_reducible rfl) (by simp only [Act.put, aS, aZ, aC, i64_w, i32_w]; rfl) (fun _ _ _ h => h) ?_
        refine pu_ 10 63 (bs_ 18 1059) rfl rfl (by kernel_rfl) rfl (by intro w'; go_simp; with_reducible rfl) (by simp only [Act.put, aS, aZ, aC, i64_w, i32_w]; rfl) (fun _ _ _ h => h) ?_
        refine ta_ 2 55 (bs_ 18 1063) rfl rfl (by kernel_rfl) rfl (by rintro w' ⟨s0, s1, s2⟩; go_simp; with_reducible rfl) hHeld (by simp only [Act.put, aS, aZ, aC, i64_w, i32_w]; rfl) (fun _ _ _ h => h) ?_
        refine ta_ 6 59 (bs_ 18 1127) rfl rfl (by kernel_rfl) rfl (by rintro w' ⟨s0, s1, s2⟩; go_simp; with_reducible rfl) hHeld (by simp only [Act.put, aS, aZ, aC, i64_w, i32_w]; rfl) (fun _ _ _ h => h) ?_
        refine ta_ 11 64 (bs_ 18 3175) rfl rfl (by kernel_rfl) rfl (by rintro w' ⟨s0, s1, s2⟩; go_simp; with_reducible rfl) hHeld (by simp only [Act.put, aS, aZ, aC, i64_w, i32_w]; rfl) (fun _ _ _ h => h) ?_
        refine pu_ 12 65 (bs_ 18 7271) rfl rfl (by kernel_rfl) rfl (by intro w'; go_simp; with_reducible rfl) (by simp only [Act.put, aS, aZ, aC, i64_w, i32_w]; rfl) (fun _ _ _ h => h) ?_
        refine one_ (i := 3) (N := some 56) (bs_ 18 7279) rfl rfl (by kernel_rfl) (by decide) (fun K hK => ?_)
        refine goes_ Tryz.func33 (by kernel_rfl) rfl #[.int .i64 f.f0] (by rfl) rfl rfl (by (try simp only [aT, aK, aL]); first | done | rfl) ?_
        refine (num_c f.f0 HFO.out.1 _ HA.out.env).mono ?_
        rintro e wN1 ⟨rfl, hb_⟩
        refine ⟨_, rfl, ?_⟩
        replace HA := am_ (HA.out.below hb_)
        replace HFX := am_ ((hb_.block fb (blk_lt HFX.out)).trans HFX.out)
        clear hb_
        refine hK.out _ _ (c3_ HFX.out) (fun hHeld => ?_)
        clear hK K
        refine no_ (by simp only [Act.put, aS, aZ, aC, i64_w, i32_w]; rfl) ?_
        refine pu_ 4 57 (bs_ 18 7295) rfl rfl (by kernel_rfl) rfl (by intro w'; go_simp; with_reducible rfl) (by simp only [Act.put, aS, aZ, aC, i64_w, i32_w]; rfl) (fun _ _ _ h => h) ?_
        refine one_ (i := 7) (N := some 60) (bs_ 18 7423) rfl rfl (by kernel_rfl) (by decide) (fun K hK => ?_)
        refine goes_ Tryz.func33 (by kernel_rfl) rfl #[.int .i64 f.f1] (by rfl) rfl rfl (by (try simp only [aT, aK, aL]); first | done | rfl) ?_
        refine (num_c f.f1 HFO.out.2.1 _ HA.out.env).mono ?_
        rintro e wN2 ⟨rfl, hb_⟩
        refine ⟨_, rfl, ?_⟩
        replace HA := am_ (HA.out.below hb_)
        replace HFX := am_ ((hb_.block fb (blk_lt HFX.out)).trans HFX.out)
        clear hb_
        refine hK.out _ _ (c3_ HFX.out) (fun hHeld => ?_)
        clear hK K
        refine no_ (by simp only [Act.put, aS, aZ, aC, i64_w, i32_w]; rfl) ?_
        refine pu_ 8 61 (bs_ 18 7679) rfl rfl (by kernel_rfl) rfl (by intro w'; go_simp; with_reducible rfl) (by simp only [Act.put, aS, aZ, aC, i64_w, i32_w]; rfl) (fun _ _ _ h => h) ?_
        refine pu_ 9 62 (bs_ 18 8191) rfl rfl (by kernel_rfl) rfl (by intro w'; go_simp; with_reducible rfl) (by simp only [Act.put, aS, aZ, aC, i64_w, i32_w]; rfl) (fun _ _ _ h => h) ?_
        refine one_ (i := 13) (N := some 66) (bs_ 18 16383) rfl rfl (by kernel_rfl) (by decide) (fun K hK => ?_)
        refine goes_ Tryz.func33 (by kernel_rfl) rfl #[.int .i64 f.f2] (by rfl) rfl rfl (by (try simp only [aT, aK, aL]); first | done | rfl) ?_
        refine (num_c f.f2 ⟨by omega, by omega⟩ _ HA.out.env).mono ?_
        rintro e wN3 ⟨rfl, hb_⟩
        refine ⟨_, rfl, ?_⟩
        replace HA := am_ (HA.out.below hb_)
        replace HFX := am_ ((hb_.block fb (blk_lt HFX.out)).trans HFX.out)
        clear hb_
        refine hK.out _ _ (c3_ HFX.out) (fun hHeld => ?_)
        clear hK K
        refine no_ (by simp only [Act.put, aS, aZ, aC, i64_w, i32_w]; rfl) ?_
        refine pu_ 14 67 (bs_ 18 32767) rfl rfl (by kernel_rfl) rfl (by intro w'; go_simp; with_reducible rfl) (by simp only [Act.put, aS, aZ, aC, i64_w, i32_w]; rfl) (fun _ _ _ h => h) ?_
        refine one_ (i := 15) (N := some 68) (bs_ 18 65535) rfl rfl (by kernel_rfl) (by decide) (fun K hK => ?_)
        refine value_ (w1 := ?_) (v := ?_) (by rfl) rfl ?_ ?_
        rotate_left 2
        · go_simp
          constructor
          · rfl
          rfl
        refine hK.out _ _ (c3a_ HFX.out) (fun hHeld => ?_)
        clear hK K
        refine no_ (by simp only [Act.put, aS, aZ, aC, i64_w, i32_w]; rfl) ?_
        refine last_ (i := 16) (N := some 69) (bs_ 18 131071) rfl rfl (by kernel_rfl) (by decide) (fun K hK => ?_)
        refine HA.out.append_ (by decide) [fateW f] (.tmp 53) (.tmp 68) rfl rfl rfl 1 rfl (by decide) rfl (n2 + 1) (by rw [← HRN2.out]) HBD2.out ?_
        intro gC cC wC HB_
        clear HA
        refine hK.out _ _ ?_
        clear hK K
        refine no_ (by simp only [Act.put, aS, aZ, aC, i64_w, i32_w]; rfl) ?_
        refine pu_ 17 4 (bs_ 18 262143) rfl rfl (by kernel_rfl) rfl (by intro w'; go_simp; with_reducible rfl) (by simp only [Act.put, aS, aZ, aC, i64_w, i32_w]; rfl) (fun _ _ _ h => h) ?_
        refine done_ (by kernel_rfl) ?_
        go_wp2
        go_roundw
        case rel => exact ⟨j + 1, n2 + 1, cC, _, hlt2, by go_num, rfl, by have h := HB_; rw [List.append_assoc, List.cons_append] at h; rw [HTK2.out, List.map_append]; exact h⟩
        case measure => simp [intOf]; omega
      have hjl : j = l.length := by omega
      subst hjl
      rw [List.take_length] at HA
      go_wp2
      go_roundw
      case rel => exact ⟨k + 1, n2, c2, A2, hlt, by go_num, rfl, by rw [HTK.out, List.flatMap_append, List.flatMap_singleton, ← List.append_assoc]; exact HA.out⟩
      case measure => simp [intOf]; omega
   have hkL : k = L.length := by omega
   subst hkL
   rw [List.take_length] at HA
   go_wp2_with fail
   refine (HA.out.line HL.out (by have := HN.out; omega) HJ.out).mono ?_
   rintro e w9 ⟨rfl, hP⟩
   go_wp2_with fail
   go_end0
   exact ⟨rfl, hP⟩
theorem pask_calls (W w0 : World) (pb : Nat) (lines : List ByteArray) (kind ses life num place : Int) (key to_ : ByteArray) (A : Option Addr) (c : Nat) (val : List Int) (lim : Int) (h : PInvE W w0 pb lines)
 (hk : 1 ≤ kind ∧ kind ≤ 7) (hval : Kd.C (Kd.int .u8) w0 A val.length val) (h1 : sc.InInt ses) (h2 : sc.InInt life) (h3 : sc.InInt num) (h4 : sc.InInt place) (h5 : sc.InInt lim) (h6 : key.size ≤ 1099511627776) (h7 : to_.size ≤ 1099511627776) (h8 : (strOfNums val).size ≤ 1099511627776)
 (hl : lines.length ≤ 4294967296) (hj : (joinB (askWords kind ses life num place key to_ val lim) ⟨#[32]⟩).size ≤ 140737488355328) :
 Calls Tryz.prog 59 #[.pointer (some ⟨pb, 0, none⟩), .int .i64 ses, .agg #[.int .i64 kind, .int .i64 life, .int .i64 num, .int .i64 place, .string key, .string to_, .slice A val.length c, .int .i64 lim]] w0 fun e w' =>
  e = .returned (.tuple #[]) ∧ PInvE W w' pb (lines ++ [joinB (askWords kind ses life num place key to_ val lim) ⟨#[32]⟩]) := by
 have : kind = 1 ∨ kind = 2 ∨ kind = 3 ∨ kind = 4 ∨ kind = 5 ∨ kind = 6 ∨ kind = 7 := by omega
 rcases this with rfl | rfl | rfl | rfl | rfl | rfl | rfl
 · exact pask_calls1 W w0 pb lines ses life num place key to_ A c val lim h hval h1 h2 h3 h4 h5 h6 h7 h8 hl hj
 · exact pask_calls2 W w0 pb lines ses life num place key to_ A c val lim h hval h1 h2 h3 h4 h5 h6 h7 h8 hl hj
 · exact pask_calls3 W w0 pb lines ses life num place key to_ A c val lim h hval h1 h2 h3 h4 h5 h6 h7 h8 hl hj
 · exact pask_calls4 W w0 pb lines ses life num place key to_ A c val lim h hval h1 h2 h3 h4 h5 h6 h7 h8 hl hj
 · exact pask_calls5 W w0 pb lines ses life num place key to_ A c val lim h hval h1 h2 h3 h4 h5 h6 h7 h8 hl hj
 · exact pask_calls6 W w0 pb lines ses life num place key to_ A c val lim h hval h1 h2 h3 h4 h5 h6 h7 h8 hl hj
 exact pask_calls7 W w0 pb lines ses life num place key to_ A c val lim h hval h1 h2 h3 h4 h5 h6 h7 h8 hl hj
theorem pev_calls1 (W w0 : World) (pb : Nat) (lines : List ByteArray) (ses qk life num qplace : Int) (key to_ : ByteArray) (A8 : Option Addr) (val : List Int) (c8 : Nat) (lim place : Int) (v11 : Option Addr) (n11 c11 : Nat) (h : PInvE W w0 pb lines)
 (hk : 1 ≤ qk ∧ qk ≤ 7) (hval : Kd.C (Kd.int .u8) w0 A8 val.length val) (h1 : sc.InInt ses) (h2 : sc.InInt life) (h3 : sc.InInt num) (h4 : sc.InInt qplace) (h5 : sc.InInt lim) (h6 : key.size ≤ 1099511627776) (h7 : to_.size ≤ 1099511627776) (h8 : (strOfNums val).size ≤ 1099511627776)
 (hl : lines.length ≤ 4294967296) (hj : (joinB (askWords qk ses life num qplace key to_ val lim) ⟨#[32]⟩).size ≤ 140737488355328) :
 Calls Tryz.prog 34 #[.pointer (some ⟨pb, 0, none⟩), .agg #[.int .i64 1, .int .i64 ses, .int .i64 qk, .int .i64 life, .int .i64 num, .int .i64 qplace, .string key, .string to_, .slice A8 val.length c8, .int .i64 lim, .int .i64 place, .slice v11 n11 c11]] w0 fun e w' =>
  e = .returned (.tuple #[]) ∧ PInvE W w' pb (lines ++ [joinB (askWords qk ses life num qplace key to_ val lim) ⟨#[32]⟩]) := by
 have hb := b1_ (Below.refl w0.heap.size w0) (.cells #[.int .i64 1, .int .i64 ses, .int .i64 qk, .int .i64 life, .int .i64 num, .int .i64 qplace, .string key, .string to_, .slice A8 val.length c8, .int .i64 lim, .int .i64 place, .slice v11 n11 c11] 52)
 have HC := am_ (pask_calls W _ pb lines qk ses life num qplace key to_ A8 c8 val lim (h.below hb) hk (Kd.C_below hval hb) h1 h2 h3 h4 h5 h6 h7 h8 hl hj)
 clear h hk hval h1 h2 h3 h4 h5 h6 h7 h8 hl hj hb
 go_enter Tryz.func34, Tryz.ntmps34
 go_wp2_with fail
 refine HC.out.mono ?_
 rintro e w9 ⟨rfl, hP⟩
 go_wp2
 exact bodyPost_ret (results_none rfl _ _ _) rfl ⟨rfl, hP⟩
def EvIn (x : S52) : Prop := sc.InInt x.f1 ∧ sc.InInt x.f2.f1.f0 ∧ sc.InInt x.f2.f1.f1 ∧ sc.InInt x.f2.f2 ∧ sc.InInt x.f2.f6 ∧ sc.InInt x.f3 ∧ x.f2.f3.size ≤ 1099511627776 ∧ x.f2.f4.size ≤ 1099511627776 ∧ (strOfNums x.f2.f5).size ≤ 1099511627776 ∧ ∀ l ∈ x.f4, ∀ f ∈ l, FateOK f
theorem pevent_calls (W w0 : World) (pb : Nat) (lines : List ByteArray) (x : S52) (A8 : Option Addr) (c8 : Nat) (A11 : Option Addr) (c11 : Nat) (h : PInvE W w0 pb lines) (hval : Kd.C (Kd.int .u8) w0 A8 x.f2.f5.length x.f2.f5) (hL : (Kd.slice 66 k66).C w0 A11 x.f4.length x.f4)
 (hk : (x.f0 = 1 ∧ 1 ≤ x.f2.f0 ∧ x.f2.f0 ≤ 7) ∨ (2 ≤ x.f0 ∧ x.f0 ≤ 5)) (hi : EvIn x) (hl : lines.length ≤ 4294967296) (hn : (evWords x).length ≤ 4294967296) (hj : (joinB (evWords x) ⟨#[32]⟩).size ≤ 140737488355328) :
 Calls Tryz.prog 34 #[.pointer (some ⟨pb, 0, none⟩), .agg #[.int .i64 x.f0, .int .i64 x.f1, .int .i64 x.f2.f0, .int .i64 x.f2.f1.f0, .int .i64 x.f2.f1.f1, .int .i64 x.f2.f2, .string x.f2.f3, .string x.f2.f4, .slice A8 x.f2.f5.length c8, .int .i64 x.f2.f6, .int .i64 x.f3, .slice A11 x.f4.length c11]] w0 fun e w' =>
  e = .returned (.tuple #[]) ∧ PInvE W w' pb (lines ++ [joinB (evWords x) ⟨#[32]⟩]) := by
 obtain ⟨h1, h2, h3, h4, h5, h6, h7, h8, h9, hf⟩ := hi
 obtain ⟨f0, f1, f2, f3, f4⟩ := x
 simp only at *
 rcases hk with ⟨rfl, hq⟩ | hk
 · exact pev_calls1 W w0 pb lines f1 f2.f0 f2.f1.f0 f2.f1.f1 f2.f2 f2.f3 f2.f4 A8 f2.f5 c8 f2.f6 f3 A11 f4.length c11 h hq hval h1 h2 h3 h4 h5 h7 h8 h9 hl hj
 have e : evWords ⟨f0, f1, f2, f3, f4⟩ = evHead f0 f3 ++ f4.flatMap strikeW := if_neg (show ¬ f0 = 1 by omega)
 rw [e] at hn hj ⊢
 exact pev_calls W w0 pb lines f0 f1 f2.f0 f2.f1.f0 f2.f1.f1 f2.f2 f2.f3 f2.f4 A8 f2.f5.length c8 f2.f6 f3 A11 c11 f4 hk h hL h6 hf hl hn hj
theorem nilC {α : Type} (d : Kd α) (w : World) : d.C w none 0 [] := ⟨rfl, by decide, fun h => absurd h (by decide)⟩
def alikeB (a b : S49) : Bool := decide (a.f0 = b.f0 ∧ (a.f1.f0 = b.f1.f0 ∧ a.f1.f1 = b.f1.f1) ∧ a.f2 = b.f2 ∧ a.f3 = b.f3 ∧ a.f4 = b.f4 ∧ a.f6 = b.f6 ∧ a.f5.length = b.f5.length)
theorem toList_inj {a b : ByteArray} : a.toList = b.toList ↔ a = b := by
 constructor
 · intro h
   rw [Lib.toList_data, Lib.toList_data] at h
   obtain ⟨⟨a⟩⟩ := a
   obtain ⟨⟨b⟩⟩ := b
   simp at h
   rw [h]
 rintro rfl; rfl
theorem alike_f (a b : S49) : script_alike.f a.f0 a.f1.f0 a.f1.f1 a.f2 a.f3 a.f4 a.f5 a.f6 b.f0 b.f1.f0 b.f1.f1 b.f2 b.f3 b.f4 b.f5 b.f6 = some (alikeB a b) := by
 unfold script_alike.f alikeB
 by_cases h1 : a.f0 = b.f0
 · rw [if_pos h1]
   by_cases h2 : a.f1.f0 = b.f1.f0 ∧ a.f1.f1 = b.f1.f1
   · rw [if_pos (by simp [h2])]
     by_cases h3 : a.f2 = b.f2
     · rw [if_pos h3]
       by_cases h4 : a.f3 = b.f3
       · rw [if_pos (toList_inj.2 h4)]
         by_cases h5 : a.f4 = b.f4
         · rw [if_pos (toList_inj.2 h5)]
           by_cases h6 : a.f6 = b.f6
           · rw [if_pos h6]
             congr 1
             rw [Bool.eq_iff_iff]
             simp [h1, h2, h3, h4, h5, h6]
             omega
           simp [h6]
         rw [if_neg (fun h => h5 (toList_inj.1 h))]; simp [h5]
       rw [if_neg (fun h => h4 (toList_inj.1 h))]; simp [h4]
     simp [h3]
   rw [if_neg (by simpa using h2)]; simp [h2]
 simp [h1]
def counted (q : S49) : S49 := { f0 := q.f0, f1 := if q.f0 > 1 then q.f1 else z37, f2 := if q.f0 > 1 ∧ q.f0 < 6 then q.f2 else 0, f3 := if q.f0 > 1 ∧ q.f0 < 6 then q.f3 else ⟨#[]⟩, f4 := if q.f0 = 3 then q.f4 else ⟨#[]⟩, f5 := if q.f0 = 4 then q.f5 else [], f6 := if q.f0 = 3 then q.f6 else 0 }
def mayB (x : S52) : Bool := if x.f0 = 1 then decide (1 ≤ x.f2.f0 ∧ x.f2.f0 ≤ 7) && decide (x.f3 = 0) && decide (x.f4.length = 0) && alikeB x.f2 (counted x.f2) else decide (1 ≤ x.f0 ∧ x.f0 ≤ 5) && decide (x.f1 = 0) && alikeB x.f2 z49 && decide (x.f3 = 0 ∨ x.f0 = 3 ∨ x.f0 = 4)
theorem may_a (f0 f1 qk life num qplace : Int) (key to_ : ByteArray) (A8 : Option Addr) (val : List Int) (c8 : Nat) (lim place : Int) (A11 : Option Addr) (n11 c11 : Nat) (w : World) (h0 : f0 = 1) (h1 : qk < 1) :
 Calls Tryz.prog 31 #[.agg #[.int .i64 f0, .int .i64 f1, .int .i64 qk, .int .i64 life, .int .i64 num, .int .i64 qplace, .string key, .string to_, .slice A8 val.length c8, .int .i64 lim, .int .i64 place, .slice A11 n11 c11]] w fun e w' => e = .returned (.bool false) ∧ Below w.heap.size w w' := by
 subst h0
 have g1 : decide ((1 : Int) ≤ qk) = false := by simp; omega
 go_enter Tryz.func31, Tryz.ntmps31
 go_wp2
 go_region
 go_wp2
 go_ret
 refine ⟨rfl, ?_⟩
 repeat (first | exact Below.refl _ _ | refine b3_ ?_ | refine b1_ ?_ _)
theorem may_b (f0 f1 qk life num qplace : Int) (key to_ : ByteArray) (A8 : Option Addr) (val : List Int) (c8 : Nat) (lim place : Int) (A11 : Option Addr) (n11 c11 : Nat) (w : World) (h0 : f0 = 1) (h1 : 7 < qk) :
 Calls Tryz.prog 31 #[.agg #[.int .i64 f0, .int .i64 f1, .int .i64 qk, .int .i64 life, .int .i64 num, .int .i64 qplace, .string key, .string to_, .slice A8 val.length c8, .int .i64 lim, .int .i64 place, .slice A11 n11 c11]] w fun e w' => e = .returned (.bool false) ∧ Below w.heap.size w w' := by
 subst h0
 have g1 : decide ((1 : Int) ≤ qk) = true := by simp; omega
 have g2 : decide (qk ≤ 7) = false := by simp; omega
 go_enter Tryz.func31, Tryz.ntmps31
 go_wp2
 go_region
 go_wp2
 go_ret
 refine ⟨rfl, ?_⟩
 repeat (first | exact Below.refl _ _ | refine b3_ ?_ | refine b1_ ?_ _)
theorem may_c (f0 f1 qk life num qplace : Int) (key to_ : ByteArray) (A8 : Option Addr) (val : List Int) (c8 : Nat) (lim place : Int) (A11 : Option Addr) (n11 c11 : Nat) (w : World) (h0 : f0 = 1) (h1 : 1 ≤ qk ∧ qk ≤ 7) (h2 : place ≠ 0) :
 Calls Tryz.prog 31 #[.agg #[.int .i64 f0, .int .i64 f1, .int .i64 qk, .int .i64 life, .int .i64 num, .int .i64 qplace, .string key, .string to_, .slice A8 val.length c8, .int .i64 lim, .int .i64 place, .slice A11 n11 c11]] w fun e w' => e = .returned (.bool false) ∧ Below w.heap.size w w' := by
 subst h0
 have g1 : decide ((1 : Int) ≤ qk) = true := by simp; omega
 have g2 : decide (qk ≤ 7) = true := by simp; omega
 have g3 : (place == 0) = false := by simpa using h2
 clear h1
 go_enter Tryz.func31, Tryz.ntmps31
 go_wp2
 go_region
 go_wp2
 go_ret
 refine ⟨rfl, ?_⟩
 repeat (first | exact Below.refl _ _ | refine b3_ ?_ | refine b1_ ?_ _)
theorem may_d (f0 f1 qk life num qplace : Int) (key to_ : ByteArray) (A8 : Option Addr) (val : List Int) (c8 : Nat) (lim place : Int) (A11 : Option Addr) (n11 c11 : Nat) (w : World) (h0 : f0 = 1) (h1 : 1 ≤ qk ∧ qk ≤ 7) (h2 : place = 0) (h3 : n11 ≠ 0) :
 Calls Tryz.prog 31 #[.agg #[.int .i64 f0, .int .i64 f1, .int .i64 qk, .int .i64 life, .int .i64 num, .int .i64 qplace, .string key, .string to_, .slice A8 val.length c8, .int .i64 lim, .int .i64 place, .slice A11 n11 c11]] w fun e w' => e = .returned (.bool false) ∧ Below w.heap.size w w' := by
 subst h0
 subst h2
 have g1 : decide ((1 : Int) ≤ qk) = true := by simp; omega
 have g2 : decide (qk ≤ 7) = true := by simp; omega
 have g3 : ((n11 : Int) == 0) = false := by simp; omega
 clear h1
 go_enter Tryz.func31, Tryz.ntmps31
 go_wp2
 go_region
 go_wp2
 go_ret
 refine ⟨rfl, ?_⟩
 repeat (first | exact Below.refl _ _ | refine b3_ ?_ | refine b1_ ?_ _)
theorem may_f (f0 f1 qk life num qplace : Int) (key to_ : ByteArray) (A8 : Option Addr) (val : List Int) (c8 : Nat) (lim place : Int) (A11 : Option Addr) (n11 c11 : Nat) (w : World) (h1 : f0 < 1) :
 Calls Tryz.prog 31 #[.agg #[.int .i64 f0, .int .i64 f1, .int .i64 qk, .int .i64 life, .int .i64 num, .int .i64 qplace, .string key, .string to_, .slice A8 val.length c8, .int .i64 lim, .int .i64 place, .slice A11 n11 c11]] w fun e w' => e = .returned (.bool false) ∧ Below w.heap.size w w' := by
 have g0 : (f0 == 1) = false := by simp; omega
 have g1 : decide (f0 < 1) = true := by simpa using h1
 go_enter Tryz.func31, Tryz.ntmps31
 go_wp2
 go_ret
 refine ⟨rfl, ?_⟩
 repeat (first | exact Below.refl _ _ | refine b3_ ?_ | refine b1_ ?_ _)
theorem may_g (f0 f1 qk life num qplace : Int) (key to_ : ByteArray) (A8 : Option Addr) (val : List Int) (c8 : Nat) (lim place : Int) (A11 : Option Addr) (n11 c11 : Nat) (w : World) (h1 : 5 < f0) :
 Calls Tryz.prog 31 #[.agg #[.int .i64 f0, .int .i64 f1, .int .i64 qk, .int .i64 life, .int .i64 num, .int .i64 qplace, .string key, .string to_, .slice A8 val.length c8, .int .i64 lim, .int .i64 place, .slice A11 n11 c11]] w fun e w' => e = .returned (.bool false) ∧ Below w.heap.size w w' := by
 have g0 : (f0 == 1) = false := by simp; omega
 have g1 : decide (f0 < 1) = false := by simp; omega
 have g2 : decide (5 < f0) = true := by simpa using h1
 go_enter Tryz.func31, Tryz.ntmps31
 go_wp2
 go_ret
 refine ⟨rfl, ?_⟩
 repeat (first | exact Below.refl _ _ | refine b3_ ?_ | refine b1_ ?_ _)
theorem may_h (f0 f1 qk life num qplace : Int) (key to_ : ByteArray) (A8 : Option Addr) (val : List Int) (c8 : Nat) (lim place : Int) (A11 : Option Addr) (n11 c11 : Nat) (w : World) (h1 : 2 ≤ f0 ∧ f0 ≤ 5) (h2 : f1 ≠ 0) :
 Calls Tryz.prog 31 #[.agg #[.int .i64 f0, .int .i64 f1, .int .i64 qk, .int .i64 life, .int .i64 num, .int .i64 qplace, .string key, .string to_, .slice A8 val.length c8, .int .i64 lim, .int .i64 place, .slice A11 n11 c11]] w fun e w' => e = .returned (.bool false) ∧ Below w.heap.size w w' := by
 have g0 : (f0 == 1) = false := by simp; omega
 have g1 : decide (f0 < 1) = false := by simp; omega
 have g2 : decide (5 < f0) = false := by simp; omega
 have g3 : (f1 != 0) = true := by simpa using h2
 clear h1
 go_enter Tryz.func31, Tryz.ntmps31
 go_wp2
 go_ret
 refine ⟨rfl, ?_⟩
 repeat (first | exact Below.refl _ _ | refine b3_ ?_ | refine b1_ ?_ _)
theorem may_i (f0 f1 qk life num qplace : Int) (key to_ : ByteArray) (A8 : Option Addr) (val : List Int) (c8 : Nat) (lim place : Int) (A11 : Option Addr) (n11 c11 : Nat) (w : World) (h1 : 2 ≤ f0 ∧ f0 ≤ 5) (h2 : f1 = 0) (hval : Kd.C (Kd.int .u8) w A8 val.length val) (hc8 : val.length ≤ c8) (h4 : alikeB (⟨qk, ⟨life, num⟩, qplace, key, to_, val, lim⟩ : S49) z49 = false) :
 Calls Tryz.prog 31 #[.agg #[.int .i64 f0, .int .i64 f1, .int .i64 qk, .int .i64 life, .int .i64 num, .int .i64 qplace, .string key, .string to_, .slice A8 val.length c8, .int .i64 lim, .int .i64 place, .slice A11 n11 c11]] w fun e w' => e = .returned (.bool false) ∧ Below w.heap.size w w' := by
 have HAL := am_ (fun (W1 : World) (hW1 : Below w.heap.size w W1) => script_alike.calls qk life num qplace key to_ A8 c8 val lim 0 0 0 0 ⟨#[]⟩ ⟨#[]⟩ none 0 [] 0 false W1 (Kd.C_below hval hW1) hc8 (nilC _ W1) (Nat.le_refl _) ((alike_f (⟨qk, ⟨life, num⟩, qplace, key, to_, val, lim⟩ : S49) z49).trans (by rw [h4])))
 have e0 : ((w.alloc (.cells #[.int .i64 f0, .int .i64 f1, .int .i64 qk, .int .i64 life, .int .i64 num, .int .i64 qplace, .string key, .string to_, .slice A8 val.length c8, .int .i64 lim, .int .i64 place, .slice A11 n11 c11] 52)).alloc (.cells #[.int .i64 qk, .int .i64 life, .int .i64 num, .int .i64 qplace, .string key, .string to_, .slice A8 val.length c8, .int .i64 lim] 49)).cell? ⟨w.heap.size, 0, none⟩ = some (.int .i64 f0) := wld.cellA (wld.cell_of (wld.alloc_same w _) rfl) _
 have e10 : ((w.alloc (.cells #[.int .i64 f0, .int .i64 f1, .int .i64 qk, .int .i64 life, .int .i64 num, .int .i64 qplace, .string key, .string to_, .slice A8 val.length c8, .int .i64 lim, .int .i64 place, .slice A11 n11 c11] 52)).alloc (.cells #[.int .i64 qk, .int .i64 life, .int .i64 num, .int .i64 qplace, .string key, .string to_, .slice A8 val.length c8, .int .i64 lim] 49)).cell? ⟨w.heap.size, 10, none⟩ = some (.int .i64 place) := wld.cellA (wld.cell_of (wld.alloc_same w _) rfl) _
 have HE := am_ (And.intro e0 e10)
 clear hval hc8 e0 e10
 clear h4
 subst h2
 have g0 : (f0 == 1) = false := by simp; omega
 have g1 : decide (f0 < 1) = false := by simp; omega
 have g2 : decide (5 < f0) = false := by simp; omega
 clear h1
 go_enter Tryz.func31, Tryz.ntmps31
 go_wp2_with (go_at_call 57; refine (HAL.out _ (b1_ (b1_ (Below.refl _ _) _) _)).mono ?_; rintro e w1 ⟨rfl, hbx⟩; have k0 := (hbx.cell (p := ⟨w.heap.size, 0, none⟩) (by simp; omega)).trans HE.out.1; have k10 := (hbx.cell (p := ⟨w.heap.size, 10, none⟩) (by simp; omega)).trans HE.out.2; have HBX := am_ hbx; clear hbx)
 go_ret
 refine ⟨rfl, ?_⟩
 exact (b1_ (b1_ (Below.refl _ _) _) _).trans (HBX.out.mono (by simp; omega))
theorem may_j0 (f0 f1 qk life num qplace : Int) (key to_ : ByteArray) (A8 : Option Addr) (val : List Int) (c8 : Nat) (lim place : Int) (A11 : Option Addr) (n11 c11 : Nat) (w : World) (h1 : 2 ≤ f0 ∧ f0 ≤ 5) (h2 : f1 = 0) (hval : Kd.C (Kd.int .u8) w A8 val.length val) (hc8 : val.length ≤ c8) (h4 : alikeB (⟨qk, ⟨life, num⟩, qplace, key, to_, val, lim⟩ : S49) z49 = true) (h5 : place = 0) :
 Calls Tryz.prog 31 #[.agg #[.int .i64 f0, .int .i64 f1, .int .i64 qk, .int .i64 life, .int .i64 num, .int .i64 qplace, .string key, .string to_, .slice A8 val.length c8, .int .i64 lim, .int .i64 place, .slice A11 n11 c11]] w fun e w' => e = .returned (.bool true) ∧ Below w.heap.size w w' := by
 have HAL := am_ (fun (W1 : World) (hW1 : Below w.heap.size w W1) => script_alike.calls qk life num qplace key to_ A8 c8 val lim 0 0 0 0 ⟨#[]⟩ ⟨#[]⟩ none 0 [] 0 true W1 (Kd.C_below hval hW1) hc8 (nilC _ W1) (Nat.le_refl _) ((alike_f (⟨qk, ⟨life, num⟩, qplace, key, to_, val, lim⟩ : S49) z49).trans (by rw [h4])))
 have e0 : ((w.alloc (.cells #[.int .i64 f0, .int .i64 f1, .int .i64 qk, .int .i64 life, .int .i64 num, .int .i64 qplace, .string key, .string to_, .slice A8 val.length c8, .int .i64 lim, .int .i64 place, .slice A11 n11 c11] 52)).alloc (.cells #[.int .i64 qk, .int .i64 life, .int .i64 num, .int .i64 qplace, .string key, .string to_, .slice A8 val.length c8, .int .i64 lim] 49)).cell? ⟨w.heap.size, 0, none⟩ = some (.int .i64 f0) := wld.cellA (wld.cell_of (wld.alloc_same w _) rfl) _
 have e10 : ((w.alloc (.cells #[.int .i64 f0, .int .i64 f1, .int .i64 qk, .int .i64 life, .int .i64 num, .int .i64 qplace, .string key, .string to_, .slice A8 val.length c8, .int .i64 lim, .int .i64 place, .slice A11 n11 c11] 52)).alloc (.cells #[.int .i64 qk, .int .i64 life, .int .i64 num, .int .i64 qplace, .string key, .string to_, .slice A8 val.length c8, .int .i64 lim] 49)).cell? ⟨w.heap.size, 10, none⟩ = some (.int .i64 place) := wld.cellA (wld.cell_of (wld.alloc_same w _) rfl) _
 have HE := am_ (And.intro e0 e10)
 clear hval hc8 e0 e10
 clear h4
 subst h2
 subst h5
 have g0 : (f0 == 1) = false := by simp; omega
 have g1 : decide (f0 < 1) = false := by simp; omega
 have g2 : decide (5 < f0) = false := by simp; omega
 clear h1
 go_enter Tryz.func31, Tryz.ntmps31
 go_wp2_with (go_at_call 57; refine (HAL.out _ (b1_ (b1_ (Below.refl _ _) _) _)).mono ?_; rintro e w1 ⟨rfl, hbx⟩; have k0 := (hbx.cell (p := ⟨w.heap.size, 0, none⟩) (by simp; omega)).trans HE.out.1; have k10 := (hbx.cell (p := ⟨w.heap.size, 10, none⟩) (by simp; omega)).trans HE.out.2; have HBX := am_ hbx; clear hbx)
 go_ret
 refine ⟨rfl, ?_⟩
 exact (b1_ (b1_ (Below.refl _ _) _) _).trans (HBX.out.mono (by simp; omega))
theorem may_j3 (f0 f1 qk life num qplace : Int) (key to_ : ByteArray) (A8 : Option Addr) (val : List Int) (c8 : Nat) (lim place : Int) (A11 : Option Addr) (n11 c11 : Nat) (w : World) (h1 : f0 = 3) (h2 : f1 = 0) (hval : Kd.C (Kd.int .u8) w A8 val.length val) (hc8 : val.length ≤ c8) (h4 : alikeB (⟨qk, ⟨life, num⟩, qplace, key, to_, val, lim⟩ : S49) z49 = true) (h5 : place ≠ 0) :
 Calls Tryz.prog 31 #[.agg #[.int .i64 f0, .int .i64 f1, .int .i64 qk, .int .i64 life, .int .i64 num, .int .i64 qplace, .string key, .string to_, .slice A8 val.length c8, .int .i64 lim, .int .i64 place, .slice A11 n11 c11]] w fun e w' => e = .returned (.bool true) ∧ Below w.heap.size w w' := by
 have HAL := am_ (fun (W1 : World) (hW1 : Below w.heap.size w W1) => script_alike.calls qk life num qplace key to_ A8 c8 val lim 0 0 0 0 ⟨#[]⟩ ⟨#[]⟩ none 0 [] 0 true W1 (Kd.C_below hval hW1) hc8 (nilC _ W1) (Nat.le_refl _) ((alike_f (⟨qk, ⟨life, num⟩, qplace, key, to_, val, lim⟩ : S49) z49).trans (by rw [h4])))
 have e0 : ((w.alloc (.cells #[.int .i64 f0, .int .i64 f1, .int .i64 qk, .int .i64 life, .int .i64 num, .int .i64 qplace, .string key, .string to_, .slice A8 val.length c8, .int .i64 lim, .int .i64 place, .slice A11 n11 c11] 52)).alloc (.cells #[.int .i64 qk, .int .i64 life, .int .i64 num, .int .i64 qplace, .string key, .string to_, .slice A8 val.length c8, .int .i64 lim] 49)).cell? ⟨w.heap.size, 0, none⟩ = some (.int .i64 f0) := wld.cellA (wld.cell_of (wld.alloc_same w _) rfl) _
 have e10 : ((w.alloc (.cells #[.int .i64 f0, .int .i64 f1, .int .i64 qk, .int .i64 life, .int .i64 num, .int .i64 qplace, .string key, .string to_, .slice A8 val.length c8, .int .i64 lim, .int .i64 place, .slice A11 n11 c11] 52)).alloc (.cells #[.int .i64 qk, .int .i64 life, .int .i64 num, .int .i64 qplace, .string key, .string to_, .slice A8 val.length c8, .int .i64 lim] 49)).cell? ⟨w.heap.size, 10, none⟩ = some (.int .i64 place) := wld.cellA (wld.cell_of (wld.alloc_same w _) rfl) _
 have HE := am_ (And.intro e0 e10)
 clear hval hc8 e0 e10
 clear h4
 subst h2
 subst h1
 have g5 : (place == 0) = false := by simpa using h5
 go_enter Tryz.func31, Tryz.ntmps31
 go_wp2_with (go_at_call 57; refine (HAL.out _ (b1_ (b1_ (Below.refl _ _) _) _)).mono ?_; rintro e w1 ⟨rfl, hbx⟩; have k0 := (hbx.cell (p := ⟨w.heap.size, 0, none⟩) (by simp; omega)).trans HE.out.1; have k10 := (hbx.cell (p := ⟨w.heap.size, 10, none⟩) (by simp; omega)).trans HE.out.2; have HBX := am_ hbx; clear hbx)
 go_ret
 refine ⟨rfl, ?_⟩
 exact (b1_ (b1_ (Below.refl _ _) _) _).trans (HBX.out.mono (by simp; omega))
theorem may_j4 (f0 f1 qk life num qplace : Int) (key to_ : ByteArray) (A8 : Option Addr) (val : List Int) (c8 : Nat) (lim place : Int) (A11 : Option Addr) (n11 c11 : Nat) (w : World) (h1 : f0 = 4) (h2 : f1 = 0) (hval : Kd.C (Kd.int .u8) w A8 val.length val) (hc8 : val.length ≤ c8) (h4 : alikeB (⟨qk, ⟨life, num⟩, qplace, key, to_, val, lim⟩ : S49) z49 = true) (h5 : place ≠ 0) :
 Calls Tryz.prog 31 #[.agg #[.int .i64 f0, .int .i64 f1, .int .i64 qk, .int .i64 life, .int .i64 num, .int .i64 qplace, .string key, .string to_, .slice A8 val.length c8, .int .i64 lim, .int .i64 place, .slice A11 n11 c11]] w fun e w' => e = .returned (.bool true) ∧ Below w.heap.size w w' := by
 have HAL := am_ (fun (W1 : World) (hW1 : Below w.heap.size w W1) => script_alike.calls qk life num qplace key to_ A8 c8 val lim 0 0 0 0 ⟨#[]⟩ ⟨#[]⟩ none 0 [] 0 true W1 (Kd.C_below hval hW1) hc8 (nilC _ W1) (Nat.le_refl _) ((alike_f (⟨qk, ⟨life, num⟩, qplace, key, to_, val, lim⟩ : S49) z49).trans (by rw [h4])))
 have e0 : ((w.alloc (.cells #[.int .i64 f0, .int .i64 f1, .int .i64 qk, .int .i64 life, .int .i64 num, .int .i64 qplace, .string key, .string to_, .slice A8 val.length c8, .int .i64 lim, .int .i64 place, .slice A11 n11 c11] 52)).alloc (.cells #[.int .i64 qk, .int .i64 life, .int .i64 num, .int .i64 qplace, .string key, .string to_, .slice A8 val.length c8, .int .i64 lim] 49)).cell? ⟨w.heap.size, 0, none⟩ = some (.int .i64 f0) := wld.cellA (wld.cell_of (wld.alloc_same w _) rfl) _
 have e10 : ((w.alloc (.cells #[.int .i64 f0, .int .i64 f1, .int .i64 qk, .int .i64 life, .int .i64 num, .int .i64 qplace, .string key, .string to_, .slice A8 val.length c8, .int .i64 lim, .int .i64 place, .slice A11 n11 c11] 52)).alloc (.cells #[.int .i64 qk, .int .i64 life, .int .i64 num, .int .i64 qplace, .string key, .string to_, .slice A8 val.length c8, .int .i64 lim] 49)).cell? ⟨w.heap.size, 10, none⟩ = some (.int .i64 place) := wld.cellA (wld.cell_of (wld.alloc_same w _) rfl) _
 have HE := am_ (And.intro e0 e10)
 clear hval hc8 e0 e10
 clear h4
 subst h2
 subst h1
 have g5 : (place == 0) = false := by simpa using h5
 go_enter Tryz.func31, Tryz.ntmps31
 go_wp2_with (go_at_call 57; refine (HAL.out _ (b1_ (b1_ (Below.refl _ _) _) _)).mono ?_; rintro e w1 ⟨rfl, hbx⟩; have k0 := (hbx.cell (p := ⟨w.heap.size, 0, none⟩) (by simp; omega)).trans HE.out.1; have k10 := (hbx.cell (p := ⟨w.heap.size, 10, none⟩) (by simp; omega)).trans HE.out.2; have HBX := am_ hbx; clear hbx)
 go_ret
 refine ⟨rfl, ?_⟩
 exact (b1_ (b1_ (Below.refl _ _) _) _).trans (HBX.out.mono (by simp; omega))
theorem may_jn (f0 f1 qk life num qplace : Int) (key to_ : ByteArray) (A8 : Option Addr) (val : List Int) (c8 : Nat) (lim place : Int) (A11 : Option Addr) (n11 c11 : Nat) (w : World) (h1 : 2 ≤ f0 ∧ f0 ≤ 5) (h2 : f1 = 0) (hval : Kd.C (Kd.int .u8) w A8 val.length val) (hc8 : val.length ≤ c8) (h4 : alikeB (⟨qk, ⟨life, num⟩, qplace, key, to_, val, lim⟩ : S49) z49 = true) (h5 : place ≠ 0) (h6 : f0 ≠ 3) (h7 : f0 ≠ 4) :
 Calls Tryz.prog 31 #[.agg #[.int .i64 f0, .int .i64 f1, .int .i64 qk, .int .i64 life, .int .i64 num, .int .i64 qplace, .string key, .string to_, .slice A8 val.length c8, .int .i64 lim, .int .i64 place, .slice A11 n11 c11]] w fun e w' => e = .returned (.bool false) ∧ Below w.heap.size w w' := by
 have HAL := am_ (fun (W1 : World) (hW1 : Below w.heap.size w W1) => script_alike.calls qk life num qplace key to_ A8 c8 val lim 0 0 0 0 ⟨#[]⟩ ⟨#[]⟩ none 0 [] 0 true W1 (Kd.C_below hval hW1) hc8 (nilC _ W1) (Nat.le_refl _) ((alike_f (⟨qk, ⟨life, num⟩, qplace, key, to_, val, lim⟩ : S49) z49).trans (by rw [h4])))
 have e0 : ((w.alloc (.cells #[.int .i64 f0, .int .i64 f1, .int .i64 qk, .int .i64 life, .int .i64 num, .int .i64 qplace, .string key, .string to_, .slice A8 val.length c8, .int .i64 lim, .int .i64 place, .slice A11 n11 c11] 52)).alloc (.cells #[.int .i64 qk, .int .i64 life, .int .i64 num, .int .i64 qplace, .string key, .string to_, .slice A8 val.length c8, .int .i64 lim] 49)).cell? ⟨w.heap.size, 0, none⟩ = some (.int .i64 f0) := wld.cellA (wld.cell_of (wld.alloc_same w _) rfl) _
 have e10 : ((w.alloc (.cells #[.int .i64 f0, .int .i64 f1, .int .i64 qk, .int .i64 life, .int .i64 num, .int .i64 qplace, .string key, .string to_, .slice A8 val.length c8, .int .i64 lim, .int .i64 place, .slice A11 n11 c11] 52)).alloc (.cells #[.int .i64 qk, .int .i64 life, .int .i64 num, .int .i64 qplace, .string key, .string to_, .slice A8 val.length c8, .int .i64 lim] 49)).cell? ⟨w.heap.size, 10, none⟩ = some (.int .i64 place) := wld.cellA (wld.cell_of (wld.alloc_same w _) rfl) _
 have HE := am_ (And.intro e0 e10)
 clear hval hc8 e0 e10
 clear h4
 subst h2
 have g0 : (f0 == 1) = false := by simp; omega
 have g1 : decide (f0 < 1) = false := by simp; omega
 have g2 : decide (5 < f0) = false := by simp; omega
 have g5 : (place == 0) = false := by simpa using h5
 have g6 : (f0 == 3) = false := by simpa using h6
 have g7 : (f0 == 4) = false := by simpa using h7
 clear h1
 go_enter Tryz.func31, Tryz.ntmps31
 go_wp2_with (go_at_call 57; refine (HAL.out _ (b1_ (b1_ (Below.refl _ _) _) _)).mono ?_; rintro e w1 ⟨rfl, hbx⟩; have k0 := (hbx.cell (p := ⟨w.heap.size, 0, none⟩) (by simp; omega)).trans HE.out.1; have k10 := (hbx.cell (p := ⟨w.heap.size, 10, none⟩) (by simp; omega)).trans HE.out.2; have HBX := am_ hbx; clear hbx)
 go_ret
 refine ⟨rfl, ?_⟩
 exact (b1_ (b1_ (Below.refl _ _) _) _).trans (HBX.out.mono (by simp; omega))
theorem counting1 (life num place : Int) (key to_ : ByteArray) (A : Option Addr) (n c : Nat) (lim : Int) (w : World) :
 Calls Tryz.prog 58 #[.agg #[.int .i64 1, .int .i64 life, .int .i64 num, .int .i64 place, .string key, .string to_, .slice A n c, .int .i64 lim]] w fun e w' =>
  e = .returned (.agg #[.int .i64 1, .int .i64 0, .int .i64 0, .int .i64 0, .string ⟨#[]⟩, .string ⟨#[]⟩, .slice none 0 0, .int .i64 0]) ∧ Below w.heap.size w w' := by
 go_enter Tryz.func58, Tryz.ntmps58
 go_wp2
 refine bodyPost_ret (v := .agg #[.int .i64 1, .int .i64 0, .int .i64 0, .int .i64 0, .string ⟨#[]⟩, .string ⟨#[]⟩, .slice none 0 0, .int .i64 0]) (by simp [results, Tryz.results58, go_sem]) rfl ⟨rfl, ?_⟩
 repeat (first | exact Below.refl _ _ | refine b3_ ?_ | refine b1_ ?_ _)
theorem counting2 (life num place : Int) (key to_ : ByteArray) (A : Option Addr) (n c : Nat) (lim : Int) (w : World) :
 Calls Tryz.prog 58 #[.agg #[.int .i64 2, .int .i64 life, .int .i64 num, .int .i64 place, .string key, .string to_, .slice A n c, .int .i64 lim]] w fun e w' =>
  e = .returned (.agg #[.int .i64 2, .int .i64 life, .int .i64 num, .int .i64 place, .string key, .string ⟨#[]⟩, .slice none 0 0, .int .i64 0]) ∧ Below w.heap.size w w' := by
 go_enter Tryz.func58, Tryz.ntmps58
 go_wp2
 go_region
 all_goals go_wp2
 refine bodyPost_ret (v := .agg #[.int .i64 2, .int .i64 life, .int .i64 num, .int .i64 place, .string key, .string ⟨#[]⟩, .slice none 0 0, .int .i64 0]) (by simp [results, Tryz.results58, go_sem]) rfl ⟨rfl, ?_⟩
 repeat (first | exact Below.refl _ _ | refine b3_ ?_ | refine b1_ ?_ _)
theorem counting3 (life num place : Int) (key to_ : ByteArray) (A : Option Addr) (n c : Nat) (lim : Int) (w : World) :
 Calls Tryz.prog 58 #[.agg #[.int .i64 3, .int .i64 life, .int .i64 num, .int .i64 place, .string key, .string to_, .slice A n c, .int .i64 lim]] w fun e w' =>
  e = .returned (.agg #[.int .i64 3, .int .i64 life, .int .i64 num, .int .i64 place, .string key, .string to_, .slice none 0 0, .int .i64 lim]) ∧ Below w.heap.size w w' := by
 go_enter Tryz.func58, Tryz.ntmps58
 go_wp2
 go_region
 all_goals go_wp2
 all_goals go_region
 all_goals go_wp2
 refine bodyPost_ret (v := .agg #[.int .i64 3, .int .i64 life, .int .i64 num, .int .i64 place, .string key, .string to_, .slice none 0 0, .int .i64 lim]) (by simp [results, Tryz.results58, go_sem]) rfl ⟨rfl, ?_⟩
 repeat (first | exact Below.refl _ _ | refine b3_ ?_ | refine b1_ ?_ _)
theorem counting4 (life num place : Int) (key to_ : ByteArray) (A : Option Addr) (n c : Nat) (lim : Int) (w : World) :
 Calls Tryz.prog 58 #[.agg #[.int .i64 4, .int .i64 life, .int .i64 num, .int .i64 place, .string key, .string to_, .slice A n c, .int .i64 lim]] w fun e w' =>
  e = .returned (.agg #[.int .i64 4, .int .i64 life, .int .i64 num, .int .i64 place, .string key, .string ⟨#[]⟩, .slice A n c, .int .i64 0]) ∧ Below w.heap.size w w' := by
 go_enter Tryz.func58, Tryz.ntmps58
 go_wp2
 go_region
 all_goals go_wp2
 refine bodyPost_ret (v := .agg #[.int .i64 4, .int .i64 life, .int .i64 num, .int .i64 place, .string key, .string ⟨#[]⟩, .slice A n c, .int .i64 0]) (by simp [results, Tryz.results58, go_sem]) rfl ⟨rfl, ?_⟩
 repeat (first | exact Below.refl _ _ | refine b3_ ?_ | refine b1_ ?_ _)
theorem counting5 (life num place : Int) (key to_ : ByteArray) (A : Option Addr) (n c : Nat) (lim : Int) (w : World) :
 Calls Tryz.prog 58 #[.agg #[.int .i64 5, .int .i64 life, .int .i64 num, .int .i64 place, .string key, .string to_, .slice A n c, .int .i64 lim]] w fun e w' =>
  e = .returned (.agg #[.int .i64 5, .int .i64 life, .int .i64 num, .int .i64 place, .string key, .string ⟨#[]⟩, .slice none 0 0, .int .i64 0]) ∧ Below w.heap.size w w' := by
 go_enter Tryz.func58, Tryz.ntmps58
 go_wp2
 go_region
 all_goals go_wp2
 refine bodyPost_ret (v := .agg #[.int .i64 5, .int .i64 life, .int .i64 num, .int .i64 place, .string key, .string ⟨#[]⟩, .slice none 0 0, .int .i64 0]) (by simp [results, Tryz.results58, go_sem]) rfl ⟨rfl, ?_⟩
 repeat (first | exact Below.refl _ _ | refine b3_ ?_ | refine b1_ ?_ _)
theorem counting6 (life num place : Int) (key to_ : ByteArray) (A : Option Addr) (n c : Nat) (lim : Int) (w : World) :
 Calls Tryz.prog 58 #[.agg #[.int .i64 6, .int .i64 life, .int .i64 num, .int .i64 place, .string key, .string to_, .slice A n c, .int .i64 lim]] w fun e w' =>
  e = .returned (.agg #[.int .i64 6, .int .i64 life, .int .i64 num, .int .i64 0, .string ⟨#[]⟩, .string ⟨#[]⟩, .slice none 0 0, .int .i64 0]) ∧ Below w.heap.size w w' := by
 go_enter Tryz.func58, Tryz.ntmps58
 go_wp2
 refine bodyPost_ret (v := .agg #[.int .i64 6, .int .i64 life, .int .i64 num, .int .i64 0, .string ⟨#[]⟩, .string ⟨#[]⟩, .slice none 0 0, .int .i64 0]) (by simp [results, Tryz.results58, go_sem]) rfl ⟨rfl, ?_⟩
 repeat (first | exact Below.refl _ _ | refine b3_ ?_ | refine b1_ ?_ _)
theorem counting7 (life num place : Int) (key to_ : ByteArray) (A : Option Addr) (n c : Nat) (lim : Int) (w : World) :
 Calls Tryz.prog 58 #[.agg #[.int .i64 7, .int .i64 life, .int .i64 num, .int .i64 place, .string key, .string to_, .slice A n c, .int .i64 lim]] w fun e w' =>
  e = .returned (.agg #[.int .i64 7, .int .i64 life, .int .i64 num, .int .i64 0, .string ⟨#[]⟩, .string ⟨#[]⟩, .slice none 0 0, .int .i64 0]) ∧ Below w.heap.size w w' := by
 go_enter Tryz.func58, Tryz.ntmps58
 go_wp2
 refine bodyPost_ret (v := .agg #[.int .i64 7, .int .i64 life, .int .i64 num, .int .i64 0, .string ⟨#[]⟩, .string ⟨#[]⟩, .slice none 0 0, .int .i64 0]) (by simp [results, Tryz.results58, go_sem]) rfl ⟨rfl, ?_⟩
 repeat (first | exact Below.refl _ _ | refine b3_ ?_ | refine b1_ ?_ _)
theorem may_e (kk f1 life num qplace : Int) (key to_ : ByteArray) (A8 : Option Addr) (vn c8 : Nat) (lim : Int) (A11 : Option Addr) (c11 : Nat) (w : World) (cl cn cp : Int) (ck ct : ByteArray) (cA : Option Addr) (cv cc : Nat) (cm : Int) (r : Bool) (hk : 1 ≤ kk ∧ kk ≤ 7)
 (hcn : ∀ W : World, Calls Tryz.prog 58 #[.agg #[.int .i64 kk, .int .i64 life, .int .i64 num, .int .i64 qplace, .string key, .string to_, .slice A8 vn c8, .int .i64 lim]] W fun e w' => e = .returned (.agg #[.int .i64 kk, .int .i64 cl, .int .i64 cn, .int .i64 cp, .string ck, .string ct, .slice cA cv cc, .int .i64 cm]) ∧ Below W.heap.size W w')
 (hal : ∀ W : World, Below w.heap.size w W → Calls Tryz.prog 57 #[.agg #[.int .i64 kk, .int .i64 life, .int .i64 num, .int .i64 qplace, .string key, .string to_, .slice A8 vn c8, .int .i64 lim], .agg #[.int .i64 kk, .int .i64 cl, .int .i64 cn, .int .i64 cp, .string ck, .string ct, .slice cA cv cc, .int .i64 cm]] W fun e w' => e = .returned (.bool r) ∧ Below W.heap.size W w') :
 Calls Tryz.prog 31 #[.agg #[.int .i64 1, .int .i64 f1, .int .i64 kk, .int .i64 life, .int .i64 num, .int .i64 qplace, .string key, .string to_, .slice A8 vn c8, .int .i64 lim, .int .i64 0, .slice A11 0 c11]] w fun e w' => e = .returned (.bool r) ∧ Below w.heap.size w w' := by
 have HAL := am_ hal
 have HCN := am_ hcn
 clear hal hcn
 have g1 : decide ((1 : Int) ≤ kk) = true := by simp; omega
 have g2 : decide (kk ≤ 7) = true := by simp; omega
 clear hk
 have H1 := am_ ((wld.alloc_other (by simp) _).trans (wld.alloc_same w (.cells #[.int .i64 1, .int .i64 f1, .int .i64 kk, .int .i64 life, .int .i64 num, .int .i64 qplace, .string key, .string to_, .slice A8 vn c8, .int .i64 lim, .int .i64 0, .slice A11 0 c11] 52)) : ((w.alloc (.cells #[.int .i64 1, .int .i64 f1, .int .i64 kk, .int .i64 life, .int .i64 num, .int .i64 qplace, .string key, .string to_, .slice A8 vn c8, .int .i64 lim, .int .i64 0, .slice A11 0 c11] 52)).alloc (.cells #[.int .i64 kk, .int .i64 life, .int .i64 num, .int .i64 qplace, .string key, .string to_, .slice A8 vn c8, .int .i64 lim] 49)).heap[w.heap.size]? = some (.cells #[.int .i64 1, .int .i64 f1, .int .i64 kk, .int .i64 life, .int .i64 num, .int .i64 qplace, .string key, .string to_, .slice A8 vn c8, .int .i64 lim, .int .i64 0, .slice A11 0 c11] 52))
 have H2 := am_ (by have h := wld.alloc_same (w.alloc (.cells #[.int .i64 1, .int .i64 f1, .int .i64 kk, .int .i64 life, .int .i64 num, .int .i64 qplace, .string key, .string to_, .slice A8 vn c8, .int .i64 lim, .int .i64 0, .slice A11 0 c11] 52)) (.cells #[.int .i64 kk, .int .i64 life, .int .i64 num, .int .i64 qplace, .string key, .string to_, .slice A8 vn c8, .int .i64 lim] 49); rw [World.size_alloc] at h; exact h : ((w.alloc (.cells #[.int .i64 1, .int .i64 f1, .int .i64 kk, .int .i64 life, .int .i64 num, .int .i64 qplace, .string key, .string to_, .slice A8 vn c8, .int .i64 lim, .int .i64 0, .slice A11 0 c11] 52)).alloc (.cells #[.int .i64 kk, .int .i64 life, .int .i64 num, .int .i64 qplace, .string key, .string to_, .slice A8 vn c8, .int .i64 lim] 49)).heap[w.heap.size + 1]? = some (.cells #[.int .i64 kk, .int .i64 life, .int .i64 num, .int .i64 qplace, .string key, .string to_, .slice A8 vn c8, .int .i64 lim] 49))
 have HB := am_ (b1_ (b1_ (Below.refl w.heap.size w) (.cells #[.int .i64 1, .int .i64 f1, .int .i64 kk, .int .i64 life, .int .i64 num, .int .i64 qplace, .string key, .string to_, .slice A8 vn c8, .int .i64 lim, .int .i64 0, .slice A11 0 c11] 52)) (.cells #[.int .i64 kk, .int .i64 life, .int .i64 num, .int .i64 qplace, .string key, .string to_, .slice A8 vn c8, .int .i64 lim] 49))
 go_enter Tryz.func31, Tryz.ntmps31
 go_wp2
 generalize (w.alloc _).alloc _ = wx at H1 H2 HB ⊢
 obtain ⟨b1, hb1⟩ : ∃ b1, b1 = w.heap.size := ⟨_, rfl⟩
 obtain ⟨b2, hb2⟩ : ∃ b2, b2 = w.heap.size + 1 := ⟨_, rfl⟩
 rw [← hb2] at H2 ⊢
 rw [← hb1] at H1 ⊢
 clear hb2
 have HB1 := am_ hb1
 clear hb1
 refine start_ (n := 26) (S := fun w' => w'.cell? ⟨b1, 10, none⟩ = some (.int .i64 0) ∧ w'.cell? ⟨b1, 11, none⟩ = some (.slice A11 0 c11) ∧ w'.cell? ⟨b2, 0, none⟩ = some (.int .i64 kk) ∧ w'.cell? ⟨b2, 1, none⟩ = some (.int .i64 life) ∧ w'.cell? ⟨b2, 2, none⟩ = some (.int .i64 num) ∧ w'.cell? ⟨b2, 3, none⟩ = some (.int .i64 qplace) ∧ w'.cell? ⟨b2, 4, none⟩ = some (.string key) ∧ w'.cell? ⟨b2, 5, none⟩ = some (.string to_) ∧ w'.cell? ⟨b2, 6, none⟩ = some (.slice A8 vn c8) ∧ w'.cell? ⟨b2, 7, none⟩ = some (.int .i64 lim)) (ds := []) #[false, false, false, false, false, false, false, false, false, false, false, false, false, false, false, false, false, false, false, false, false, false, false, false, false, false] (by kernel_rfl) rfl rfl ⟨(blk_cell H1.out 10).trans rfl, (blk_cell H1.out 11).trans rfl, c8_ H2.out⟩ (fun hHeld => ?_)
 replace H1 := am_ (show wx.drew.heap[b1]? = _ from H1.out); replace H2 := am_ (show wx.drew.heap[b2]? = _ from H2.out); replace HB := am_ (b3_ HB.out); generalize wx.drew = w1 at H1 H2 HB hHeld ⊢
 refine pu_ 0 9 (bs_ 26 1) rfl rfl (by kernel_rfl) rfl (by intro w'; go_simp; with_reducible rfl) (by simp only [Act.put, aS, aZ, aC, i64_w, i32_w]; rfl) (fun _ _ _ h => h) ?_
 refine ta_ 1 10 (bs_ 26 3) rfl rfl (by kernel_rfl) rfl (by rintro w' ⟨s0, s1, s2, s3, s4, s5, s6, s7, s8, s9⟩; go_simp; with_reducible rfl) hHeld (by simp only [Act.put, aS, aZ, aC, i64_w, i32_w]; rfl) (fun _ _ _ h => h) ?_
 refine pu_ 2 11 (bs_ 26 7) rfl rfl (by kernel_rfl) rfl (by intro w'; go_simp; with_reducible rfl) (by simp only [Act.put, aS, aZ, aC, i64_w, i32_w]; rfl) (fun _ _ _ h => h) ?_
 refine pu_ 3 12 (bs_ 26 15) rfl rfl (by kernel_rfl) rfl (by intro w'; go_simp; with_reducible rfl) (by simp only [Act.put, aS, aZ, aC, i64_w, i32_w]; rfl) (fun _ _ _ h => h) ?_
 refine pu_ 4 13 (bs_ 26 31) rfl rfl (by kernel_rfl) rfl (by intro w'; go_simp; with_reducible rfl) (by simp only [Act.put, aS, aZ, aC, i64_w, i32_w]; rfl) (fun _ _ _ h => h) ?_
 refine ta_ 5 14 (bs_ 26 63) rfl rfl (by kernel_rfl) rfl (by rintro w' ⟨s0, s1, s2, s3, s4, s5, s6, s7, s8, s9⟩; go_simp; with_reducible rfl) hHeld (by simp only [Act.put, aS, aZ, aC, i64_w, i32_w]; rfl) (fun _ _ _ h => h) ?_
 refine pu_ 6 15 (bs_ 26 127) rfl rfl (by kernel_rfl) rfl (by intro w'; go_simp; with_reducible rfl) (by simp only [Act.put, aS, aZ, aC, i64_w, i32_w]; rfl) (fun _ _ _ h => h) ?_
 refine pu_ 7 16 (bs_ 26 255) rfl rfl (by kernel_rfl) rfl (by intro w'; go_simp; with_reducible rfl) (by simp only [Act.put, aS, aZ, aC, i64_w, i32_w]; rfl) (fun _ _ _ h => h) ?_
 refine pu_ 8 17 (bs_ 26 511) rfl rfl (by kernel_rfl) rfl (by intro w'; go_simp; with_reducible rfl) (by simp only [Act.put, aS, aZ, aC, i64_w, i32_w]; rfl) (fun _ _ _ h => h) ?_
 refine pu_ 9 18 (bs_ 26 1023) rfl rfl (by kernel_rfl) rfl (by intro w'; go_simp; with_reducible rfl) (by simp only [Act.put, aS, aZ, aC, i64_w, i32_w]; rfl) (fun _ _ _ h => h) ?_
 refine ta_ 10 19 (bs_ 26 2047) rfl rfl (by kernel_rfl) rfl (by rintro w' ⟨s0, s1, s2, s3, s4, s5, s6, s7, s8, s9⟩; go_simp; with_reducible rfl) hHeld (by simp only [Act.put, aS, aZ, aC, i64_w, i32_w]; rfl) (fun _ _ _ h => h) ?_
 refine pu_ 11 20 (bs_ 26 4095) rfl rfl (by kernel_rfl) rfl (by intro w'; go_simp; with_reducible rfl) (by simp only [Act.put, aS, aZ, aC, i64_w, i32_w]; rfl) (fun _ _ _ h => h) ?_
 refine pu_ 12 21 (bs_ 26 8191) rfl rfl (by kernel_rfl) rfl (by intro w'; go_simp; with_reducible rfl) (by simp only [Act.put, aS, aZ, aC, i64_w, i32_w]; rfl) (fun _ _ _ h => h) ?_
 refine pu_ 13 22 (bs_ 26 16383) rfl rfl (by kernel_rfl) rfl (by intro w'; go_simp; with_reducible rfl) (by simp only [Act.put, aS, aZ, aC, i64_w, i32_w]; rfl) (fun _ _ _ h => h) ?_
 refine pu_ 14 23 (bs_ 26 32767) rfl rfl (by kernel_rfl) rfl (by intro w'; go_simp; with_reducible rfl) (by simp only [Act.put, aS, aZ, aC, i64_w, i32_w]; rfl) (fun _ _ _ h => h) ?_
 refine ta_ 15 24 (bs_ 26 65535) rfl rfl (by kernel_rfl) rfl (by rintro w' ⟨s0, s1, s2, s3, s4, s5, s6, s7, s8, s9⟩; go_simp; with_reducible rfl) hHeld (by simp only [Act.put, aS, aZ, aC, i64_w, i32_w]; rfl) (fun _ _ _ h => h) ?_
 refine pu_ 16 25 (bs_ 26 131071) rfl rfl (by kernel_rfl) rfl (by intro w'; go_simp; with_reducible rfl) (by simp only [Act.put, aS, aZ, aC, i64_w, i32_w]; rfl) (fun _ _ _ h => h) ?_
 refine pu_ 17 26 (bs_ 26 262143) rfl rfl (by kernel_rfl) rfl (by intro w'; go_simp; with_reducible rfl) (by simp only [Act.put, aS, aZ, aC, i64_w, i32_w]; rfl) (fun _ _ _ h => h) ?_
 refine pu_ 18 27 (bs_ 26 524287) rfl rfl (by kernel_rfl) rfl (by intro w'; go_simp; with_reducible rfl) (by simp only [Act.put, aS, aZ, aC, i64_w, i32_w]; rfl) (fun _ _ _ h => h) ?_
 refine pu_ 19 28 (bs_ 26 1048575) rfl rfl (by kernel_rfl) rfl (by intro w'; go_simp; with_reducible rfl) (by simp only [Act.put, aS, aZ, aC, i64_w, i32_w]; rfl) (fun _ _ _ h => h) ?_
 refine ta_ 20 29 (bs_ 26 2097151) rfl rfl (by kernel_rfl) rfl (by rintro w' ⟨s0, s1, s2, s3, s4, s5, s6, s7, s8, s9⟩; go_simp; with_reducible rfl) hHeld (by simp only [Act.put, aS, aZ, aC, i64_w, i32_w]; rfl) (fun _ _ _ h => h) ?_
 refine ta_ 21 30 (bs_ 26 4194303) rfl rfl (by kernel_rfl) rfl (by rintro w' ⟨s0, s1, s2, s3, s4, s5, s6, s7, s8, s9⟩; go_simp; with_reducible rfl) hHeld (by simp only [Act.put, aS, aZ, aC, i64_w, i32_w]; rfl) (fun _ _ _ h => h) ?_
 refine one_ (i := 22) (N := some 31) (bs_ 26 8388607) rfl rfl (by kernel_rfl) (by decide) (fun K hK => ?_)
 refine goes_ Tryz.func58 (by kernel_rfl) rfl #[.agg #[.int .i64 kk, .int .i64 life, .int .i64 num, .int .i64 qplace, .string key, .string to_, .slice A8 vn c8, .int .i64 lim]] (by rfl) rfl rfl (by (try simp only [aT, aK, aL]); first | done | rfl) ?_
 refine (HCN.out _).mono ?_
 rintro e w2 ⟨rfl, hb_⟩
 refine ⟨_, rfl, ?_⟩
 replace H1 := am_ ((hb_.block _ (blk_lt H1.out)).trans H1.out)
 replace H2 := am_ ((hb_.block _ (blk_lt H2.out)).trans H2.out)
 replace HB := am_ (below_step HB.out hb_)
 clear hb_
 refine hK.out _ _ ⟨(blk_cell H1.out 10).trans rfl, (blk_cell H1.out 11).trans rfl, c8_ H2.out⟩ (fun hHeld => ?_)
 clear hK K
 refine no_ (by simp only [Act.put, aS, aZ, aC, i64_w, i32_w]; rfl) ?_
 refine one_ (i := 23) (N := some 32) (bs_ 26 16777215) rfl rfl (by kernel_rfl) (by decide) (fun K hK => ?_)
 refine goes_ Tryz.func57 (by kernel_rfl) rfl #[.agg #[.int .i64 kk, .int .i64 life, .int .i64 num, .int .i64 qplace, .string key, .string to_, .slice A8 vn c8, .int .i64 lim], .agg #[.int .i64 kk, .int .i64 cl, .int .i64 cn, .int .i64 cp, .string ck, .string ct, .slice cA cv cc, .int .i64 cm]] (by rfl) rfl rfl (by (try simp only [aT, aK, aL]); first | done | rfl) ?_
 refine (HAL.out _ HB.out).mono ?_
 rintro e w3 ⟨rfl, hb_⟩
 refine ⟨_, rfl, ?_⟩
 replace H1 := am_ ((hb_.block _ (blk_lt H1.out)).trans H1.out)
 replace H2 := am_ ((hb_.block _ (blk_lt H2.out)).trans H2.out)
 replace HB := am_ (below_step HB.out hb_)
 clear hb_
 refine hK.out _ _ ⟨(blk_cell H1.out 10).trans rfl, (blk_cell H1.out 11).trans rfl, c8_ H2.out⟩ (fun hHeld => ?_)
 clear hK K
 refine no_ (by simp only [Act.put, aS, aZ, aC, i64_w, i32_w]; rfl) ?_
 refine pu_ 24 33 (bs_ 26 33554431) rfl rfl (by kernel_rfl) rfl (by intro w'; go_simp; with_reducible rfl) (by simp only [Act.put, aS, aZ, aC, i64_w, i32_w]; rfl) (fun _ _ _ h => h) ?_
 refine pu_ 25 2 (bs_ 26 67108863) rfl rfl (by kernel_rfl) rfl (by intro w'; go_simp; with_reducible rfl) (by simp only [Act.put, aS, aZ, aC, i64_w, i32_w]; rfl) (fun _ _ _ h => h) ?_
 refine done_ (by kernel_rfl) ?_
 go_wp2
 go_ret
 exact ⟨rfl, HB.out⟩
theorem may_calls (x : S52) (A8 : Option Addr) (c8 : Nat) (A11 : Option Addr) (c11 : Nat) (w : World) (hval : Kd.C (Kd.int .u8) w A8 x.f2.f5.length x.f2.f5) (hc8 : x.f2.f5.length ≤ c8) :
 Calls Tryz.prog 31 #[.agg #[.int .i64 x.f0, .int .i64 x.f1, .int .i64 x.f2.f0, .int .i64 x.f2.f1.f0, .int .i64 x.f2.f1.f1, .int .i64 x.f2.f2, .string x.f2.f3, .string x.f2.f4, .slice A8 x.f2.f5.length c8, .int .i64 x.f2.f6, .int .i64 x.f3, .slice A11 x.f4.length c11]] w fun e w' => e = .returned (.bool (mayB x)) ∧ Below w.heap.size w w' := by
 obtain ⟨f0, f1, ⟨qk, ⟨life, num⟩, qplace, key, to_, val, lim⟩, place, l⟩ := x
 simp only at hval hc8 ⊢
 by_cases h0 : f0 = 1
 · by_cases h1 : qk < 1
   · rw [show mayB ⟨f0, f1, ⟨qk, ⟨life, num⟩, qplace, key, to_, val, lim⟩, place, l⟩ = false by unfold mayB; simp only [h0, if_true]; rw [show decide ((1 : Int) ≤ qk ∧ qk ≤ 7) = false by simp; omega]; simp]
     exact may_a f0 f1 qk life num qplace key to_ A8 val c8 lim place A11 l.length c11 w h0 h1
   by_cases h2 : 7 < qk
   · rw [show mayB ⟨f0, f1, ⟨qk, ⟨life, num⟩, qplace, key, to_, val, lim⟩, place, l⟩ = false by unfold mayB; simp only [h0, if_true]; rw [show decide ((1 : Int) ≤ qk ∧ qk ≤ 7) = false by simp; omega]; simp]
     exact may_b f0 f1 qk life num qplace key to_ A8 val c8 lim place A11 l.length c11 w h0 h2
   by_cases h3 : place = 0
   · by_cases h4 : l.length = 0
     · have e : mayB ⟨f0, f1, ⟨qk, ⟨life, num⟩, qplace, key, to_, val, lim⟩, place, l⟩ = alikeB ⟨qk, ⟨life, num⟩, qplace, key, to_, val, lim⟩ (counted ⟨qk, ⟨life, num⟩, qplace, key, to_, val, lim⟩) := by
         unfold mayB
         simp only [h0, if_true]
         rw [show decide ((1 : Int) ≤ qk ∧ qk ≤ 7) = true by simp; omega, show decide (place = 0) = true by simpa using h3, show decide (l.length = 0) = true by simpa using h4]
         simp
       rw [e, h4]
       subst h0 h3
       have : qk = 1 ∨ qk = 2 ∨ qk = 3 ∨ qk = 4 ∨ qk = 5 ∨ qk = 6 ∨ qk = 7 := by omega
       rcases this with rfl | rfl | rfl | rfl | rfl | rfl | rfl
       · exact may_e 1 f1 life num qplace key to_ A8 val.length c8 lim A11 c11 w 0 0 0 ⟨#[]⟩ ⟨#[]⟩ none 0 0 0 _ (by decide) (fun W => counting1 life num qplace key to_ A8 val.length c8 lim W)
           (fun W hW => script_alike.calls 1 life num qplace key to_ A8 c8 val lim 1 0 0 0 ⟨#[]⟩ ⟨#[]⟩ none 0 [] 0 _ W (Kd.C_below hval hW) hc8 (nilC _ W) (Nat.le_refl _) (alike_f ⟨1, ⟨life, num⟩, qplace, key, to_, val, lim⟩ (counted ⟨1, ⟨life, num⟩, qplace, key, to_, val, lim⟩)))
       · exact may_e 2 f1 life num qplace key to_ A8 val.length c8 lim A11 c11 w life num qplace key ⟨#[]⟩ none 0 0 0 _ (by decide) (fun W => counting2 life num qplace key to_ A8 val.length c8 lim W)
           (fun W hW => script_alike.calls 2 life num qplace key to_ A8 c8 val lim 2 life num qplace key ⟨#[]⟩ none 0 [] 0 _ W (Kd.C_below hval hW) hc8 (nilC _ W) (Nat.le_refl _) (alike_f ⟨2, ⟨life, num⟩, qplace, key, to_, val, lim⟩ (counted ⟨2, ⟨life, num⟩, qplace, key, to_, val, lim⟩)))
       · exact may_e 3 f1 life num qplace key to_ A8 val.length c8 lim A11 c11 w life num qplace key to_ none 0 0 lim _ (by decide) (fun W => counting3 life num qplace key to_ A8 val.length c8 lim W)
           (fun W hW => script_alike.calls 3 life num qplace key to_ A8 c8 val lim 3 life num qplace key to_ none 0 [] lim _ W (Kd.C_below hval hW) hc8 (nilC _ W) (Nat.le_refl _) (alike_f ⟨3, ⟨life, num⟩, qplace, key, to_, val, lim⟩ (counted ⟨3, ⟨life, num⟩, qplace, key, to_, val, lim⟩)))
       · exact may_e 4 f1 life num qplace key to_ A8 val.length c8 lim A11 c11 w life num qplace key ⟨#[]⟩ A8 val.length c8 0 _ (by decide) (fun W => counting4 life num qplace key to_ A8 val.length c8 lim W)
           (fun W hW => script_alike.calls 4 life num qplace key to_ A8 c8 val lim 4 life num qplace key ⟨#[]⟩ A8 c8 val 0 _ W (Kd.C_below hval hW) hc8 (Kd.C_below hval hW) hc8 (alike_f ⟨4, ⟨life, num⟩, qplace, key, to_, val, lim⟩ (counted ⟨4, ⟨life, num⟩, qplace, key, to_, val, lim⟩)))
       · exact may_e 5 f1 life num qplace key to_ A8 val.length c8 lim A11 c11 w life num qplace key ⟨#[]⟩ none 0 0 0 _ (by decide) (fun W => counting5 life num qplace key to_ A8 val.length c8 lim W)
           (fun W hW => script_alike.calls 5 life num qplace key to_ A8 c8 val lim 5 life num qplace key ⟨#[]⟩ none 0 [] 0 _ W (Kd.C_below hval hW) hc8 (nilC _ W) (Nat.le_refl _) (alike_f ⟨5, ⟨life, num⟩, qplace, key, to_, val, lim⟩ (counted ⟨5, ⟨life, num⟩, qplace, key, to_, val, lim⟩)))
       · exact may_e 6 f1 life num qplace key to_ A8 val.length c8 lim A11 c11 w life num 0 ⟨#[]⟩ ⟨#[]⟩ none 0 0 0 _ (by decide) (fun W => counting6 life num qplace key to_ A8 val.length c8 lim W)
           (fun W hW => script_alike.calls 6 life num qplace key to_ A8 c8 val lim 6 life num 0 ⟨#[]⟩ ⟨#[]⟩ none 0 [] 0 _ W (Kd.C_below hval hW) hc8 (nilC _ W) (Nat.le_refl _) (alike_f ⟨6, ⟨life, num⟩, qplace, key, to_, val, lim⟩ (counted ⟨6, ⟨life, num⟩, qplace, key, to_, val, lim⟩)))
       exact may_e 7 f1 life num qplace key to_ A8 val.length c8 lim A11 c11 w life num 0 ⟨#[]⟩ ⟨#[]⟩ none 0 0 0 _ (by decide) (fun W => counting7 life num qplace key to_ A8 val.length c8 lim W)
        (fun W hW => script_alike.calls 7 life num qplace key to_ A8 c8 val lim 7 life num 0 ⟨#[]⟩ ⟨#[]⟩ none 0 [] 0 _ W (Kd.C_below hval hW) hc8 (nilC _ W) (Nat.le_refl _) (alike_f ⟨7, ⟨life, num⟩, qplace, key, to_, val, lim⟩ (counted ⟨7, ⟨life, num⟩, qplace, key, to_, val, lim⟩)))
     rw [show mayB ⟨f0, f1, ⟨qk, ⟨life, num⟩, qplace, key, to_, val, lim⟩, place, l⟩ = false by unfold mayB; simp only [h0, if_true]; rw [show decide (l.length = 0) = false by simpa using h4]; simp]
     exact may_d f0 f1 qk life num qplace key to_ A8 val c8 lim place A11 l.length c11 w h0 (by omega) h3 h4
   rw [show mayB ⟨f0, f1, ⟨qk, ⟨life, num⟩, qplace, key, to_, val, lim⟩, place, l⟩ = false by unfold mayB; simp only [h0, if_true]; rw [show decide (place = 0) = false by simpa using h3]; simp]
   exact may_c f0 f1 qk life num qplace key to_ A8 val c8 lim place A11 l.length c11 w h0 (by omega) h3
 have e0 : mayB ⟨f0, f1, ⟨qk, ⟨life, num⟩, qplace, key, to_, val, lim⟩, place, l⟩ = (decide (1 ≤ f0 ∧ f0 ≤ 5) && decide (f1 = 0) && alikeB ⟨qk, ⟨life, num⟩, qplace, key, to_, val, lim⟩ z49 && decide (place = 0 ∨ f0 = 3 ∨ f0 = 4)) := by
  unfold mayB
  simp only [h0, if_false]
 rw [e0]
 by_cases h1 : f0 < 1
 · rw [show decide ((1 : Int) ≤ f0 ∧ f0 ≤ 5) = false by simp; omega]
   exact may_f f0 f1 qk life num qplace key to_ A8 val c8 lim place A11 l.length c11 w h1
 by_cases h2 : 5 < f0
 · rw [show decide ((1 : Int) ≤ f0 ∧ f0 ≤ 5) = false by simp; omega]
   exact may_g f0 f1 qk life num qplace key to_ A8 val c8 lim place A11 l.length c11 w h2
 rw [show decide ((1 : Int) ≤ f0 ∧ f0 ≤ 5) = true by simp; omega]
 by_cases h3 : f1 = 0
 · rw [show decide (f1 = 0) = true by simpa using h3]
   by_cases h4 : alikeB ⟨qk, ⟨life, num⟩, qplace, key, to_, val, lim⟩ z49 = true
   · rw [h4]
     by_cases h5 : place = 0
     · rw [show decide (place = 0 ∨ f0 = 3 ∨ f0 = 4) = true by simp [h5]]
       exact may_j0 f0 f1 qk life num qplace key to_ A8 val c8 lim place A11 l.length c11 w (by omega) h3 hval hc8 h4 h5
     by_cases h6 : f0 = 3
     · rw [show decide (place = 0 ∨ f0 = 3 ∨ f0 = 4) = true by simp [h6]]
       exact may_j3 f0 f1 qk life num qplace key to_ A8 val c8 lim place A11 l.length c11 w h6 h3 hval hc8 h4 h5
     by_cases h7 : f0 = 4
     · rw [show decide (place = 0 ∨ f0 = 3 ∨ f0 = 4) = true by simp [h7]]
       exact may_j4 f0 f1 qk life num qplace key to_ A8 val c8 lim place A11 l.length c11 w h7 h3 hval hc8 h4 h5
     rw [show decide (place = 0 ∨ f0 = 3 ∨ f0 = 4) = false by simp [h5, h6, h7]]
     exact may_jn f0 f1 qk life num qplace key to_ A8 val c8 lim place A11 l.length c11 w (by omega) h3 hval hc8 h4 h5 h6 h7
   have h4' : alikeB ⟨qk, ⟨life, num⟩, qplace, key, to_, val, lim⟩ z49 = false := by simpa using h4
   rw [h4']
   exact may_i f0 f1 qk life num qplace key to_ A8 val c8 lim place A11 l.length c11 w (by omega) h3 hval hc8 h4'
 rw [show decide (f1 = 0) = false by simpa using h3]
 exact may_h f0 f1 qk life num qplace key to_ A8 val c8 lim place A11 l.length c11 w (by omega) h3
def utoaB (n : Int) : ByteArray := ⟨(Lib.decDigits n.toNat).toArray⟩
theorem utoa_c (n : Int) (h0 : 0 ≤ n) (h1 : n < 18446744073709551616) (w : World) (hE : sc.Env w) : Calls Tryz.prog 27 #[.int .u64 n, .int .i64 10] w fun e w' => e = .returned (.string (utoaB n)) ∧ Below w.heap.size w w' := by
 have := sc.formatUint_c n.toNat (by omega) w hE
 rwa [Int.toNat_of_nonneg h0] at this
theorem joinTail_len (sep : List UInt8) : ∀ (r : List (List UInt8)), (Lib.joinTail sep r).length = (r.map List.length).sum + r.length * sep.length
 | [] => by simp [Lib.joinTail]
 | x :: r => by
  have ih := joinTail_len sep r
  unfold Lib.joinTail at ih ⊢
  simp only [List.map_cons, List.flatten_cons, List.length_append, List.sum_cons, List.length_cons, ih, Nat.succ_mul]
  omega
theorem joinB_le (ws : List ByteArray) (sep : ByteArray) : (joinB ws sep).size ≤ (ws.map ByteArray.size).sum + ws.length * sep.size := by
 rw [joinB_size]
 cases ws with
 | nil => simp [Lib.join_nil]
 | cons x r =>
  rw [List.map_cons, Lib.join_cons, List.length_append, joinTail_len, List.map_map]
  have e : (List.map (List.length ∘ fun x : ByteArray => x.data.toList) r) = r.map ByteArray.size := List.map_congr_left fun x _ => (Lib.size_eq x).symm
  rw [e, ← Lib.size_eq, ← Lib.size_eq, List.length_map, List.map_cons, List.sum_cons, List.length_cons, Nat.succ_mul]
  omega
theorem decDigits_le (n : Nat) (h : n < 18446744073709551616) : (Lib.decDigits n).length ≤ 21 := by
 have h1 := Lib.decDigits_length n
 have h2 : Lib.nDigits n ≤ 20 := Lib.nDigits_le20 n h
 omega
theorem utoaB_size (n : Int) (h1 : n < 18446744073709551616) : (utoaB n).size ≤ 21 := by
 have := decDigits_le n.toNat (by omega)
 show (Lib.decDigits n.toNat).toArray.size ≤ 21
 simpa using this
def labelW (x : Int) : ByteArray := joinB [⟨#[108, 97, 98, 101, 108]⟩, utoaB x] ⟨#[32]⟩
def accW (a : S70) : ByteArray := joinB [⟨#[97, 99, 99, 111, 117, 110, 116]⟩, itoaB a.f0, itoaB a.f1, itoaB a.f2, itoaB a.f3, itoaB a.f4] ⟨#[32]⟩
def sesW (x : Int) : ByteArray := joinB [⟨#[115, 101, 115, 115, 105, 111, 110]⟩, itoaB x] ⟨#[32]⟩
def evW (x : S52) : ByteArray := joinB (evWords x) ⟨#[32]⟩
def linesP (s : Stt) : List ByteArray := s.1.map labelW ++ s.2.1.map accW ++ s.2.2.1.map sesW ++ s.2.2.2.map evW
def printS (s : Stt) : ByteArray × Int := if s.2.2.2.all mayB then (if (linesP s).length = 0 then (⟨#[]⟩, 0) else if (joinB (linesP s) ⟨#[10]⟩ ++ (⟨#[10]⟩ : ByteArray)).size > 65536 ∨ (linesP s).length > 4096 then (⟨#[]⟩, 3) else (joinB (linesP s) ⟨#[10]⟩ ++ ⟨#[10]⟩, 0)) else (⟨#[]⟩, 261)
def AccOK (a : S70) : Prop := sc.InInt a.f0 ∧ sc.InInt a.f1 ∧ sc.InInt a.f2 ∧ sc.InInt a.f3 ∧ sc.InInt a.f4
structure PrintOK (s : Stt) : Prop where
 lab : ∀ x ∈ s.1, 0 ≤ x ∧ x < 18446744073709551616
 acc : ∀ x ∈ s.2.1, AccOK x
 ses : ∀ x ∈ s.2.2.1, sc.InInt x
 ev : ∀ x ∈ s.2.2.2, EvIn x ∧ (evWords x).length ≤ 4294967296 ∧ (evW x).size ≤ 140737488355328
 cnt : (linesP s).length ≤ 4294967295
 sum : (joinB (linesP s) ⟨#[10]⟩).size ≤ 140737488355328
theorem line_lit (W w : World) (pb : Nat) (lines ws : List ByteArray) (h : PInvE W w pb lines) (hne : ws ≠ []) (hn : ws.length ≤ 100) (hl : lines.length ≤ 4294967296) (hj : (joinB ws ⟨#[32]⟩).size ≤ 140737488355328) (m : Nat) (hm : ws.length = m) :
 Calls Tryz.prog 32 #[.pointer (some ⟨pb, 0, none⟩), .slice (some ⟨w.heap.size, 0, none⟩) m m] (w.alloc (.cells (ws.map Value.string).toArray 9)) fun e w' => e = .returned (.tuple #[]) ∧ PInvE W w' pb (lines ++ [joinB ws ⟨#[32]⟩]) := by
 subst hm
 obtain ⟨A', c', e, h1, h2⟩ := Kd.R_reads (R_strings w ws w.heap.size (Nat.le_refl _) hne (by unfold maxLen; omega))
 injection e with e1 e2 e3
 subst e1
 exact pline_calls W _ pb lines ws _ _ (h.alloc _) h2 (Nat.le_refl _) hl (by omega) hj
theorem may_kind {x : S52} (h : mayB x = true) : (x.f0 = 1 ∧ 1 ≤ x.f2.f0 ∧ x.f2.f0 ≤ 7) ∨ (2 ≤ x.f0 ∧ x.f0 ≤ 5) := by
 unfold mayB at h
 split at h
 · rename_i h0
   simp only [Bool.and_eq_true, decide_eq_true_eq] at h
   exact .inl ⟨h0, h.1.1.1⟩
 rename_i h0
 simp only [Bool.and_eq_true, decide_eq_true_eq] at h
 exact .inr ⟨by have := h.1.1.1; omega, by have := h.1.1.1; omega⟩
theorem cell_lift {W wr : World} (hB : Below W.heap.size W wr) {p : Addr} {v : Value} (h : W.cell? p = some v) : wr.cell? p = some v := (hB.cell (World.block_lt_of_cell? W _ h)).trans h
theorem print_calls (A0 : Option Addr) (c0 : Nat) (l0 : List Int) (A1 : Option Addr) (c1 : Nat) (l1 : List S70) (A2 : Option Addr) (c2 : Nat) (l2 : List Int) (A3 : Option Addr) (c3 : Nat) (evs : List S52) (w : World) (hE : sc.Env w)
 (h0 : Kd.C (Kd.int .u64) w A0 l0.length l0) (h1 : Kd.C k70 w A1 l1.length l1) (h2 : Kd.C (Kd.int .i64) w A2 l2.length l2) (h3 : Kd.C k52 w A3 evs.length evs) (ok : PrintOK (l0, l1, l2, evs)) :
 Calls Tryz.prog 16 #[.agg #[.slice A0 l0.length c0, .slice A1 l1.length c1, .slice A2 l2.length c2], .slice A3 evs.length c3] w fun e w' =>
  e = .returned (.tuple #[.string (printS (l0, l1, l2, evs)).1, .int .i64 (printS (l0, l1, l2, evs)).2]) ∧ Below w.heap.size w w' := by
 obtain ⟨W, hW⟩ : ∃ W, w.alloc (.cells #[.slice A0 l0.length c0, .slice A1 l1.length c1, .slice A2 l2.length c2] 26) = W := ⟨_, rfl⟩
 have hWb := b1_ (Below.refl w.heap.size w) (.cells #[.slice A0 l0.length c0, .slice A1 l1.length c1, .slice A2 l2.length c2] 26)
 have hWx := wld.alloc_same w (.cells #[.slice A0 l0.length c0, .slice A1 l1.length c1, .slice A2 l2.length c2] 26)
 rw [hW] at hWb hWx
 have HWB := am_ hWb
 have HWX := am_ hWx
 have HWE := am_ (hE.below hWb)
 have H0 := am_ (Kd.C_below h0 hWb)
 have H1 := am_ (Kd.C_below h1 hWb)
 have H2 := am_ (Kd.C_below h2 hWb)
 have H3 := am_ (Kd.C_below h3 hWb)
 have OK := am_ ok
 have m0 : l0.length ≤ 9223372036854775807 := h0.2.1
 have m1 : l1.length ≤ 9223372036854775807 := h1.2.1
 have m2 : l2.length ≤ 9223372036854775807 := h2.2.1
 have m3 : evs.length ≤ 9223372036854775807 := h3.2.1
 clear hE h0 h1 h2 h3 ok hWb hWx
 go_enter Tryz.func16, Tryz.ntmps16
 go_wp2
 clear hW
 go_loopw [20] (fun i wr => ∃ k : Nat, k ≤ evs.length ∧ i = .int .i64 k ∧ (∀ x ∈ evs.take k, mayB x = true) ∧ Below W.heap.size W wr) (fun i _ => evs.length - (intOf i).toNat)
 case atStart => exact ⟨0, Nat.zero_le _, rfl, fun x hx => by simp at hx, Below.refl _ _⟩
 case round =>
  obtain ⟨k, hk, rfl, hmay, hbr⟩ := hrel
  have HMAY := am_ hmay
  have hBr := am_ hbr
  clear hmay hbr
  by_cases hlt : k < evs.length
  · obtain ⟨x, hx⟩ : ∃ x, evs[k]? = some x := ⟨evs[k], List.getElem?_eq_getElem hlt⟩
    obtain ⟨bE, oE, cs, hAE, hKE, hcE⟩ := Cat_ H3.out hx (by decide)
    subst hAE
    obtain ⟨A8, c8, A11, c11, rfl, hc8, hval, hc11, hstr⟩ := k52_open hKE
    have q0 : wr.cell? ⟨bE, oE + k * 12, none⟩ = some (.int .i64 x.f0) := cell_lift hBr.out (hcE 0 _ rfl)
    have q1 : wr.cell? ⟨bE, oE + k * 12 + 1, none⟩ = some (.int .i64 x.f1) := cell_lift hBr.out (hcE 1 _ rfl)
    have q2 : wr.cell? ⟨bE, oE + k * 12 + 2, none⟩ = some (.int .i64 x.f2.f0) := cell_lift hBr.out (hcE 2 _ rfl)
    have q3 : wr.cell? ⟨bE, oE + k * 12 + 3, none⟩ = some (.int .i64 x.f2.f1.f0) := cell_lift hBr.out (hcE 3 _ rfl)
    have q4 : wr.cell? ⟨bE, oE + k * 12 + 4, none⟩ = some (.int .i64 x.f2.f1.f1) := cell_lift hBr.out (hcE 4 _ rfl)
    have q5 : wr.cell? ⟨bE, oE + k * 12 + 5, none⟩ = some (.int .i64 x.f2.f2) := cell_lift hBr.out (hcE 5 _ rfl)
    have q6 : wr.cell? ⟨bE, oE + k * 12 + 6, none⟩ = some (.string x.f2.f3) := cell_lift hBr.out (hcE 6 _ rfl)
    have q7 : wr.cell? ⟨bE, oE + k * 12 + 7, none⟩ = some (.string x.f2.f4) := cell_lift hBr.out (hcE 7 _ rfl)
    have q8 : wr.cell? ⟨bE, oE + k * 12 + 8, none⟩ = some (.slice A8 x.f2.f5.length c8) := cell_lift hBr.out (hcE 8 _ rfl)
    have q9 : wr.cell? ⟨bE, oE + k * 12 + 9, none⟩ = some (.int .i64 x.f2.f6) := cell_lift hBr.out (hcE 9 _ rfl)
    have q10 : wr.cell? ⟨bE, oE + k * 12 + 10, none⟩ = some (.int .i64 x.f3) := cell_lift hBr.out (hcE 10 _ rfl)
    have q11 : wr.cell? ⟨bE, oE + k * 12 + 11, none⟩ = some (.slice A11 x.f4.length c11) := cell_lift hBr.out (hcE 11 _ rfl)
    have hxm := List.mem_of_getElem? hx
    have htk : evs.take (k + 1) = evs.take k ++ [x] := by rw [List.take_add_one, hx]; rfl
    have HTK := am_ htk
    have HXM := am_ hxm
    have HMC := am_ (fun (W1 : World) (hb : Below W.heap.size W W1) => may_calls x A8 c8 A11 c11 W1 (Kd.C_below hval hb) hc8)
    clear hxm htk hval hc8 hc11 hstr hcE hKE hx
    go_wp2_with fail
    refine (HMC.out _ (b1_ hBr.out _)).mono ?_
    rintro e w2 ⟨rfl, hb2⟩
    have HB2 := am_ (below_step (b1_ hBr.out _) hb2)
    clear hb2
    cases hm : mayB x with
    | true =>
     have HM := am_ hm
     clear hm
     go_wp2_with fail
     go_roundw
     case rel => exact ⟨k + 1, hlt, by go_num, fun y hy => by rw [HTK.out] at hy; rcases List.mem_append.1 hy with hy | hy; exact HMAY.out y hy; rw [List.mem_singleton.1 hy]; exact HM.out, HB2.out⟩
     case measure => simp [intOf]; omega
    | false =>
     have HM := am_ hm
     clear hm
     go_wp2_with fail
     go_ret2
     have e1 : printS (l0, l1, l2, evs) = (⟨#[]⟩, 261) := by
      unfold printS
      rw [if_neg]
      intro h
      have := List.all_eq_true.1 h x HXM.out
      rw [HM.out] at this
      cases this
     rw [e1]
     exact ⟨rfl, HWB.out.trans (HB2.out.mono HWB.out.size)⟩
  have hkn : k = evs.length := by omega
  subst hkn
  have hall : evs.all mayB = true := List.all_eq_true.2 (fun x hx => HMAY.out x (by rw [List.take_length]; exact hx))
  have HALL := am_ hall
  have hcnt := OK.out.cnt
  simp only [linesP, List.length_append, List.length_map] at hcnt
  have HCNT := am_ hcnt
  have hp0 : PInvE W (wr.alloc (.cells #[.slice none 0 0] 80)) wr.heap.size [] := ⟨_, wld.alloc_same _ _, Kd.R_nil _ _ _ _ _, b1_ hBr.out _, hBr.out.size, HWE.out⟩
  have HP := am_ hp0
  have k_0 := cell_lift hp0.bW (wld.cell_of (o := 0) HWX.out rfl)
  clear hall hcnt hp0 HMAY
  go_wp2_with fail
  clear k_0
  generalize wr.alloc (.cells #[.slice none 0 0] 80) = wp at HP ⊢
  generalize wr.heap.size = pb at HP ⊢
  go_loopw [33] (fun i wl => ∃ k : Nat, k ≤ l0.length ∧ i = .int .i64 k ∧ PInvE W wl pb ((l0.take k).map labelW)) (fun i _ => l0.length - (intOf i).toNat)
  case atStart => exact ⟨0, Nat.zero_le _, rfl, by simpa using HP.out⟩
  case round =>
   obtain ⟨k, hk, rfl, hp_⟩ := hrel
   replace HP := am_ hp_
   clear hp_
   by_cases hlt : k < l0.length
   · obtain ⟨x, hx⟩ : ∃ x, l0[k]? = some x := ⟨l0[k], List.getElem?_eq_getElem hlt⟩
     have hxo := OK.out.lab x (List.mem_of_getElem? hx)
     have htk : l0.take (k + 1) = l0.take k ++ [x] := by rw [List.take_add_one, hx]; rfl
     obtain ⟨bE, oE, cs, hAE, hKE, hcE⟩ := Cat_ H0.out hx (by decide)
     subst hAE
     have hKE' : cs = [.int .u64 x] := hKE
     subst hKE'
     have q0 : wr.cell? ⟨bE, oE + k, none⟩ = some (.int .u64 x) := by
      have h := hcE 0 _ rfl
      rw [show (Kd.int .u64).sz = 1 from rfl, Nat.mul_one, Nat.add_zero] at h
      exact cell_lift HP.out.bW h
     have hu := utoaB_size x hxo.2
     have HJ := am_ (show (joinB [⟨#[108, 97, 98, 101, 108]⟩, utoaB x] ⟨#[32]⟩).size ≤ 140737488355328 from Nat.le_trans (joinB_le _ _) (by simp only [List.map_cons, List.map_nil, List.sum_cons, List.sum_nil, List.length_cons, List.length_nil]; show (5 : Nat) + ((utoaB x).size + 0) + (0 + 1 + 1) * 1 ≤ _; omega))
     have HTK := am_ htk
     have HXO := am_ hxo
     clear hxo htk hcE hKE hx hu
     go_wp2_with fail
     refine (utoa_c x HXO.out.1 HXO.out.2 _ HP.out.env).mono ?_
     rintro e w2 ⟨rfl, hb2⟩
     replace HP := am_ (HP.out.below hb2)
     clear hb2
     go_wp2_with fail
     refine (line_lit W w2 pb _ [⟨#[108, 97, 98, 101, 108]⟩, utoaB x] HP.out (by simp) (by simp) (by simp; have := HCNT.out; omega) HJ.out 2 rfl).mono ?_
     rintro e w3 ⟨rfl, hp3⟩
     have HP3 := am_ hp3
     clear hp3
     go_wp2_with fail
     go_roundw
     case rel => exact ⟨k + 1, hlt, by go_num, by rw [HTK.out, List.map_append]; exact HP3.out⟩
     case measure => simp [intOf]; omega
   have hkn : k = l0.length := by omega
   subst hkn
   rw [List.take_length] at HP
   have k_0 := cell_lift HP.out.bW (wld.cell_of (o := 1) HWX.out rfl)
   go_wp2_with fail
   clear k_0
   go_loopw [46] (fun i wl => ∃ k : Nat, k ≤ l1.length ∧ i = .int .i64 k ∧ PInvE W wl pb (l0.map labelW ++ (l1.take k).map accW)) (fun i _ => l1.length - (intOf i).toNat)
   case atStart => exact ⟨0, Nat.zero_le _, rfl, by simpa using HP.out⟩
   case round =>
    obtain ⟨k, hk, rfl, hp_⟩ := hrel
    replace HP := am_ hp_
    clear hp_
    by_cases hlt : k < l1.length
    · obtain ⟨x, hx⟩ : ∃ x, l1[k]? = some x := ⟨l1[k], List.getElem?_eq_getElem hlt⟩
      have hxo := OK.out.acc x (List.mem_of_getElem? hx)
      have htk : l1.take (k + 1) = l1.take k ++ [x] := by rw [List.take_add_one, hx]; rfl
      obtain ⟨bE, oE, cs, hAE, hKE, hcE⟩ := Cat_ H1.out hx (by decide)
      subst hAE
      obtain rfl := k70_open hKE
      have q0 : wr.cell? ⟨bE, oE + k * 5, none⟩ = some (.int .i64 x.f0) := cell_lift HP.out.bW (hcE 0 _ rfl)
      have q1 : wr.cell? ⟨bE, oE + k * 5 + 1, none⟩ = some (.int .i64 x.f1) := cell_lift HP.out.bW (hcE 1 _ rfl)
      have q2 : wr.cell? ⟨bE, oE + k * 5 + 2, none⟩ = some (.int .i64 x.f2) := cell_lift HP.out.bW (hcE 2 _ rfl)
      have q3 : wr.cell? ⟨bE, oE + k * 5 + 3, none⟩ = some (.int .i64 x.f3) := cell_lift HP.out.bW (hcE 3 _ rfl)
      have q4 : wr.cell? ⟨bE, oE + k * 5 + 4, none⟩ = some (.int .i64 x.f4) := cell_lift HP.out.bW (hcE 4 _ rfl)
      have z0 := itoaB_size x.f0 hxo.1
      have z1 := itoaB_size x.f1 hxo.2.1
      have z2 := itoaB_size x.f2 hxo.2.2.1
      have z3 := itoaB_size x.f3 hxo.2.2.2.1
      have z4 := itoaB_size x.f4 hxo.2.2.2.2
      have HJ := am_ (show (joinB [⟨#[97, 99, 99, 111, 117, 110, 116]⟩, itoaB x.f0, itoaB x.f1, itoaB x.f2, itoaB x.f3, itoaB x.f4] ⟨#[32]⟩).size ≤ 140737488355328 from Nat.le_trans (joinB_le _ _) (by simp only [List.map_cons, List.map_nil, List.sum_cons, List.sum_nil, List.length_cons, List.length_nil]; show (7 : Nat) + ((itoaB x.f0).size + ((itoaB x.f1).size + ((itoaB x.f2).size + ((itoaB x.f3).size + ((itoaB x.f4).size + 0))))) + (0 + 1 + 1 + 1 + 1 + 1 + 1) * 1 ≤ _; omega))
      have HTK := am_ htk
      have HXO := am_ hxo
      clear hxo htk hcE hKE hx z0 z1 z2 z3 z4
      go_wp2_with fail
      have HA := am_ (wld.alloc_same wr (.cells #[.int .i64 x.f0, .int .i64 x.f1, .int .i64 x.f2, .int .i64 x.f3, .int .i64 x.f4] 70))
      replace HP := am_ (HP.out.alloc (.cells #[.int .i64 x.f0, .int .i64 x.f1, .int .i64 x.f2, .int .i64 x.f3, .int .i64 x.f4] 70))
      clear q0 q1 q2 q3 q4
      generalize wr.alloc _ = wb at HP HA ⊢
      generalize wr.heap.size = ab at HA ⊢
      refine start_ (n := 18) (S := fun w' => w'.cell? ⟨ab, 0, none⟩ = some (.int .i64 x.f0) ∧ w'.cell? ⟨ab, 1, none⟩ = some (.int .i64 x.f1) ∧ w'.cell? ⟨ab, 2, none⟩ = some (.int .i64 x.f2) ∧ w'.cell? ⟨ab, 3, none⟩ = some (.int .i64 x.f3) ∧ w'.cell? ⟨ab, 4, none⟩ = some (.int .i64 x.f4)) (ds := [17]) #[false, false, false, false, false, false, false, false, false, false, false, false, false, false, false, false, false, false] (by kernel_rfl) rfl rfl (c5_ HA.out) (fun hHeld => ?_)
      replace HP := am_ HP.out.drew; replace HA := am_ (show wb.drew.heap[ab]? = _ from HA.out); generalize wb.drew = w1 at HP HA hHeld ⊢
      refine pu_ 0 50 (bs_ 18 1) rfl rfl (by kernel_rfl) rfl (by intro w'; go_simp; with_reducible rfl) (by simp only [Act.put, aS, aZ, aC, i64_w, i32_w]; rfl) (fun _ _ _ h => h) ?_
      refine pu_ 1 51 (bs_ 18 3) rfl rfl (by kernel_rfl) rfl (by intro w'; go_simp; with_reducible rfl) (by simp only [Act.put, aS, aZ, aC, i64_w, i32_w]; rfl) (fun _ _ _ h => h) ?_
      refine pu_ 4 54 (bs_ 18 19) rfl rfl (by kernel_rfl) rfl (by intro w'; go_simp; with_reducible rfl) (by simp only [Act.put, aS, aZ, aC, i64_w, i32_w]; rfl) (fun _ _ _ h => h) ?_
      refine pu_ 7 57 (bs_ 18 147) rfl rfl (by kernel_rfl) rfl (by intro w'; go_simp; with_reducible rfl) (by simp only [Act.put, aS, aZ, aC, i64_w, i32_w]; rfl) (fun _ _ _ h => h) ?_
      refine pu_ 10 60 (bs_ 18 1171) rfl rfl (by kernel_rfl) rfl (by intro w'; go_simp; with_reducible rfl) (by simp only [Act.put, aS, aZ, aC, i64_w, i32_w]; rfl) (fun _ _ _ h => h) ?_
      refine pu_ 13 63 (bs_ 18 9363) rfl rfl (by kernel_rfl) rfl (by intro w'; go_simp; with_reducible rfl) (by simp only [Act.put, aS, aZ, aC, i64_w, i32_w]; rfl) (fun _ _ _ h => h) ?_
      refine ta_ 2 52 (bs_ 18 9367) rfl rfl (by kernel_rfl) rfl (by rintro w' ⟨s0, s1, s2, s3, s4⟩; go_simp; with_reducible rfl) hHeld (by simp only [Act.put, aS, aZ, aC, i64_w, i32_w]; rfl) (fun _ _ _ h => h) ?_
      refine ta_ 5 55 (bs_ 18 9399) rfl rfl (by kernel_rfl) rfl (by rintro w' ⟨s0, s1, s2, s3, s4⟩; go_simp; with_reducible rfl) hHeld (by simp only [Act.put, aS, aZ, aC, i64_w, i32_w]; rfl) (fun _ _ _ h => h) ?_
      refine ta_ 8 58 (bs_ 18 9655) rfl rfl (by kernel_rfl) rfl (by rintro w' ⟨s0, s1, s2, s3, s4⟩; go_simp; with_reducible rfl) hHeld (by simp only [Act.put, aS, aZ, aC, i64_w, i32_w]; rfl) (fun _ _ _ h => h) ?_
      refine ta_ 11 61 (bs_ 18 11703) rfl rfl (by kernel_rfl) rfl (by rintro w' ⟨s0, s1, s2, s3, s4⟩; go_simp; with_reducible rfl) hHeld (by simp only [Act.put, aS, aZ, aC, i64_w, i32_w]; rfl) (fun _ _ _ h => h) ?_
      refine ta_ 14 64 (bs_ 18 28087) rfl rfl (by kernel_rfl) rfl (by rintro w' ⟨s0, s1, s2, s3, s4⟩; go_simp; with_reducible rfl) hHeld (by simp only [Act.put, aS, aZ, aC, i64_w, i32_w]; rfl) (fun _ _ _ h => h) ?_
      refine one_ (i := 3) (N := some 53) (bs_ 18 28095) rfl rfl (by kernel_rfl) (by decide) (fun K hK => ?_)
      refine goes_ Tryz.func33 (by kernel_rfl) rfl #[.int .i64 x.f0] (by rfl) rfl rfl (by (try simp only [aT, aK, aL]); first | done | rfl) ?_
      refine (num_c x.f0 HXO.out.1 _ HP.out.env).mono ?_
      rintro e wN1 ⟨rfl, hb_⟩
      refine ⟨_, rfl, ?_⟩
      replace HP := am_ (HP.out.below hb_)
      replace HA := am_ ((hb_.block ab (blk_lt HA.out)).trans HA.out)
      clear hb_
      refine hK.out _ _ (c5_ HA.out) (fun hHeld => ?_)
      clear hK K
      refine no_ (by simp only [Act.put, aS, aZ, aC, i64_w, i32_w]; rfl) ?_
      refine one_ (i := 6) (N := some 56) (bs_ 18 28159) rfl rfl (by kernel_rfl) (by decide) (fun K hK => ?_)
      refine goes_ Tryz.func33 (by kernel_rfl) rfl #[.int .i64 x.f1] (by rfl) rfl rfl (by (try simp only [aT, aK, aL]); first | done | rfl) ?_
      refine (num_c x.f1 HXO.out.2.1 _ HP.out.env).mono ?_
      rintro e wN2 ⟨rfl, hb_⟩
      refine ⟨_, rfl, ?_⟩
      replace HP := am_ (HP.out.below hb_)
      replace HA := am_ ((hb_.block ab (blk_lt HA.out)).trans HA.out)
      clear hb_
      refine hK.out _ _ (c5_ HA.out) (fun hHeld => ?_)
      clear hK K
      refine no_ (by simp only [Act.put, aS, aZ, aC, i64_w, i32_w]; rfl) ?_
      refine one_ (i := 9) (N := some 59) (bs_ 18 28671) rfl rfl (by kernel_rfl) (by decide) (fun K hK => ?_)
      refine goes_ Tryz.func33 (by kernel_rfl) rfl #[.int .i64 x.f2] (by rfl) rfl rfl (by (try simp only [aT, aK, aL]); first | done | rfl) ?_
      refine (num_c x.f2 HXO.out.2.2.1 _ HP.out.env).mono ?_
      rintro e wN3 ⟨rfl, hb_⟩
      refine ⟨_, rfl, ?_⟩
      replace HP := am_ (HP.out.below hb_)
      replace HA := am_ ((hb_.block ab (blk_lt HA.out)).trans HA.out)
      clear hb_
      refine hK.out _ _ (c5_ HA.out) (fun hHeld => ?_)
      clear hK K
      refine no_ (by simp only [Act.put, aS, aZ, aC, i64_w, i32_w]; rfl) ?_
      refine one_ (i := 12) (N := some 62) (bs_ 18 32767) rfl rfl (by kernel_rfl) (by decide) (fun K hK => ?_)
      refine goes_ Tryz.func33 (by kernel_rfl) rfl #[.int .i64 x.f3] (by rfl) rfl rfl (by (try simp only [aT, aK, aL]); first | done | rfl) ?_
      refine (num_c x.f3 HXO.out.2.2.2.1 _ HP.out.env).mono ?_
      rintro e wN4 ⟨rfl, hb_⟩
      refine ⟨_, rfl, ?_⟩
      replace HP := am_ (HP.out.below hb_)
      replace HA := am_ ((hb_.block ab (blk_lt HA.out)).trans HA.out)
      clear hb_
      refine hK.out _ _ (c5_ HA.out) (fun hHeld => ?_)
      clear hK K
      refine no_ (by simp only [Act.put, aS, aZ, aC, i64_w, i32_w]; rfl) ?_
      refine one_ (i := 15) (N := some 65) (bs_ 18 65535) rfl rfl (by kernel_rfl) (by decide) (fun K hK => ?_)
      refine goes_ Tryz.func33 (by kernel_rfl) rfl #[.int .i64 x.f4] (by rfl) rfl rfl (by (try simp only [aT, aK, aL]); first | done | rfl) ?_
      refine (num_c x.f4 HXO.out.2.2.2.2 _ HP.out.env).mono ?_
      rintro e wN5 ⟨rfl, hb_⟩
      refine ⟨_, rfl, ?_⟩
      replace HP := am_ (HP.out.below hb_)
      replace HA := am_ ((hb_.block ab (blk_lt HA.out)).trans HA.out)
      clear hb_
      refine hK.out _ _ (c5_ HA.out) (fun hHeld => ?_)
      clear hK K
      refine no_ (by simp only [Act.put, aS, aZ, aC, i64_w, i32_w]; rfl) ?_
      refine one_ (i := 16) (N := some 66) (bs_ 18 131071) rfl rfl (by kernel_rfl) (by decide) (fun K hK => ?_)
      refine value_ (w1 := ?_) (v := ?_) (by rfl) rfl ?_ ?_
      rotate_left 2
      · go_simp
        constructor
        · rfl
        rfl
      refine hK.out _ _ (c5a_ HA.out) (fun hHeld => ?_)
      clear hK K
      refine no_ (by simp only [Act.put, aS, aZ, aC, i64_w, i32_w]; rfl) ?_
      refine last_ (i := 17) (N := some 67) (bs_ 18 262143) rfl rfl (by kernel_rfl) (by decide) (fun K hK => ?_)
      refine goes_ Tryz.func32 (by kernel_rfl) rfl #[.pointer (some ⟨pb, 0, none⟩), .slice (some ⟨wN5.heap.size, 0, none⟩) 6 6] (by rfl) rfl rfl (by (try simp only [aT, aK, aL]); first | done | rfl) ?_
      refine (line_lit W wN5 pb _ [⟨#[97, 99, 99, 111, 117, 110, 116]⟩, itoaB x.f0, itoaB x.f1, itoaB x.f2, itoaB x.f3, itoaB x.f4] HP.out (by simp) (by simp) (by simp; have := HCNT.out; omega) HJ.out 6 rfl).mono ?_
      rintro e w3 ⟨rfl, hp3⟩
      refine ⟨_, rfl, ?_⟩
      have HP3 := am_ hp3
      clear hp3
      refine hK.out _ _ ?_
      clear hK K
      refine no_ (by simp only [Act.put, aS, aZ, aC, i64_w, i32_w]; rfl) ?_
      refine done_ (by kernel_rfl) ?_
      go_wp2_with fail
      go_roundw
      case rel => exact ⟨k + 1, hlt, by go_num, by rw [HTK.out, List.map_append, ← List.append_assoc]; exact HP3.out⟩
      case measure => simp [intOf]; omega
    have hkn : k = l1.length := by omega
    subst hkn
    rw [List.take_length] at HP
    have k_0 := cell_lift HP.out.bW (wld.cell_of (o := 2) HWX.out rfl)
    go_wp2_with fail
    clear k_0
    go_loopw [72] (fun i wl => ∃ k : Nat, k ≤ l2.length ∧ i = .int .i64 k ∧ PInvE W wl pb ((l0.map labelW ++ l1.map accW) ++ (l2.take k).map sesW)) (fun i _ => l2.length - (intOf i).toNat)
    case atStart => exact ⟨0, Nat.zero_le _, rfl, by simpa using HP.out⟩
    case round =>
     obtain ⟨k, hk, rfl, hp_⟩ := hrel
     replace HP := am_ hp_
     clear hp_
     by_cases hlt : k < l2.length
     · obtain ⟨x, hx⟩ : ∃ x, l2[k]? = some x := ⟨l2[k], List.getElem?_eq_getElem hlt⟩
       have hxo := OK.out.ses x (List.mem_of_getElem? hx)
       have htk : l2.take (k + 1) = l2.take k ++ [x] := by rw [List.take_add_one, hx]; rfl
       obtain ⟨bE, oE, cs, hAE, hKE, hcE⟩ := Cat_ H2.out hx (by decide)
       subst hAE
       have hKE' : cs = [.int .i64 x] := hKE
       subst hKE'
       have q0 : wr.cell? ⟨bE, oE + k, none⟩ = some (.int .i64 x) := by
        have h := hcE 0 _ rfl
        rw [show (Kd.int .i64).sz = 1 from rfl, Nat.mul_one, Nat.add_zero] at h
        exact cell_lift HP.out.bW h
       have hu := itoaB_size x hxo
       have HJ := am_ (show (joinB [⟨#[115, 101, 115, 115, 105, 111, 110]⟩, itoaB x] ⟨#[32]⟩).size ≤ 140737488355328 from Nat.le_trans (joinB_le _ _) (by simp only [List.map_cons, List.map_nil, List.sum_cons, List.sum_nil, List.length_cons, List.length_nil]; show (7 : Nat) + ((itoaB x).size + 0) + (0 + 1 + 1) * 1 ≤ _; omega))
       have HTK := am_ htk
       have HXO := am_ hxo
       clear hxo htk hcE hKE hx hu
       go_wp2_with fail
       refine (num_c x HXO.out _ HP.out.env).mono ?_
       rintro e w2 ⟨rfl, hb2⟩
       replace HP := am_ (HP.out.below hb2)
       clear hb2
       go_wp2_with fail
       refine (line_lit W w2 pb _ [⟨#[115, 101, 115, 115, 105, 111, 110]⟩, itoaB x] HP.out (by simp) (by simp) (by simp; have := HCNT.out; omega) HJ.out 2 rfl).mono ?_
       rintro e w3 ⟨rfl, hp3⟩
       have HP3 := am_ hp3
       clear hp3
       go_wp2_with fail
       go_roundw
       case rel => exact ⟨k + 1, hlt, by go_num, by rw [HTK.out, List.map_append, ← List.append_assoc]; exact HP3.out⟩
       case measure => simp [intOf]; omega
     have hkn : k = l2.length := by omega
     subst hkn
     rw [List.take_length] at HP
     go_wp2_with fail
     go_loopw [84] (fun i wl => ∃ k : Nat, k ≤ evs.length ∧ i = .int .i64 k ∧ PInvE W wl pb ((l0.map labelW ++ l1.map accW ++ l2.map sesW) ++ (evs.take k).map evW)) (fun i _ => evs.length - (intOf i).toNat)
     case atStart => exact ⟨0, Nat.zero_le _, rfl, by simpa using HP.out⟩
     case round =>
      obtain ⟨k, hk, rfl, hp_⟩ := hrel
      replace HP := am_ hp_
      clear hp_
      by_cases hlt : k < evs.length
      · obtain ⟨x, hx⟩ : ∃ x, evs[k]? = some x := ⟨evs[k], List.getElem?_eq_getElem hlt⟩
        have hxo := OK.out.ev x (List.mem_of_getElem? hx)
        have hmk := may_kind (List.all_eq_true.1 HALL.out x (List.mem_of_getElem? hx))
        have htk : evs.take (k + 1) = evs.take k ++ [x] := by rw [List.take_add_one, hx]; rfl
        obtain ⟨bE, oE, cs, hAE, hKE, hcE⟩ := Cat_ H3.out hx (by decide)
        subst hAE
        obtain ⟨A8, c8, A11, c11, rfl, hc8, hval, hc11, hstr⟩ := k52_open hKE
        have q0 : wr.cell? ⟨bE, oE + k * 12, none⟩ = some (.int .i64 x.f0) := cell_lift HP.out.bW (hcE 0 _ rfl)
        have q1 : wr.cell? ⟨bE, oE + k * 12 + 1, none⟩ = some (.int .i64 x.f1) := cell_lift HP.out.bW (hcE 1 _ rfl)
        have q2 : wr.cell? ⟨bE, oE + k * 12 + 2, none⟩ = some (.int .i64 x.f2.f0) := cell_lift HP.out.bW (hcE 2 _ rfl)
        have q3 : wr.cell? ⟨bE, oE + k * 12 + 3, none⟩ = some (.int .i64 x.f2.f1.f0) := cell_lift HP.out.bW (hcE 3 _ rfl)
        have q4 : wr.cell? ⟨bE, oE + k * 12 + 4, none⟩ = some (.int .i64 x.f2.f1.f1) := cell_lift HP.out.bW (hcE 4 _ rfl)
        have q5 : wr.cell? ⟨bE, oE + k * 12 + 5, none⟩ = some (.int .i64 x.f2.f2) := cell_lift HP.out.bW (hcE 5 _ rfl)
        have q6 : wr.cell? ⟨bE, oE + k * 12 + 6, none⟩ = some (.string x.f2.f3) := cell_lift HP.out.bW (hcE 6 _ rfl)
        have q7 : wr.cell? ⟨bE, oE + k * 12 + 7, none⟩ = some (.string x.f2.f4) := cell_lift HP.out.bW (hcE 7 _ rfl)
        have q8 : wr.cell? ⟨bE, oE + k * 12 + 8, none⟩ = some (.slice A8 x.f2.f5.length c8) := cell_lift HP.out.bW (hcE 8 _ rfl)
        have q9 : wr.cell? ⟨bE, oE + k * 12 + 9, none⟩ = some (.int .i64 x.f2.f6) := cell_lift HP.out.bW (hcE 9 _ rfl)
        have q10 : wr.cell? ⟨bE, oE + k * 12 + 10, none⟩ = some (.int .i64 x.f3) := cell_lift HP.out.bW (hcE 10 _ rfl)
        have q11 : wr.cell? ⟨bE, oE + k * 12 + 11, none⟩ = some (.slice A11 x.f4.length c11) := cell_lift HP.out.bW (hcE 11 _ rfl)
        have HTK := am_ htk
        have HEV := am_ (fun (W1 : World) (ls : List ByteArray) (hp : PInvE W W1 pb ls) (hl : ls.length ≤ 4294967296) => pevent_calls W W1 pb ls x A8 c8 A11 c11 hp (Kd.C_below hval hp.bW) (Kd.C_below hstr hp.bW) hmk hxo.1 hl hxo.2.1 hxo.2.2)
        clear hxo hmk htk hcE hKE hx hval hstr hc8 hc11
        go_wp2_with fail
        refine (HEV.out _ _ (HP.out.alloc _) (by simp; have := HCNT.out; omega)).mono ?_
        rintro e w3 ⟨rfl, hp3⟩
        have HP3 := am_ hp3
        clear hp3
        go_wp2_with fail
        go_roundw
        case rel => exact ⟨k + 1, hlt, by go_num, by rw [HTK.out, List.map_append, ← List.append_assoc]; exact HP3.out⟩
        case measure => simp [intOf]; omega
      have hkn : k = evs.length := by omega
      subst hkn
      rw [List.take_length] at HP
      obtain ⟨LN, hLN⟩ : ∃ LN, linesP (l0, l1, l2, evs) = LN := ⟨_, rfl⟩
      have hpl : PInvE W wr pb (linesP (l0, l1, l2, evs)) := HP.out
      have e1 : printS (l0, l1, l2, evs) = (if LN.length = 0 then (⟨#[]⟩, 0) else if (joinB LN ⟨#[10]⟩ ++ (⟨#[10]⟩ : ByteArray)).size > 65536 ∨ LN.length > 4096 then (⟨#[]⟩, 3) else (joinB LN ⟨#[10]⟩ ++ ⟨#[10]⟩, 0)) := by
       unfold printS
       rw [if_pos HALL.out, hLN]
      have hsum := OK.out.sum
      have hcn := OK.out.cnt
      rw [hLN] at hpl hsum hcn
      have HE1 := am_ e1
      clear hLN e1 HALL HCNT OK H0 H1 H2 H3 HP
      obtain ⟨v, hp⟩ := hpl
      obtain ⟨A, c, rfl, hc, hC⟩ := Kd.R_reads hp.row
      have k_p : wr.cell? ⟨pb, 0, none⟩ = some (.slice A LN.length c) := (blk_cell hp.blk 0).trans rfl
      have HP := am_ hp
      have HBF := am_ (HWB.out.trans (hp.bW.mono HWB.out.size))
      by_cases hz : LN.length = 0
      · have HE2 := am_ (HE1.out.trans (if_pos hz))
        have hz1 : ((LN.length : Int) == 0) = true := by simp [hz]
        clear hz HE1
        go_wp2_with fail
        go_ret2
        rw [HE2.out]
        exact ⟨rfl, HBF.out⟩
      have HE2 := am_ (HE1.out.trans (if_neg hz))
      clear HE1
      have hz1 : ((LN.length : Int) == 0) = false := by rw [beq_eq_false_iff_ne]; omega
      have HJ := am_ (strings_Join.calls A c LN ⟨#[10]⟩ (joinB LN ⟨#[10]⟩) wr hC hc (by unfold strings_Join.f; rw [if_pos ⟨by omega, hsum⟩]))
      have HC := am_ hc
      have hq : ¬ 9223372036854775807 < (joinB LN ⟨#[10]⟩).size + 1 := by omega
      clear hC hc hz
      go_wp2_with fail
      refine HJ.out.mono ?_
      rintro e w2 ⟨rfl, hb2⟩
      have k_q : w2.cell? ⟨pb, 0, none⟩ = some (.slice A LN.length c) := (hb2.cell (p := ⟨pb, 0, none⟩) (blk_lt HP.out.blk)).trans k_p
      have HB2 := am_ (below_step HBF.out hb2)
      have hsz : (joinB LN ⟨#[10]⟩ ++ (⟨#[10]⟩ : ByteArray)).size = (joinB LN ⟨#[10]⟩).size + 1 := by rw [ByteArray.size_append]; rfl
      have HE3 := am_ (hsz ▸ HE2.out)
      clear hb2 k_p HJ hsz HE2
      by_cases h1 : (joinB LN ⟨#[10]⟩).size + 1 > 65536
      · have HE4 := am_ (HE3.out.trans (if_pos (.inl h1)))
        clear HE3
        have g1 : decide ((65536 : Int) < ((joinB LN ⟨#[10]⟩).size : Int) + 1) = true := by simp; omega
        have h1' : 65536 < (joinB LN ⟨#[10]⟩).size + 1 := h1
        clear h1
        go_wp2_with fail
        go_ret2
        rw [HE4.out]
        exact ⟨rfl, HB2.out⟩
      by_cases h2 : LN.length > 4096
      · have HE4 := am_ (HE3.out.trans (if_pos (.inr h2)))
        clear HE3
        have g1 : decide ((65536 : Int) < ((joinB LN ⟨#[10]⟩).size : Int) + 1) = false := by simp; omega
        have g2 : decide ((4096 : Int) < (LN.length : Int)) = true := by simp; omega
        go_wp2_with fail
        go_ret2
        rw [HE4.out]
        exact ⟨rfl, HB2.out⟩
      have HE4 := am_ (HE3.out.trans (if_neg (by omega)))
      clear HE3
      have g1 : decide ((65536 : Int) < ((joinB LN ⟨#[10]⟩).size : Int) + 1) = false := by simp; omega
      have g2 : decide ((4096 : Int) < (LN.length : Int)) = false := by simp; omega
      go_wp2_with fail
      go_ret2
      rw [HE4.out]
      exact ⟨rfl, HB2.out⟩
end Go.Proofs.YtndbbgihpoiojaaGreatDoor.Q
