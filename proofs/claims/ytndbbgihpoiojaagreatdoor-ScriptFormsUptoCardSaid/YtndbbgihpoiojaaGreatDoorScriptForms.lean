/- Script: the law ScriptForms: its second form's card. Called with two texts: true; the texts read as they did (where what it reads is of bulk at most 1048576). -/
import Derived.Test.YtndbbgihpoiojaaGreatDoorScriptForms4
set_option linter.unusedVariables false
set_option linter.unusedSimpArgs false
set_option maxRecDepth 100000
set_option maxHeartbeats 8000000
namespace Go.Proofs.YtndbbgihpoiojaaGreatDoor.Q
open Go.RowKit Go.Proofs.YtndbbgihpoiojaaGreatDoorW.PrintWords Go.Proofs.YtndbbgihpoiojaaGreatDoorW.PrintLast
abbrev askPre : ByteArray := ⟨#[97, 115, 107, 32, 48, 32, 112, 117, 116, 32, 48, 32, 48, 32, 48, 32]⟩
theorem fl_calls (a b P Q : ByteArray) (w : World) (hE : sc.Env w)
 (hP : ∀ W, sc.Env W → Calls Tryz.prog 20 #[.string a] W fun e w' => e = .returned (.string P) ∧ Below W.heap.size W w')
 (hQ : ∀ W, sc.Env W → Calls Tryz.prog 20 #[.string b] W fun e w' => e = .returned (.string Q) ∧ Below W.heap.size W w')
 (he : (P.toList == Q.toList) = (a.toList == b.toList)) (h2 : 2 ≤ P.size) (hs : P.size ≤ 4294967296) (hsq : Q.size ≤ 4294967296)
 (h0 : bt P 0 = 34) (h1 : bt P ((P.size : Int) - 1) = 34)
 (hc : ∀ i : Nat, i < P.size → 32 < bt P (i : Int) ∧ bt P (i : Int) ≠ 127 ∧ (0 < i → i + 1 < P.size → bt P (i : Int) ≠ 34))
 (hp : P.size + Q.size ≤ 60000 → parseS (((askPre ++ P) ++ (⟨#[32]⟩ : ByteArray)) ++ Q) = ((0, 0), some ([], [], [], [askEv 0 4 0 0 0 a ⟨#[]⟩ (nums8 b.data.toList) 0]))) :
 Calls Tryz.prog 6 #[.string a, .string b] w fun e w' => e = .returned (.bool true) ∧ Below w.heap.size w w' := by
 have HE := am_ hE
 have HP := am_ hP
 have HQ := am_ hQ
 have HC := am_ hc
 have HPP := am_ hp
 clear hE hP hQ hc hp
 go_enter Tryz.func6, Tryz.ntmps6
 go_wp2_with fail
 refine (HP.out _ HE.out).mono ?_
 rintro e w1 ⟨rfl, hb1⟩
 have HB := am_ hb1
 clear hb1
 go_wp2_with fail
 refine (HQ.out _ (HE.out.below HB.out)).mono ?_
 rintro e w2 ⟨rfl, hb2⟩
 replace HB := am_ (below_step HB.out hb2)
 clear hb2
 have HF := am_ (fixed_calls w2 (HE.out.below HB.out))
 have e1 : decide ((P.size : Int) < 2) = false := decide_eq_false (by omega)
 have e2 : decide (P.size < 2) = false := decide_eq_false (by omega)
 have e3 : (0 < P.size) = True := eq_true (by omega)
 have e3' : (0 < (P.size : Int)) = True := eq_true (by omega)
 have e4 : ∀ h : 0 < P.size, ((P[0]'h).toNat : Int) = bt P 0 := bt_at P 0
 have e5 : (bt P 0 != 34) = false := bne_eq_false_iff_eq.mpr h0
 have e6 : IntKind.i64.wrap ((P.size : Int) - 1) = (P.size : Int) - 1 := IntWalk.i64_in _ (by omega)
 have e7 : ∀ h : P.size - 1 < P.size, ((P[P.size - 1]'h).toNat : Int) = 34 := fun h => by
  have := bt_at P ((P.size : Int) - 1)
  rw [h1] at this
  have e : ((P.size : Int) - 1).toNat = P.size - 1 := by omega
  simp only [e] at this
  exact this h
 go_wp2_with fail
 refine HF.out.mono ?_
 rintro e w3 ⟨rfl, hb3⟩
 replace HB := am_ (below_step HB.out hb3)
 clear hb3 HF e1 e2 e3 e3' e4 e5 e6 e7 h0 h1 he
 go_wp2
 go_loop [47] (fun v => ∃ k : Nat, k ≤ P.size ∧ v = .int .i64 k) (fun v => P.size - (intOf v).toNat)
 case atStart => exact ⟨0, Nat.zero_le _, rfl⟩
 case round =>
  obtain ⟨k, hk, rfl⟩ := hrel
  by_cases hlt : k < P.size
  · obtain ⟨d1, d2, d3⟩ := HC.out k hlt
    have hx : ∀ h : k < P.size, ((P[k]'h).toNat : Int) = bt P (k : Int) := bt_at P (k : Int)
    have f1 : decide (bt P (k : Int) ≤ 32) = false := decide_eq_false (by omega)
    have f2 : (bt P (k : Int) == 127) = false := beq_eq_false_iff_ne.mpr d2
    have e6 : IntKind.i64.wrap ((P.size : Int) - 1) = (P.size : Int) - 1 := IntWalk.i64_in _ (by omega)
    by_cases h3 : 0 < k ∧ k + 1 < P.size
    · have f3 : (bt P (k : Int) == 34) = false := beq_eq_false_iff_ne.mpr (d3 h3.1 h3.2)
      clear d1 d2 d3
      go_wp2
      all_goals
       go_round
       case rel => exact ⟨k + 1, by omega, by go_num⟩
       case measure => simp [intOf]; omega
    clear d1 d2 d3
    go_wp2
    all_goals try (exfalso; omega)
    all_goals
     go_round
     case rel => exact ⟨k + 1, by omega, by go_num⟩
     case measure => simp [intOf]; omega
  have hx : k = P.size := by omega
  subst hx
  by_cases hz : P.size + Q.size ≤ 60000
  · have HPP' := am_ (HPP.out hz)
    have HSZ := am_ (show (((askPre ++ P) ++ (⟨#[32]⟩ : ByteArray)) ++ Q).size ≤ 140737488355328 by
     have e3 : askPre.size = 16 := rfl
     have e4 : (⟨#[32]⟩ : ByteArray).size = 1 := rfl
     rw [ByteArray.size_append, ByteArray.size_append, ByteArray.size_append, e3, e4]
     omega)
    have e1 : decide ((P.size : Int) + (Q.size : Int) > 60000) = false := decide_eq_false (by omega)
    have e2 : IntKind.i64.wrap ((P.size : Int) + (Q.size : Int)) = (P.size : Int) + (Q.size : Int) := IntWalk.i64_in _ (by omega)
    have HPA := am_ (parse_calls (((askPre ++ P) ++ (⟨#[32]⟩ : ByteArray)) ++ Q) w3 (HE.out.below HB.out) HSZ.out)
    rw [HPP'.out] at HPA
    clear hz HC HPP HPP' hlt hk h2
    go_wp2_with fail
    refine HPA.out.mono ?_
    rintro e w4 ⟨v0, v1, v2, v3, rfl, ⟨base, hbase, hr⟩, hb⟩
    replace HB := am_ (below_step HB.out hb)
    obtain ⟨A0, c0, rfl⟩ := Kd.R_slice hr.r0
    obtain ⟨A1, c1, rfl⟩ := Kd.R_slice hr.r1
    obtain ⟨A2, c2, rfl⟩ := Kd.R_slice hr.r2
    obtain ⟨g, c, hv3, hcells⟩ := ev_cells hr.r3
    rcases hv3 with rfl | ⟨h, _⟩
    · obtain ⟨A8, c8, A11, c11, hc8, hval, hc11, hstr, hc⟩ := hcells 0 (askEv 0 4 0 0 0 a ⟨#[]⟩ (nums8 b.data.toList) 0) rfl
      have q6 := wld.cellA (show w4.cell? ⟨g, 6, none⟩ = some (.string a) from hc 6 _ rfl) (.cells #[.slice A0 0 c0, .slice A1 0 c1, .slice A2 0 c2] 26)
      have q8 := wld.cellA (show w4.cell? ⟨g, 8, none⟩ = some (.slice A8 (nums8 b.data.toList).length c8) from hc 8 _ rfl) (.cells #[.slice A0 0 c0, .slice A1 0 c1, .slice A2 0 c2] 26)
      have hcv : Sem.run Tryz.prog (convert 38 9 (.slice A8 (nums8 b.data.toList).length c8)) (w4.alloc (.cells #[.slice A0 0 c0, .slice A1 0 c1, .slice A2 0 c2] 26)) = .ok (.string b) (w4.alloc (.cells #[.slice A0 0 c0, .slice A1 0 c1, .slice A2 0 c2] 26)) := by
       have := Kd.C_string (P := Tryz.prog) (A := A8) (c := c8) Tryz.underlying38 Tryz.underlying5 Tryz.underlying9 (Kd.C_below hval (b1_ (Below.refl w4.heap.size w4) (.cells #[.slice A0 0 c0, .slice A1 0 c1, .slice A2 0 c2] 26)))
       rw [show strOfNums (askEv 0 4 0 0 0 a ⟨#[]⟩ (nums8 b.data.toList) 0).f2.f5 = b from (strOf_nums8 _).trans (ba_eta b)] at this
       exact this
      clear hb hval hstr hc hcells hr HPA hbase hc8 hc11
      go_wp2_with fail
      go_ret
      exact ⟨rfl, b1_ HB.out _⟩
    cases h
  go_wp2_with fail
  go_ret
  exact ⟨rfl, HB.out⟩
end Go.Proofs.YtndbbgihpoiojaaGreatDoor.Q
namespace Go.Proofs.YtndbbgihpoiojaaGreatDoor.sc
open Go.RowKit
def Clean (b : UInt8) : Prop := 32 < b.toNat ∧ b.toNat ≠ 34 ∧ b.toNat ≠ 127
theorem enc_hi (r : Int) (h : 128 ≤ r) : ∀ b ∈ Lib.encodeRune r, 128 ≤ b.toNat := by
 intro b hb
 unfold Lib.encodeRune at hb
 obtain ⟨x, hx, rfl⟩ := List.mem_map.1 hb
 have hb := Lib.encodeRuneZ_byte r x hx
 have h1 : 128 ≤ x := by
  unfold Lib.encodeRuneZ at hx
  split at hx
  · omega
  split at hx
  · simp at hx; omega
  split at hx
  · simp at hx; omega
  split at hx
  · simp at hx; omega
  simp at hx; omega
 have e : x.toNat.toUInt8.toNat = x.toNat := by
  show x.toNat % 2 ^ 8 = x.toNat
  omega
 omega
theorem hexD_cases : ∀ k : Fin 16, hexV (hexD k.val) = some k.val ∧ 48 ≤ (hexD k.val).toNat ∧ (hexD k.val).toNat ≤ 70 := by decide +kernel
theorem hexV_D {k : Nat} (h : k < 16) : hexV (hexD k) = some k := (hexD_cases ⟨k, h⟩).1
theorem hexD_clean {k : Nat} (h : k < 16) : Clean (hexD k) := by
 have := (hexD_cases ⟨k, h⟩).2
 unfold Clean
 have e : (⟨k, h⟩ : Fin 16).val = k := rfl
 rw [e] at this
 omega
theorem hex_back (b : UInt8) : UInt8.ofNat (16 * (b.toNat / 16) + b.toNat % 16) = b := by
 have : 16 * (b.toNat / 16) + b.toNat % 16 = b.toNat := by omega
 rw [this]; simp
theorem unqL_pcts (t : List UInt8) : ∀ (l : List UInt8), unqL (l.flatMap pct ++ t) = (unqL t).map (l ++ ·)
 | [] => by cases h : unqL t <;> simp [h]
 | b :: l => by
  have hb := b.toNat_lt
  show unqL (37 :: hexD (b.toNat / 16) :: hexD (b.toNat % 16) :: (l.flatMap pct ++ t)) = _
  rw [unqL_pct, hexV_D (by omega), hexV_D (by omega)]
  show (unqL (l.flatMap pct ++ t)).map _ = _
  rw [unqL_pcts t l, hex_back]
  cases h : unqL t <;> simp
theorem unqL_plains (t : List UInt8) : ∀ (l : List UInt8), (∀ b ∈ l, b ≠ 37) → unqL (l ++ t) = (unqL t).map (l ++ ·)
 | [], _ => by cases h : unqL t <;> simp [h]
 | b :: l, hl => by
  rw [List.cons_append, unqL_plain _ (hl b (List.mem_cons_self ..)), unqL_plains t l (fun x hx => hl x (List.mem_cons_of_mem _ hx))]
  cases h : unqL t <;> simp
theorem ok_bytes (l : List UInt8) (hne : l ≠ []) (h : qok (Lib.decodeL l).1 (Lib.decodeL l).2 = true) : ∀ b ∈ l.take (Lib.decodeL l).2, Clean b ∧ b.toNat ≠ 37 := by
 intro b hb
 unfold qok at h
 simp only [Bool.and_eq_true, Bool.or_eq_true, bne_iff_ne, ne_eq, decide_eq_true_eq] at h
 by_cases h128 : 128 ≤ (Lib.decodeL l).1
 · have he := Lib.encode_decode l hne (by omega)
   rw [← he] at hb
   have := enc_hi _ (by omega) b hb
   unfold Clean
   omega
 cases l with
 | nil => exact absurd rfl hne
 | cons c l =>
  by_cases hc : c.toNat < 128
  · rw [Lib.decodeL_ascii c l hc] at h hb
    simp only [List.take_succ_cons, List.take_zero, List.mem_singleton] at hb
    subst hb
    simp only at h
    unfold Clean
    omega
  exfalso
  rw [Lib.decodeL_N] at h128
  have e : ((c :: l).getD 0 0).toNat = c.toNat := rfl
  rcases Lib.decodeN_shape (c :: l).length ((c :: l).getD 0 0).toNat ((c :: l).getD 1 0).toNat ((c :: l).getD 2 0).toNat ((c :: l).getD 3 0).toNat with ⟨c0, e1⟩ | ⟨_, _, _, _, e1⟩ | ⟨_, _, _, _, _, _, e1⟩ | ⟨_, _, _, _, _, _, _, e1⟩ | e1
  · omega
  all_goals (rw [e1] at h128; simp only at h128; omega)
theorem qform_clean (l : List UInt8) (hne : l ≠ []) : ∀ b ∈ qform l (Lib.decodeL l).1 (Lib.decodeL l).2, Clean b := by
 intro b hb
 unfold qform at hb
 split at hb
 · rename_i h; exact (ok_bytes l hne h b hb).1
 obtain ⟨x, hx, hb⟩ := List.mem_flatMap.1 hb
 have hx' := x.toNat_lt
 unfold pct at hb
 simp only [List.mem_cons, List.not_mem_nil, or_false] at hb
 rcases hb with rfl | rfl | rfl
 · exact ⟨by decide, by decide, by decide⟩
 · exact hexD_clean (by omega)
 exact hexD_clean (by omega)
theorem qform_back (l t : List UInt8) (hne : l ≠ []) : unqL (qform l (Lib.decodeL l).1 (Lib.decodeL l).2 ++ t) = (unqL t).map (l.take (Lib.decodeL l).2 ++ ·) := by
 unfold qform
 split
 · rename_i h
   refine unqL_plains t _ (fun b hb e => ?_)
   have := (ok_bytes l hne h b hb).2
   rw [e] at this
   exact this rfl
 exact unqL_pcts t _
theorem qt_ind {P : List UInt8 → Prop} (h0 : P []) (hs : ∀ l, l ≠ [] → P (l.drop (Lib.decodeL l).2) → P l) : ∀ l, P l := by
 have : ∀ (n : Nat) (l : List UInt8), l.length ≤ n → P l := by
  intro n
  induction n with
  | zero =>
   intro l h
   have : l = [] := List.length_eq_zero_iff.1 (by omega)
   rw [this]; exact h0
  | succ n ih =>
   intro l h
   by_cases hne : l = []
   · rw [hne]; exact h0
   have hw := width_posL l
   have hp := List.length_pos_iff.2 hne
   exact hs l hne (ih _ (by rw [List.length_drop]; omega))
 exact fun l => this l.length l (Nat.le_refl _)
theorem qt_clean : ∀ l, ∀ b ∈ qt l, Clean b := by
 refine qt_ind (by intro b hb; cases hb) (fun l hne ih b hb => ?_)
 rw [qt_step hne] at hb
 rcases List.mem_append.1 hb with hb | hb
 · exact qform_clean l hne b hb
 exact ih b hb
theorem unqL_qt : ∀ l, unqL (qt l) = some l := by
 refine qt_ind rfl (fun l hne ih => ?_)
 rw [qt_step hne, qform_back l _ hne, ih]
 simp
theorem quoteL_eq (l : List UInt8) : quoteL l = 34 :: (qt l ++ [34]) := rfl
theorem unquote_quote (l : List UInt8) : unquoteL (quoteL l) = some l := by
 unfold unquoteL
 rw [if_pos ⟨by rw [quoteL_eq]; simp, by rw [quoteL_eq]; rfl, by rw [quoteL_eq, ← List.cons_append, List.getLast?_append]; simp⟩]
 have e : ((quoteL l).drop 1).take ((quoteL l).length - 2) = qt l := by
  rw [quoteL_eq]
  simp
 rw [e, unqL_qt]
 simp
theorem quote_inj {a b : List UInt8} (h : quoteL a = quoteL b) : a = b := by
 have := unquote_quote a
 rw [h, unquote_quote] at this
 exact (Option.some.inj this).symm
theorem quote_len (l : List UInt8) : (quoteL l).length = (qt l).length + 2 := by rw [quoteL_eq]; simp
theorem quote_clean (l : List UInt8) : ∀ b ∈ quoteL l, 32 < b.toNat ∧ b.toNat ≠ 127 := by
 intro b hb
 rw [quoteL_eq] at hb
 rcases List.mem_cons.1 hb with rfl | hb
 · exact ⟨by decide, by decide⟩
 rcases List.mem_append.1 hb with hb | hb
 · have := qt_clean l b hb; unfold Clean at this; omega
 rw [List.mem_singleton.1 hb]; exact ⟨by decide, by decide⟩
end Go.Proofs.YtndbbgihpoiojaaGreatDoor.sc
namespace Go.Proofs.YtndbbgihpoiojaaGreatDoor.Q
open Go.RowKit
open Go.Proofs.YtndbbgihpoiojaaGreatDoor.it (linesS splitS splitF linesF wordsOfL trimL linesS_nil linesS_last linesS_cons splitS_last splitS_cons indexByte_lt extract_size')
theorem splitOn_miss {c : UInt8} : ∀ {l : List UInt8}, Lib.indexByte l c < 0 → splitOn c l = [l]
 | [], _ => rfl
 | b :: l, h => by
  unfold Lib.indexByte at h
  by_cases hb : b = c
  · subst hb; simp at h
  have h1 : Lib.indexByte l c < 0 := by
   have := Lib.indexByte_ge l c
   simp only [beq_iff_eq, hb, if_false] at h
   split at h
   · rename_i e; omega
   omega
  unfold splitOn
  rw [if_neg hb, splitOn_miss h1]
theorem splitOn_hit {c : UInt8} : ∀ {l : List UInt8}, ¬ Lib.indexByte l c < 0 → splitOn c l = l.take (Lib.indexByte l c).toNat :: splitOn c (l.drop (Lib.indexByte l c + 1).toNat)
 | [], h => by unfold Lib.indexByte at h; simp at h
 | b :: l, h => by
  by_cases hb : b = c
  · subst hb
    have e : Lib.indexByte (b :: l) b = 0 := by unfold Lib.indexByte; simp
    rw [e]
    conv => lhs; unfold splitOn
    simp
  have hge := Lib.indexByte_ge l c
  have h1 : ¬ Lib.indexByte l c < 0 := by
   intro h2
   apply h
   unfold Lib.indexByte
   simp only [beq_iff_eq, hb, if_false]
   rw [if_pos (by omega)]
   omega
  have e : Lib.indexByte (b :: l) c = Lib.indexByte l c + 1 := by
   conv => lhs; unfold Lib.indexByte
   simp only [beq_iff_eq, hb, if_false]
   rw [if_neg (by omega)]
  have e1 : (Lib.indexByte l c + 1).toNat = (Lib.indexByte l c).toNat + 1 := by omega
  have e2 : (Lib.indexByte l c + 1 + 1).toNat = (Lib.indexByte l c + 1).toNat + 1 := by omega
  conv => lhs; unfold splitOn
  rw [if_neg hb, splitOn_hit h1, e, e2, e1, List.take_succ_cons, List.drop_succ_cons]
theorem data_take (s : ByteArray) (k : Nat) : (s.extract 0 k).data.toList = s.data.toList.take k := by rw [extract_data]; simp
theorem data_drop (s : ByteArray) (k : Nat) : (s.extract k s.size).data.toList = s.data.toList.drop k := by
 rw [extract_data, Lib.size_eq, List.take_of_length_le (by rw [List.length_drop]; omega)]
theorem splitS_data (c : UInt8) : ∀ (n : Nat) (s : ByteArray), s.size ≤ n → (splitS c s).map (·.data.toList) = splitOn c s.data.toList := by
 intro n
 induction n with
 | zero =>
  intro s h
  have h0 : s.data.toList = [] := List.eq_nil_of_length_eq_zero (by rw [← Lib.size_eq]; omega)
  have h1 : Lib.indexByte s.data.toList c < 0 := by rw [h0]; unfold Lib.indexByte; decide
  rw [splitS_last c s h1, splitOn_miss h1]
  rfl
 | succ n ih =>
  intro s h
  by_cases h1 : Lib.indexByte s.data.toList c < 0
  · rw [splitS_last c s h1, splitOn_miss h1]
    rfl
  have hlt := indexByte_lt s.data.toList c
  rw [← Lib.size_eq] at hlt
  rw [splitS_cons c s h1, splitOn_hit h1, List.map_cons, ih _ (by rw [extract_size']; omega), data_take, data_drop]
def wordsL (l : List UInt8) : List (List UInt8) := (splitOn 32 l).filter (!·.isEmpty)
theorem wordsS_data (s : ByteArray) : (wordsS s).map (·.data.toList) = wordsL s.data.toList := by
 unfold wordsS wordsL wordsOfL
 rw [← splitS_data 32 s.size s (Nat.le_refl _), List.filter_map]
 rfl
def chop : List (List UInt8) → List (List UInt8)
 | [] => []
 | [x] => if x = [] then [] else [x]
 | x :: y :: r => x :: chop (y :: r)
def linesL (l : List UInt8) : List (List UInt8) := chop (splitOn 10 l)
theorem chop_cons (x : List UInt8) (r : List (List UInt8)) (h : r ≠ []) : chop (x :: r) = x :: chop r := by
 cases r with
 | nil => exact absurd rfl h
 | cons y r => rfl
theorem idx_mem : ∀ {l : List UInt8} {c : UInt8}, Lib.indexByte l c < 0 → c ∉ l
 | [], _, _ => by simp
 | b :: l, c, h => by
  have hge := Lib.indexByte_ge l c
  unfold Lib.indexByte at h
  by_cases hb : b = c
  · simp [hb] at h
  simp only [beq_iff_eq, hb, if_false] at h
  have h1 : Lib.indexByte l c < 0 := by
   split at h
   · rename_i e; omega
   omega
  have := idx_mem h1
  simp [Ne.symm hb, this]
theorem idx_none : ∀ {l : List UInt8} {c : UInt8}, c ∉ l → Lib.indexByte l c < 0
 | [], _, _ => by unfold Lib.indexByte; decide
 | b :: l, c, h => by
  have h1 : b ≠ c := fun e => h (by simp [e])
  have h2 := idx_none (l := l) (c := c) (fun e => h (List.mem_cons_of_mem _ e))
  have hge := Lib.indexByte_ge l c
  unfold Lib.indexByte
  simp only [beq_iff_eq, h1, if_false]
  rw [if_pos (by omega)]
  decide
theorem idx_at : ∀ {l : List UInt8} {c : UInt8}, ¬ Lib.indexByte l c < 0 → l.take (Lib.indexByte l c + 1).toNat = l.take (Lib.indexByte l c).toNat ++ [c]
 | [], _, h => by unfold Lib.indexByte at h; simp at h
 | b :: l, c, h => by
  have hge := Lib.indexByte_ge l c
  by_cases hb : b = c
  · subst hb
    have e : Lib.indexByte (b :: l) b = 0 := by unfold Lib.indexByte; simp
    rw [e]; rfl
  have h1 : ¬ Lib.indexByte l c < 0 := by
   intro h2
   apply h
   unfold Lib.indexByte
   simp only [beq_iff_eq, hb, if_false]
   rw [if_pos (by omega)]
   omega
  have e : Lib.indexByte (b :: l) c = Lib.indexByte l c + 1 := by
   conv => lhs; unfold Lib.indexByte
   simp only [beq_iff_eq, hb, if_false]
   rw [if_neg (by omega)]
  have e1 : (Lib.indexByte l c + 1).toNat = (Lib.indexByte l c).toNat + 1 := by omega
  have e2 : (Lib.indexByte l c + 1 + 1).toNat = (Lib.indexByte l c + 1).toNat + 1 := by omega
  have ih := idx_at h1
  rw [e, e2, e1, List.take_succ_cons, List.take_succ_cons, List.cons_append, ← e1, ih]
theorem trim_data (x : ByteArray) : (trimL x).data.toList = Lib.trimSuffix x.data.toList [10] := rfl
theorem trim_hit (l : List UInt8) : Lib.trimSuffix (l ++ [10]) [10] = l := by
 unfold Lib.trimSuffix
 rw [if_pos (by simp [Lib.hasSuffix])]
 simp
theorem trim_miss (l : List UInt8) (h : (10 : UInt8) ∉ l) : Lib.trimSuffix l [10] = l := by
 unfold Lib.trimSuffix
 rw [if_neg]
 intro hs
 simp only [Lib.hasSuffix, List.isSuffixOf_iff_suffix] at hs
 exact h (hs.subset (by simp))
theorem linesT_data : ∀ (n : Nat) (s : ByteArray), s.size ≤ n → (linesT s).map (·.data.toList) = linesL s.data.toList := by
 intro n
 induction n with
 | zero =>
  intro s h
  have h0 : s.data.toList = [] := List.eq_nil_of_length_eq_zero (by rw [← Lib.size_eq]; omega)
  unfold linesT
  rw [linesS_nil s (by omega), h0]
  rfl
 | succ n ih =>
  intro s h
  by_cases hs : s.size = 0
  · have h0 : s.data.toList = [] := List.eq_nil_of_length_eq_zero (by rw [← Lib.size_eq]; omega)
    unfold linesT
    rw [linesS_nil s hs, h0]
    rfl
  by_cases h1 : Lib.indexByte s.data.toList 10 < 0
  · unfold linesT linesL
    rw [linesS_last s hs h1, splitOn_miss h1]
    simp only [List.map_cons, List.map_nil]
    rw [trim_data, trim_miss _ (idx_mem h1)]
    unfold chop
    rw [if_neg]
    intro e
    rw [Lib.size_eq, e] at hs
    exact hs rfl
  have hlt := indexByte_lt s.data.toList 10
  rw [← Lib.size_eq] at hlt
  have ih' := ih (s.extract (Lib.indexByte s.data.toList 10 + 1).toNat s.size) (by rw [extract_size']; omega)
  unfold linesT linesL at ih' ⊢
  rw [linesS_cons s hs h1, splitOn_hit h1, chop_cons _ _ (splitOn_ne _ _)]
  simp only [List.map_cons]
  rw [ih', trim_data, data_take, idx_at h1, trim_hit, data_drop]
theorem splitOn_app (c : UInt8) : ∀ (x t : List UInt8), c ∉ x → splitOn c (x ++ c :: t) = x :: splitOn c t
 | [], t, _ => by
  show splitOn c (c :: t) = _
  conv => lhs; unfold splitOn
  rw [if_pos rfl]
 | b :: x, t, h => by
  have h1 : b ≠ c := fun e => h (by simp [e])
  have ih := splitOn_app c x t (fun e => h (List.mem_cons_of_mem _ e))
  rw [List.cons_append, splitOn, if_neg h1, ih]
theorem splitOn_plain (c : UInt8) (x : List UInt8) (h : c ∉ x) : splitOn c x = [x] := splitOn_miss (idx_none h)
theorem split_join (c : UInt8) : ∀ (ws : List (List UInt8)), ws ≠ [] → (∀ x ∈ ws, c ∉ x) → splitOn c (Lib.join ws [c]) = ws
 | [], h, _ => absurd rfl h
 | [x], _, h => by rw [Lib.join_one, splitOn_plain c x (h x (List.mem_cons_self ..))]
 | x :: y :: r, _, h => by
  have e : Lib.join (x :: y :: r) [c] = x ++ c :: Lib.join (y :: r) [c] := by
   rw [Lib.join_cons, Lib.join_cons]
   simp [Lib.joinTail]
  rw [e, splitOn_app c x _ (h x (List.mem_cons_self ..)), split_join c (y :: r) (by simp) (fun z hz => h z (List.mem_cons_of_mem _ hz))]
theorem words_join (ws : List (List UInt8)) (h : ∀ x ∈ ws, (32 : UInt8) ∉ x ∧ x ≠ []) : wordsL (Lib.join ws [32]) = ws := by
 by_cases hn : ws = []
 · subst hn; rfl
 unfold wordsL
 rw [split_join 32 ws hn (fun x hx => (h x hx).1), List.filter_eq_self]
 intro x hx
 have := (h x hx).2
 cases x with
 | nil => exact absurd rfl this
 | cons a x => rfl
theorem join_notin (c d : UInt8) (hcd : d ≠ c) : ∀ (ws : List (List UInt8)), (∀ x ∈ ws, d ∉ x) → d ∉ Lib.join ws [c]
 | [], _ => by simp [Lib.join_nil]
 | x :: r, h => by
  rw [Lib.join_cons]
  intro hd
  rcases List.mem_append.1 hd with hd | hd
  · exact h x (List.mem_cons_self ..) hd
  unfold Lib.joinTail at hd
  rw [List.mem_flatten] at hd
  obtain ⟨l, hl, hd⟩ := hd
  obtain ⟨y, hy, rfl⟩ := List.mem_map.1 hl
  rcases List.mem_append.1 hd with hd | hd
  · simp at hd; exact hcd hd
  exact h y (List.mem_cons_of_mem _ hy) hd
theorem data_inj {a b : List ByteArray} (h : a.map (·.data.toList) = b.map (·.data.toList)) : a = b := by
 induction a generalizing b with
 | nil => cases b with
  | nil => rfl
  | cons y b => simp at h
 | cons x a ih => cases b with
  | nil => simp at h
  | cons y b =>
   simp only [List.map_cons, List.cons.injEq] at h
   rw [ih h.2, ba_ext h.1]
theorem lines_one (l : List UInt8) (hn : l ≠ []) (h : (10 : UInt8) ∉ l) : linesL l = [l] := by
 unfold linesL
 rw [splitOn_plain 10 l h]
 unfold chop
 rw [if_neg hn]
end Go.Proofs.YtndbbgihpoiojaaGreatDoor.Q
namespace Go.Proofs.YtndbbgihpoiojaaGreatDoor.Q
open Go.RowKit
abbrev ba (l : List UInt8) : ByteArray := ⟨l.toArray⟩
theorem ba_data (l : List UInt8) : (ba l).data.toList = l := rfl
theorem numOf_0 : sc.numOf ⟨#[48]⟩ = some 0 := by kernel_rfl
theorem wordsS_join (ws : List (List UInt8)) (h : ∀ x ∈ ws, (32 : UInt8) ∉ x ∧ x ≠ []) : wordsS (ba (Lib.join ws [32])) = ws.map ba := by
 apply data_inj
 rw [wordsS_data, ba_data, words_join ws h, List.map_map]
 simp [Function.comp_def]
theorem linesT_one (l : List UInt8) (hn : l ≠ []) (h : (10 : UInt8) ∉ l) : linesT (ba l) = [ba l] := by
 apply data_inj
 rw [linesT_data _ _ (Nat.le_refl _), ba_data, lines_one l hn h]
 rfl
theorem quote_no (c : UInt8) (hc : ¬ 32 < c.toNat) (l : List UInt8) : c ∉ sc.quoteL l := fun h => hc (sc.quote_clean l c h).1
theorem quote_ne (l : List UInt8) : sc.quoteL l ≠ [] := by rw [sc.quoteL_eq]; simp
def putWs (a b : List UInt8) : List (List UInt8) := [[97, 115, 107], [48], [112, 117, 116], [48], [48], [48], sc.quoteL a, sc.quoteL b]
theorem putWs_ok (c : UInt8) (hc : c = 32 ∨ c = 10) (a b : List UInt8) : ∀ x ∈ putWs a b, c ∉ x ∧ x ≠ [] := by
 have h1 : ¬ 32 < c.toNat := by rcases hc with rfl | rfl <;> decide
 intro x hx
 unfold putWs at hx
 simp only [List.mem_cons, List.not_mem_nil, or_false] at hx
 rcases hx with rfl | rfl | rfl | rfl | rfl | rfl | rfl | rfl
 · rcases hc with rfl | rfl <;> decide
 · rcases hc with rfl | rfl <;> decide
 · rcases hc with rfl | rfl <;> decide
 · rcases hc with rfl | rfl <;> decide
 · rcases hc with rfl | rfl <;> decide
 · rcases hc with rfl | rfl <;> decide
 · exact ⟨quote_no c h1 a, quote_ne a⟩
 exact ⟨quote_no c h1 b, quote_ne b⟩
theorem put_line (a b : List UInt8) : lineOf ((putWs a b).map ba) S0_ = (0, some ([], [], [], [askEv 0 4 0 0 0 (ba a) ⟨#[]⟩ (nums8 b) 0])) := by
 have e : rdPut 4 ((putWs a b).map ba).tail S0_ = some ([], [], [], [askEv 0 4 0 0 0 (ba a) ⟨#[]⟩ (nums8 b) 0]) := by
  show (askPut 4 (ba [48]) (ba [48]) (ba [48]) (ba [48]) (ba (sc.quoteL a)) (ba (sc.quoteL b))).map (addEv S0_) = _
  unfold askPut
  rw [show sc.numOf (ba [48]) = some 0 from numOf_0]
  rw [ba_data, ba_data, sc.unquote_quote, sc.unquote_quote]
  rfl
 unfold lineOf
 rw [if_pos ⟨rfl, by show 2 < 8; decide⟩]
 rw [show askOf (((putWs a b).map ba).getD 2 ⟨#[]⟩) = some (7, false, rdPut 4) from rfl]
 have hl : ¬ ((((putWs a b).map ba).tail.length : Int) < 7 ∨ (((putWs a b).map ba).tail.length : Int) > 7 ∧ false = false) := by
  have : ((putWs a b).map ba).tail.length = 7 := rfl
  rw [this]; omega
 refine (if_neg hl).trans ?_
 rw [e]
theorem put_parse (a b : List UInt8) (h : (Lib.join (putWs a b) [32]).length ≤ 65536) : parseS (ba (Lib.join (putWs a b) [32])) = ((0, 0), some ([], [], [], [askEv 0 4 0 0 0 (ba a) ⟨#[]⟩ (nums8 b) 0])) := by
 have hl : linesT (ba (Lib.join (putWs a b) [32])) = [ba (Lib.join (putWs a b) [32])] :=
  linesT_one _ (by unfold putWs; rw [Lib.join_cons]; simp) (join_notin 32 10 (by decide) _ (fun x hx => (putWs_ok 10 (.inr rfl) a b x hx).1))
 have hw : wordsS (ba (Lib.join (putWs a b) [32])) = (putWs a b).map ba := wordsS_join _ (putWs_ok 32 (.inl rfl) a b)
 unfold parseS
 rw [if_neg (by rw [size_mk]; omega), hl, if_neg (by simp)]
 unfold parseL
 rw [hw, if_neg (show ¬ skips ((putWs a b).map ba) = true from Bool.false_ne_true), put_line]
 rfl
end Go.Proofs.YtndbbgihpoiojaaGreatDoor.Q
namespace Go.Proofs.YtndbbgihpoiojaaGreatDoor.ev
open Go.RowKit Go.Lib
abbrev laidL : List (String × DataW Unit) := Rows.scriptQuotesRow.laid
theorem pow_eq : (Rows.laid_internal_strconv_uint64pow10 : DataW Unit) = tabData .u64 Lib.pow10Tab := by kernel_rfl
theorem acc_eq : (Rows.laid_unicode_utf8_acceptRanges : DataW Unit) = acceptData := by kernel_rfl
theorem first_eq : Rows.laid_unicode_utf8_first = firstData := Pinned.utf8First_eq
theorem nm0 : Tryz.prog.globalNamed "unicode/utf8.first" = some 0 := by kernel_rfl
theorem nm1 : Tryz.prog.globalNamed "unicode/utf8.acceptRanges" = some 1 := by kernel_rfl
theorem nm2 : Tryz.prog.globalNamed "internal/strconv.uint64pow10" = some 2 := by kernel_rfl
theorem nm6 : Tryz.prog.globalNamed "strconv.ErrSyntax" = some 6 := by kernel_rfl
theorem nm7 : Tryz.prog.globalNamed "strconv.ErrRange" = some 7 := by kernel_rfl
theorem ty2 : (Tryz.prog.globals[2]?).map (·.type) = some 163 := by kernel_rfl
theorem ty6 : (Tryz.prog.globals[6]?).map (·.type) = some 117 := by kernel_rfl
theorem ty7 : (Tryz.prog.globals[7]?).map (·.type) = some 117 := by kernel_rfl
theorem cells163 : Tryz.prog.cellsOf 163 = 20 := by kernel_rfl
theorem cellsU64 : Tryz.prog.cellsOf 67 = 1 := by kernel_rfl
theorem u8extra : U8Extra Tryz.prog Tryz.lays260_ren where
 n3 := nm0
 n4 := nm1
 y3 := by kernel_rfl
 y4 := by kernel_rfl
 c5 := by kernel_rfl
 c119 := by kernel_rfl
 c138 := by kernel_rfl
theorem iface_at {W : World} {n : String} {d : DataW Unit} {g : Nat} {nm : String} {d' : DataW Unit} (h : VarReads Tryz.prog W n d) (hd : d = .iface nm d') (hg : Tryz.prog.globalNamed n = some g) (ht : (Tryz.prog.globals[g]?).map (·.type) = some 117) : ∃ te pe, W.cell? ⟨g, 0, none⟩ = some (.iface te pe) := by
 subst hd
 obtain ⟨g', t, cs, fuel, p, hg', hty, hvar, hd⟩ := h
 obtain rfl := Option.some.inj (hg.symm.trans hg')
 obtain rfl := Option.some.inj (ht.symm.trans hty)
 obtain ⟨f1, u, v, hcs, _, _⟩ := iface_of_trod Tryz.underlying117 hd
 refine ⟨u, v, ?_⟩
 rw [World.var?_cell hg hvar 0, ← Array.getElem?_toList, hcs]
 rfl
theorem env_of {W : World} (hL : laidMet Tryz.prog laidL W) (hsh : W.ShapedOpen Tryz.prog) : sc.Env W where
 pow := by
  have h := Go.Lib.laidMet.reads hL (n := "internal/strconv.uint64pow10") (d := Rows.laid_internal_strconv_uint64pow10) (.tail _ (.tail _ (.head _)))
  rw [pow_eq] at h
  obtain ⟨g, t, cs, fuel, p, hg, hty, hvar, hd⟩ := h
  obtain rfl := Option.some.inj (nm2.symm.trans hg)
  obtain rfl := Option.some.inj (ty2.symm.trans hty)
  have hcs := cells_of_tab Tryz.underlying163 Tryz.underlying67 cellsU64 cells163 hd
  unfold TabIs
  rw [hvar, ← hcs]
 utf := by
  have h3 := Go.Lib.laidMet.reads hL (n := "unicode/utf8.first") (d := Rows.laid_unicode_utf8_first) (.tail _ (.tail _ (.tail _ (.tail _ (.tail _ (.tail _ (.head _)))))))
  have h4 := Go.Lib.laidMet.reads hL (n := "unicode/utf8.acceptRanges") (d := Rows.laid_unicode_utf8_acceptRanges) (.tail _ (.tail _ (.tail _ (.head _))))
  rw [first_eq] at h3
  rw [acc_eq] at h4
  exact utf8Tabs_of_readsT (U8Types.of260 Tryz.lays260) u8extra h3 h4
 max := Go.Proofs.cell_of_shapedOpen_int (zero := #[.int .i64 0]) (t := 3) hsh (of_decide_eq_true (by kernel_rfl)) (by kernel_rfl) rfl (by kernel_rfl) (by kernel_rfl) Tryz.underlying3
 syn := iface_at (Go.Lib.laidMet.reads hL (n := "strconv.ErrSyntax") (d := Rows.laid_strconv_ErrSyntax) (.tail _ (.tail _ (.tail _ (.tail _ (.tail _ (.head _))))))) rfl nm6 ty6
 rng := iface_at (Go.Lib.laidMet.reads hL (n := "strconv.ErrRange") (d := Rows.laid_strconv_ErrRange) (.tail _ (.tail _ (.tail _ (.tail _ (.head _)))))) rfl nm7 ty7
theorem own : ownKnob Tryz.prog.godebug = none := by kernel_rfl
abbrev synS : ByteArray := { data := #[105, 110, 118, 97, 108, 105, 100, 32, 115, 121, 110, 116, 97, 120] }
abbrev rngS : ByteArray := { data := #[118, 97, 108, 117, 101, 32, 111, 117, 116, 32, 111, 102, 32, 114, 97, 110, 103, 101] }
noncomputable def low : Nat := (World.holding Tryz.prog default ⟨#[], #[], []⟩).heap.size
def put (cs : Array Value) : Obj → Obj
 | .cells _ t frozen => .cells cs t frozen
 | o => o
def flat : DataW Unit → List Value
 | .agg l => l.flatMap fun d => match d with
  | .lit (.int k z) => [.int k z]
  | .agg m => m.flatMap fun d => match d with
   | .lit (.int k z) => [.int k z]
   | _ => []
  | _ => []
 | _ => []
noncomputable def laidWorld (os : Os) : World :=
 let w0 := World.holding Tryz.prog os ⟨#[.cells #[.string synS] 195, .cells #[.string rngS] 195], #[], []⟩
 { w0 with heap := (((((((w0.heap.modify 0 (put (flat firstData).toArray)).modify 1 (put (flat acceptData).toArray)).modify 2 (put (flat (tabData .u64 Lib.pow10Tab)).toArray)).modify 4 (put (flat Rows.laid_math_bits_deBruijn32tab).toArray)).modify 5 (put (flat Rows.laid_math_bits_deBruijn64tab).toArray)).modify 6 (put #[.iface 193 (.pointer (some ⟨low, 0, none⟩))])).modify 7 (put #[.iface 193 (.pointer (some ⟨low + 1, 0, none⟩))])) }
theorem laidWorld_met (os : Os) (args : Array Value) : laidMet Tryz.prog laidL ((laidWorld os).forCall (fun _ _ => 0) ⟨#[], args, []⟩).memory :=
 laidMet_of_run' 8 (by kernel_rfl) (by kernel_rfl)
theorem laidWorld_metH (os : Os) (args : Array Value) : laidMetH Tryz.prog laidL ((laidWorld os).forCall (fun _ _ => 0) ⟨#[], args, []⟩).memory := by
 rw [Go.MakeChecks.laidMetH_plain _ _ _ (by kernel_rfl)]
 exact laidWorld_met os args
end Go.Proofs.YtndbbgihpoiojaaGreatDoor.ev
namespace Go.Proofs.YtndbbgihpoiojaaGreatDoor.scriptForms
open Go.ChangeShapes Go.WideShapes Go.ChangeAt Go.RowKit Go.Proofs.YtndbbgihpoiojaaGreatDoor.ev Go.Proofs.YtndbbgihpoiojaaGreatDoor.Q Go.Proofs.YtndbbgihpoiojaaGreatDoorW.PrintWords Go.Proofs.YtndbbgihpoiojaaGreatDoorW.PrintLast
theorem qt_le : ∀ l : List UInt8, (sc.qt l).length ≤ 3 * l.length := by
 refine sc.qt_ind (Nat.le_refl _) (fun l hne ih => ?_)
 have h1 := sc.width_posL l
 have h2 := Lib.decodeL_le l hne
 have h3 := sc.qform_length l (Lib.decodeL l).1 (Lib.decodeL l).2
 rw [List.length_drop] at ih
 rw [sc.qt_step hne, List.length_append]
 omega
theorem quote_size (x : ByteArray) : (quoteB x).size = (sc.qt x.data.toList).length + 2 := by
 unfold quoteB
 rw [size_mk, sc.quote_len]
theorem quote_at (x : ByteArray) (i : Nat) (h : i < (quoteB x).size) : ∃ b, (sc.quoteL x.data.toList)[i]? = some b ∧ bt (quoteB x) (i : Int) = (b.toNat : Int) := by
 have h' : i < (sc.quoteL x.data.toList).length := by rw [sc.quote_len, ← quote_size]; exact h
 exact ⟨_, List.getElem?_eq_getElem h', bt_lit _ i h'⟩
theorem quote_ends (x : ByteArray) : bt (quoteB x) 0 = 34 ∧ bt (quoteB x) (((quoteB x).size : Int) - 1) = 34 := by
 have hs := quote_size x
 constructor
 · obtain ⟨b, hb, e⟩ := quote_at x 0 (by omega)
   rw [sc.quoteL_eq] at hb
   simp only [List.getElem?_cons_zero, Option.some.injEq] at hb
   rw [show ((0 : Nat) : Int) = 0 from rfl] at e
   rw [e, ← hb]; rfl
 obtain ⟨b, hb, e⟩ := quote_at x ((quoteB x).size - 1) (by omega)
 rw [sc.quoteL_eq, hs] at hb
 have e1 : (sc.qt x.data.toList).length + 2 - 1 = (sc.qt x.data.toList).length + 1 := by omega
 rw [e1, List.getElem?_cons_succ, List.getElem?_append_right (Nat.le_refl _), Nat.sub_self] at hb
 simp only [List.getElem?_cons_zero, Option.some.injEq] at hb
 rw [show (((quoteB x).size : Int) - 1) = (((quoteB x).size - 1 : Nat) : Int) by omega, e, ← hb]; rfl
theorem quote_mid (x : ByteArray) (i : Nat) (h : i < (quoteB x).size) : 32 < bt (quoteB x) (i : Int) ∧ bt (quoteB x) (i : Int) ≠ 127 ∧ (0 < i → i + 1 < (quoteB x).size → bt (quoteB x) (i : Int) ≠ 34) := by
 obtain ⟨b, hb, e⟩ := quote_at x i h
 have hc := sc.quote_clean _ b (List.mem_of_getElem? hb)
 rw [e]
 refine ⟨by omega, by omega, fun h0 h1 => ?_⟩
 have hs := quote_size x
 rw [sc.quoteL_eq] at hb
 obtain ⟨j, rfl⟩ : ∃ j, i = j + 1 := ⟨i - 1, by omega⟩
 rw [List.getElem?_cons_succ, List.getElem?_append_left (by omega)] at hb
 have := sc.qt_clean _ b (List.mem_of_getElem? hb)
 unfold sc.Clean at this
 omega
theorem quote_eq (a b : ByteArray) : ((quoteB a).toList == (quoteB b).toList) = (a.toList == b.toList) := by
 rw [toList_data, toList_data, toList_data, toList_data, Bool.eq_iff_iff, beq_iff_eq, beq_iff_eq]
 exact ⟨fun h => sc.quote_inj h, fun h => by unfold quoteB; rw [h]⟩
theorem ask_text (a b : ByteArray) : ((askPre ++ quoteB a) ++ (⟨#[32]⟩ : ByteArray)) ++ quoteB b = ba (Lib.join (putWs a.data.toList b.data.toList) [32]) := by
 apply ba_ext
 rw [ba_data]
 unfold putWs quoteB
 simp only [ByteArray.data_append, Array.toList_append, Lib.join_cons, Lib.joinTail, List.map_cons, List.map_nil, List.flatten_cons, List.flatten_nil, List.append_nil]
 simp
theorem ask_parse (a b : ByteArray) (h : (quoteB a).size + (quoteB b).size ≤ 60000) : parseS (((askPre ++ quoteB a) ++ (⟨#[32]⟩ : ByteArray)) ++ quoteB b) = ((0, 0), some ([], [], [], [askEv 0 4 0 0 0 a ⟨#[]⟩ (nums8 b.data.toList) 0])) := by
 have hs : (Lib.join (putWs a.data.toList b.data.toList) [32]).length ≤ 65536 := by
  have this : (((askPre ++ quoteB a) ++ (⟨#[32]⟩ : ByteArray)) ++ quoteB b).size = (ba (Lib.join (putWs a.data.toList b.data.toList) [32])).size := by rw [ask_text]
  have e0 : (ba (Lib.join (putWs a.data.toList b.data.toList) [32])).size = (Lib.join (putWs a.data.toList b.data.toList) [32]).length := size_mk _
  rw [ByteArray.size_append, ByteArray.size_append, ByteArray.size_append] at this
  have e3 : askPre.size = 16 := rfl
  have e4 : (⟨#[32]⟩ : ByteArray).size = 1 := rfl
  omega
 rw [ask_text, put_parse _ _ hs, show ba a.data.toList = a from ba_eta a]
abbrev args0 : Array Value := #[.string ⟨#[]⟩, .string ⟨#[]⟩]
theorem contract (H : Type) (enc : TypeId × Value → H) (W : World) (base : Nat) (args : Array Value) (ds gs : List (DataW H)) (before : List MemPlace)
 (hval : ∀ (j : Nat) t v, Tryz.f6.params[j]? = some t → args[j]? = some v → Value.okWide Tryz.prog W .any base t v)
 (hW : DataW.Whole enc Tryz.prog Tryz.f6.params.toList Rows.scriptFormsSpec.vars false W args.toList ds gs before)
 (hk : Rows.uptoSmall H (ds ++ gs) = true) (hL : laidMetH Tryz.prog laidL W) (hsh : W.ShapedOpen Tryz.prog) :
 Calls Tryz.prog 6 args W fun e W' => ∃ v, e = .returned v ∧ Rows.scriptFormsSpec.post enc Tryz.prog Tryz.f6 false true false false W args v W' := by
 have hW' := hW
 obtain ⟨p, q, hA0, hV, rfl, hfz, hnd⟩ := hW
 have hA : DataW.TrodAll enc Tryz.prog W 0 (fun _ => true) true Tryz.f6.params.toList args.toList ds p := hA0
 rw [Tryz.params6] at hA hval
 obtain ⟨v0, vs0, d0, ds0, p0, q0, hargs, rfl, rfl, h0, r0⟩ := trodAll_cons hA
 obtain ⟨v1, vs1, d1, ds1, p1, q1, rfl, rfl, rfl, h1, r1⟩ := trodAll_cons r0
 obtain ⟨rfl, rfl, rfl⟩ := trodAll_nil r1
 obtain rfl : args = #[v0, v1] := by cases args; simp_all
 obtain ⟨rfl, rfl⟩ := trodVars_none hV
 obtain ⟨a, rfl, rfl, rfl, ha⟩ := Go.ChangeMaps.open_string Tryz.underlying9 (hval 0 9 v0 rfl rfl) h0
 obtain ⟨b, rfl, rfl, rfl, hb⟩ := Go.ChangeMaps.open_string Tryz.underlying9 (hval 1 9 v1 rfl rfl) h1
 have hsz : a.size + b.size ≤ 1048576 := by
  have h1 := of_decide_eq_true hk
  simp only [List.append_nil, Rows.uptoBulkAll, Rows.uptoBulk] at h1
  have h2 : a.data.toList.length = a.size := Array.length_toList
  have h3 : b.data.toList.length = b.size := Array.length_toList
  omega
 rw [Go.MakeChecks.laidMetH_plain _ _ _ (by kernel_rfl)] at hL
 have qa := quote_size a
 have qb := quote_size b
 have la := qt_le a.data.toList
 have lb := qt_le b.data.toList
 rw [← Lib.size_eq] at la lb
 have ends := quote_ends a
 refine (fl_calls a b (quoteB a) (quoteB b) W (env_of hL hsh) (fun W hE => quoteB_c a (by omega) W hE) (fun W hE => quoteB_c b (by omega) W hE) (quote_eq a b) (by omega) (by omega) (by omega) ends.1 ends.2 (quote_mid a) (ask_parse a b)).mono fun e W' ⟨he, bel⟩ => ?_
 subst he
 exact ⟨_, rfl, _, _, _, [], _, [], hW', trodAll_mk1 (shut_bool Tryz.underlying4 _), trodAll_cons_mk (Go.ChangeMaps.shut_string Tryz.underlying9 ha) (trodAll_cons_mk (Go.ChangeMaps.shut_string Tryz.underlying9 hb) trodAll_mk0), rfl, bel.frame _, fun h => by cases h⟩
theorem reads (os : Os) {H : Type} (enc : TypeId × Value → H) : ∃ places, DataW.whole enc Tryz.prog ((laidWorld os).forCall (fun _ _ => 0) ⟨#[], args0, []⟩).memory Tryz.f6.params.toList Rows.scriptFormsSpec.vars false args0.toList 8 = some ([.lit (.string []), .lit (.string [])], [], places) :=
 ⟨[], by kernel_rfl⟩
theorem liftedUpto (os : Os) (started : os.Started) (H : Type) (enc : TypeId × Value → H) (F : Stop.Interp) :
 ReturnsInHanded {} Tryz.checked os 6 .any ((Rows.OpenSpec.upto Rows.scriptFormsSpec).preRow enc Tryz.prog Tryz.f6 Rows.scriptFormsUptoRow.domain false Rows.scriptFormsUptoRow.laid) (((Rows.OpenSpec.upto Rows.scriptFormsSpec).at F).post enc Tryz.prog Tryz.f6 false true false false) := by
 obtain ⟨places, hx⟩ := reads os enc
 refine returnsInHanded_of_row (C := Tryz.checked) (s := Rows.OpenSpec.upto Rows.scriptFormsSpec) own started (by kernel_rfl) Tryz.func6
  (witness_row_atRef (enc := enc) (C := Tryz.checked) false (laidWorld os) args0 rfl (by kernel_rfl) (by kernel_rfl) (by kernel_rfl)
   (OpenSpec.preRow_of_cond 8 hx (by kernel_rfl) (fun k hk => by cases hk; kernel_rfl) (by kernel_rfl) (laidWorld_metH os _))) ?_
 intro W base args ds gs before hval hW _ hcnd _ hL hsh _
 exact contract H enc W base args ds gs before hval hW (hcnd _ rfl) hL hsh
theorem saidUpto : Rows.ScriptFormsUptoSaid :=
 OpenClaim.holds_of_cond 6 Tryz.f6 rfl rfl rfl rfl rfl rfl rfl ⟨rfl, rfl, rfl, rfl, rfl⟩ rfl rfl rfl rfl rfl (by kernel_rfl) Tryz.func6 (by kernel_rfl)
  (of_decide_eq_true (by kernel_rfl)) (by unfold Func.isWrapper; first | (rw [if_pos (by decide +kernel)]; kernel_rfl) | (rw [if_neg (by decide +kernel)]; exact ⟨rfl, rfl⟩))
  (fun os started H enc _ F => by rw [OpenClaim.pre_eq_preRow]; exact liftedUpto os started H enc F)
theorem plain (f : FuncId) (fn : Func) (hf : Tryz.pinned.checked.prog.funcNamed "cloister/cloisterlaw26.ScriptForms" = some f) (hfn : Tryz.pinned.checked.prog.funcs[f]? = some fn) :
 true = Tryz.pinned.checked.prog.looks [] ∧ ∀ (j : Nat) t, fn.params[j]? = some t → Tryz.pinned.checked.prog.wantsStandIn t = false := by
 obtain rfl : f = 6 := Option.some.inj ((show Tryz.prog.funcNamed "cloister/cloisterlaw26.ScriptForms" = some 6 by kernel_rfl).symm.trans hf) |>.symm
 obtain rfl : fn = Tryz.f6 := (Option.some.inj (Tryz.func6.symm.trans hfn)).symm
 refine ⟨by kernel_rfl, fun j t ht => ?_⟩
 rw [Tryz.params6] at ht
 obtain rfl : t = 9 := by simpa using Array.mem_of_getElem? ht
 exact (show Tryz.prog.wantsStandIn 9 = false by kernel_rfl)
theorem cardUpto : Rows.ScriptFormsUptoCardSaid :=
 Claim7.holds_tied_plain_at .later [] _ _ _ _ saidUpto (fun _ h => by cases h) (by kernel_rfl) (fun _ h => by cases h) scriptFormsUpto_row_tie rfl ⟨rfl, rfl⟩ (by kernel_rfl) rfl plain (by kernel_rfl)
end Go.Proofs.YtndbbgihpoiojaaGreatDoor.scriptForms
