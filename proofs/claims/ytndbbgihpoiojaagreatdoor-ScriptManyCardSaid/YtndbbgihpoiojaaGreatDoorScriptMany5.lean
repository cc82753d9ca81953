/- Script: texts merged, part 5: cut to what the claim uses. -/
import Derived.Test.YtndbbgihpoiojaaGreatDoorScriptMany4
set_option linter.unusedVariables false
set_option linter.unusedSimpArgs false
set_option maxRecDepth 100000
set_option maxHeartbeats 8000000
namespace Go.Proofs.YtndbbgihpoiojaaGreatDoor.Q
open Go.RowKit Go.Proofs.YtndbbgihpoiojaaGreatDoorW.PrintWords Go.Proofs.YtndbbgihpoiojaaGreatDoorW.PrintLast
theorem rdB_at (l : List ByteArray) (i : Nat) (h : i < l.length) : rdOf ByteArray.empty l (i : Int) = l[i] := by
 unfold rdOf
 rw [Int.toNat_natCast, List.getD_eq_getElem?_getD, List.getElem?_eq_getElem h]
 rfl
theorem wi_ {i : Nat} (h : i ≤ 8796093022000) : wrap64 ((i : Int) + 1) = ((i + 1 : Nat) : Int) := by rw [w64 (by omega) (by omega)]; omega
def numsOf : List ByteArray → Option (List Int)
 | [] => some []
 | x :: r => match sc.numOf x, numsOf r with
  | some n, some ns => some (n :: ns)
  | _, _ => none
theorem rns_l0 (S : Nat) (hS : S ≤ 8796093022000) (l : List ByteArray) (hl : ∀ x ∈ l, x.size ≤ S) (hn : l.length ≤ 1000000) : ∀ (d i : Nat) (acc : List Int) (k : Nat), i + d = l.length → acc.length ≤ i → S + 5 + d ≤ k →
 cloisterref26_numbers.l0 k acc l (l.length : Int) (i : Int) = some (match numsOf (l.drop i) with
  | some ns => (acc ++ ns, true)
  | none => ([], false)) := by
 intro d
 induction d with
 | zero =>
  intro i acc k hi ha hk
  obtain ⟨k, rfl⟩ : ∃ m, k = m + 1 := ⟨k - 1, by omega⟩
  have hdn : l.drop i = [] := List.drop_eq_nil_of_le (by omega)
  rw [cloisterref26_numbers.l0, if_neg (by omega), hdn]
  show _ = some (acc ++ [], true)
  rw [List.append_nil]
 | succ d ih =>
  intro i acc k hi ha hk
  obtain ⟨k, rfl⟩ : ∃ m, k = m + 1 := ⟨k - 1, by omega⟩
  have hlt : i < l.length := by omega
  have hx := hl l[i] (List.getElem_mem hlt)
  have he := refNum_eq l[i]
  rw [cloisterref26_numbers.l0, if_pos (by omega), if_pos (by omega), if_pos (by omega), rdB_at l i hlt, rnum_f _ (by omega) k (by omega), Option.bind_some, wi_ (by omega), List.drop_eq_getElem_cons hlt, numsOf, he.1]
  cases hx2 : sc.numOf l[i] with
  | none => rfl
  | some n =>
   rw [if_pos (show (some n).isSome = true from rfl), if_pos (by omega), he.2 n hx2, ih (i + 1) (acc ++ [n]) k (by omega) (by rw [List.length_append]; show _ + 1 ≤ _; omega) (by omega)]
   cases numsOf (l.drop (i + 1)) with
   | none => rfl
   | some ns =>
    show some (acc ++ [n] ++ ns, true) = some (acc ++ (n :: ns), true)
    rw [List.append_assoc]
    rfl
theorem rnums_f (S : Nat) (hS : S ≤ 8796093022000) (l : List ByteArray) (hl : ∀ x ∈ l, x.size ≤ S) (hn : l.length ≤ 1000000) (k : Nat) (hk : S + 5 + l.length ≤ k) : cloisterref26_numbers.f k l = some (match numsOf l with
 | some ns => (ns, true)
 | none => ([], false)) := by
 have := rns_l0 S hS l hl hn l.length 0 [] k (by omega) (Nat.le_refl _) hk
 rw [show ((0 : Nat) : Int) = 0 from rfl, List.drop_zero] at this
 exact this
def refFate (l : List UInt8) : Int × Int × Int × Bool := match fateOf l with
 | some f => (f.f0, f.f1, f.f2, true)
 | none => (0, 0, 0, false)
theorem rf_end (x0 : ByteArray) (h : x0.size ≤ 8796093022000) (k : Nat) (hk : x0.size + 4 ≤ k) (y : Int) : cloisterref26_Fate.l0 (k + 1) x0 (bl (splitOn 44 x0.data.toList)) y ((x0.size + 1 : Nat) : Int) = some (refFate x0.data.toList) := by
 rw [cloisterref26_Fate.l0, if_neg (by omega)]
 have hsz : ∀ x ∈ splitOn 44 x0.data.toList, x.length ≤ x0.size := fun x hx => by
  have := splitOn_size 44 x0.data.toList x hx
  rw [data_length] at this
  exact this
 unfold refFate fateOf
 generalize splitOn 44 x0.data.toList = p at hsz ⊢
 rcases p with _ | ⟨a, _ | ⟨b, _ | ⟨c, _ | ⟨d, p⟩⟩⟩⟩
 · rw [if_neg (by simp [bl])]
 · rw [if_neg (by simp [bl])]
 · rw [if_neg (by simp [bl])]
 · have ha := hsz a (by simp)
   have hb := hsz b (by simp)
   have hc := hsz c (by simp)
   have sz : ∀ x : List UInt8, (⟨x.toArray⟩ : ByteArray).size = x.length := fun x => size_mk x
   rw [if_pos (show ((bl [a, b, c]).length : Int) = 3 from rfl), if_pos (show (0 : Int) < ((bl [a, b, c]).length : Int) from (by decide : (0 : Int) < 3)), show rdOf ByteArray.empty (bl [a, b, c]) 0 = ⟨a.toArray⟩ from rfl, rnum_f _ (by rw [sz]; omega) k (by rw [sz]; omega), Option.bind_some]
   rw [if_pos (show (1 : Int) < ((bl [a, b, c]).length : Int) from (by decide : (1 : Int) < 3)), show rdOf ByteArray.empty (bl [a, b, c]) 1 = ⟨b.toArray⟩ from rfl, rnum_f _ (by rw [sz]; omega) k (by rw [sz]; omega), Option.bind_some]
   rw [if_pos (show (2 : Int) < ((bl [a, b, c]).length : Int) from (by decide : (2 : Int) < 3)), show rdOf ByteArray.empty (bl [a, b, c]) 2 = ⟨c.toArray⟩ from rfl, rnum_f _ (by rw [sz]; omega) k (by rw [sz]; omega), Option.bind_some]
   have ea := refNum_eq ⟨a.toArray⟩
   have eb := refNum_eq ⟨b.toArray⟩
   have ec := refNum_eq ⟨c.toArray⟩
   unfold numL
   simp only
   rw [ea.1, eb.1, ec.1]
   cases h1 : sc.numOf ⟨a.toArray⟩ with
   | none => rfl
   | some x =>
    cases h2 : sc.numOf ⟨b.toArray⟩ with
    | none => rfl
    | some y =>
     cases h3 : sc.numOf ⟨c.toArray⟩ with
     | none => rfl
     | some z =>
      rw [if_pos (show (some x).isSome = true from rfl), if_pos (show (some y).isSome = true from rfl), if_pos (show (some z).isSome = true from rfl), ea.2 x h1, eb.2 y h2, ec.2 z h3]
      simp only
      by_cases hz0 : z < 0
      · rw [if_pos hz0, if_neg (by omega)]
      by_cases hz1 : z > 255
      · rw [if_neg hz0, if_pos hz1, if_neg (by omega)]
      rw [if_neg hz0, if_neg hz1, if_pos (by omega), show z % 256 = z by omega]
 rw [if_neg (by simp [bl]; omega)]
theorem rf_l0 (x0 : ByteArray) (hlen : x0.size ≤ 8796093022000) : ∀ (d i f : Nat) (acc : List ByteArray) (k : Nat), i + d = x0.data.toList.length → f ≤ i → acc.length ≤ f → d + x0.size + 6 ≤ k →
 acc ++ bl (pre ((x0.data.toList.take i).drop f) (splitOn 44 (x0.data.toList.drop i))) = bl (splitOn 44 x0.data.toList) →
 cloisterref26_Fate.l0 k x0 acc (f : Int) (i : Int) = some (refFate x0.data.toList) := by
 intro d
 have hsz : x0.size = x0.data.toList.length := (data_length x0).symm
 induction d with
 | zero =>
  intro i f acc k hi hf ha hk he
  obtain ⟨k, rfl⟩ : ∃ m, k = m + 1 + 1 := ⟨k - 2, by omega⟩
  have hdn : x0.data.toList.drop i = [] := List.drop_eq_nil_of_le (by omega)
  rw [hdn] at he
  have he2 : acc ++ [x0.extract f i] = bl (splitOn 44 x0.data.toList) := by
   rw [← he]
   show _ = acc ++ [(⟨((x0.data.toList.take i).drop f ++ []).toArray⟩ : ByteArray)]
   rw [List.append_nil, ← cut_extract, ba_eta]
  rw [cloisterref26_Fate.l0, if_pos (by omega), if_pos (by omega), if_pos (by omega), if_pos (by omega), if_pos (by omega), Int.toNat_natCast, Int.toNat_natCast, wi_ (by omega), he2, show i + 1 = x0.size + 1 by omega]
  exact rf_end x0 hlen k (by omega) _
 | succ d ih =>
  intro i f acc k hi hf ha hk he
  obtain ⟨k, rfl⟩ : ∃ m, k = m + 1 := ⟨k - 1, by omega⟩
  have hlt : i < x0.data.toList.length := by omega
  have hemp : (x0.data.toList.take (i + 1)).drop (i + 1) = [] := List.drop_eq_nil_of_le (by rw [List.length_take]; omega)
  rw [List.drop_eq_getElem_cons hlt, pre_split] at he
  rw [cloisterref26_Fate.l0, if_pos (by omega), if_neg (by omega), if_pos (by omega), if_pos (by omega), bt_nat x0 i hlt, wi_ (by omega)]
  by_cases h : x0.data.toList[i] = 44
  · rw [if_pos (by rw [h]; rfl), if_pos (by omega), if_pos (by omega), if_pos (by omega), Int.toNat_natCast, Int.toNat_natCast]
    rw [if_pos h] at he
    refine ih (i + 1) (i + 1) _ k (by omega) (Nat.le_refl _) (by rw [List.length_append]; show _ + 1 ≤ _; omega) (by omega) ?_
    rw [hemp, pre_nil, ← he, List.append_assoc]
    show acc ++ (x0.extract f i :: bl _) = acc ++ ((⟨((x0.data.toList.take i).drop f).toArray⟩ : ByteArray) :: bl _)
    rw [← cut_extract, ba_eta]
  have hne : ¬ ((x0.data.toList[i]).toNat : Int) = 44 := fun e => h (UInt8.toNat_inj.1 (Int.ofNat_inj.1 e))
  rw [if_neg h] at he
  rw [if_neg hne]
  refine ih (i + 1) f acc k (by omega) (by omega) ha (by omega) ?_
  rw [cut_step _ _ _ hf hlt]
  exact he
theorem rfate_f (x : ByteArray) (h : x.size ≤ 8796093022000) (k : Nat) (hk : 2 * x.size + 6 ≤ k) : cloisterref26_Fate.f k x = some (refFate x.data.toList) := by
 have hsz : x.size = x.data.toList.length := (data_length x).symm
 unfold cloisterref26_Fate.f
 have := rf_l0 x h x.size 0 0 [] k (by omega) (Nat.le_refl _) (Nat.le_refl _) (by omega) (by
  simp only [List.nil_append, List.drop_zero, List.take_zero, pre_nil])
 rw [show ((0 : Nat) : Int) = 0 from rfl] at this
 exact this
theorem rdL7_at (ls : List (List S66)) (j : Nat) : rd_L7 ls (j : Int) = ls.getD j [] := by
 unfold rd_L7
 rw [Int.toNat_natCast]
theorem rst_l0 (S : Nat) (hS : S ≤ 8796093022) (l : List ByteArray) (hl : ∀ x ∈ l, x.size ≤ S) (hn : l.length ≤ 1000000) : ∀ (d i : Nat) (acc : List (List S66)) (k : Nat), i + d = l.length → acc.length ≤ i → (∀ x ∈ acc, x.length ≤ i) → 2 * S + 7 + d ≤ k →
 cloisterref26_Strikes.l0 k acc l (l.length : Int) (i : Int) = some (match strikesGo acc (l.drop i) with
  | some st => (st, true)
  | none => ([], false)) := by
 intro d
 induction d with
 | zero =>
  intro i acc k hi ha hx hk
  obtain ⟨k, rfl⟩ : ∃ m, k = m + 1 := ⟨k - 1, by omega⟩
  have hdn : l.drop i = [] := List.drop_eq_nil_of_le (by omega)
  rw [cloisterref26_Strikes.l0, if_neg (by omega), hdn]
  rfl
 | succ d ih =>
  intro i acc k hi ha hx hk
  obtain ⟨k, rfl⟩ : ∃ m, k = m + 1 := ⟨k - 1, by omega⟩
  have hlt : i < l.length := by omega
  have hs := hl l[i] (List.getElem_mem hlt)
  rw [cloisterref26_Strikes.l0, if_pos (by omega), if_pos (by omega), if_pos (by omega), rdB_at l i hlt, wi_ (by omega), List.drop_eq_getElem_cons hlt, strikesGo]
  by_cases h47 : l[i].data.toList = [47]
  · rw [if_pos ((ts_iff _ _).2 h47), if_pos h47, if_pos (by omega)]
    refine ih (i + 1) (acc ++ [[]]) k (by omega) (by rw [List.length_append]; show _ + 1 ≤ _; omega) (fun x hm => ?_) (by omega)
    rcases List.mem_append.1 hm with hm | hm
    · have := hx x hm; omega
    rw [List.mem_singleton.1 hm]; exact Nat.zero_le _
  rw [if_neg (fun e => h47 ((ts_iff _ _).1 e)), if_neg h47, rfate_f _ (by omega) k (by omega), Option.bind_some]
  unfold refFate
  cases hf : fateOf l[i].data.toList with
  | none => rfl
  | some f =>
   simp only [if_true]
   by_cases h0 : acc = []
   · subst h0
     rw [if_pos (show (([] : List (List S66)).length : Int) = 0 from rfl), if_pos rfl]
   have hp : 0 < acc.length := List.length_pos_iff.2 h0
   have hw : wrap64 ((acc.length : Int) - 1) = ((acc.length - 1 : Nat) : Int) := by rw [w64 (by omega) (by omega)]; omega
   have hg : acc.getD (acc.length - 1) [] ∈ acc := by
    rw [List.getD_eq_getElem?_getD, List.getElem?_eq_getElem (by omega)]
    exact List.getElem_mem _
   have hgl := hx _ hg
   rw [if_neg (by omega), hw, if_pos (by omega), if_pos (by omega), rdL7_at, if_pos (by omega), if_neg h0, Int.toNat_natCast]
   refine ih (i + 1) _ k (by omega) (by rw [List.length_set]; omega) (fun x hm => ?_) (by omega)
   rcases List.mem_or_eq_of_mem_set hm with hm | rfl
   · have := hx x hm; omega
   rw [List.length_append]; show _ + 1 ≤ _; omega
theorem rstrikes_f (S : Nat) (hS : S ≤ 8796093022) (l : List ByteArray) (hl : ∀ x ∈ l, x.size ≤ S) (hn : l.length ≤ 1000000) (k : Nat) (hk : 2 * S + 7 + l.length ≤ k) : cloisterref26_Strikes.f k l = some (match strikesOf l with
 | some st => (st, true)
 | none => ([], false)) := by
 have := rst_l0 S hS l hl hn l.length 0 [] k (by omega) (Nat.le_refl _) (fun x hx => by cases hx) hk
 rw [show ((0 : Nat) : Int) = 0 from rfl, List.drop_zero] at this
 exact this
def digI (c : UInt8) : Int := match sc.hexV c with
 | some v => (v : Int)
 | none => -1
theorem dig_all : ∀ c : Fin 256, cloisterref26_digit.f 17 ((UInt8.ofNat c.val).toNat : Int) = some (digI (UInt8.ofNat c.val)) := by decide +kernel
theorem digit_f (c : UInt8) (k : Nat) (hk : 17 ≤ k) : cloisterref26_digit.f k (c.toNat : Int) = some (digI c) := by
 have h := dig_all ⟨c.toNat, c.toNat_lt⟩
 simp only [UInt8.ofNat_toNat] at h
 exact up_ (cloisterref26_digit.mono _) h hk
theorem digI_neg (c : UInt8) : digI c < 0 ↔ sc.hexV c = none := by
 unfold digI
 cases sc.hexV c with
 | none => simp
 | some v => simp
def unqR (x0 : ByteArray) (acc : List UInt8) (o : Option (List UInt8)) : ByteArray × Bool := match o with
 | some u => (⟨(acc ++ u).toArray⟩, ((quoteB ⟨(acc ++ u).toArray⟩).toList == x0.toList))
 | none => (⟨#[]⟩, false)
theorem unqR_map (x0 : ByteArray) (acc : List UInt8) (c : UInt8) (o : Option (List UInt8)) : unqR x0 acc (o.map (c :: ·)) = unqR x0 (acc ++ [c]) o := by
 cases o with
 | none => rfl
 | some u => simp [unqR]
theorem nums8_snoc (acc : List UInt8) (c : UInt8) : nums8 acc ++ [(c.toNat : Int)] = nums8 (acc ++ [c]) := by rw [nums8_append]; rfl
def Ev {α : Type} (f : Nat → Option α) (r : α) : Prop := ∃ K, ∀ m, K ≤ m → f m = some r
section
variable {x0 : ByteArray} {A : List Int} {i i1 i2 i3 e : Int} (hw1 : wrap64 ((x0.size : Int) - 1) = e) (g1 : i < e) (g2 : 0 ≤ i) (g3 : i < (x0.size : Int))
theorem uq_end (k : Nat) (hw1 : wrap64 ((x0.size : Int) - 1) = e) (g1 : ¬ i < e) (acc : List UInt8) (q : ByteArray) (hq : cloisterref26_Quote.f k ⟨acc.toArray⟩ = some q) : cloisterref26_Unquote.l0 (k + 1) x0 (nums8 acc) i = some (⟨acc.toArray⟩, (q.toList == x0.toList)) := by
 rw [cloisterref26_Unquote.l0, hw1, if_neg g1, strOf_nums8, hq, Option.bind_some]
include hw1 g1 g2 g3
theorem uq_plain (k : Nat) (c : Int) (hb : bt x0 i = c) (hne : ¬ c = 37) (hA : A.length < 140737488355328) (hw : wrap64 (i + 1) = i1) : cloisterref26_Unquote.l0 (k + 1) x0 A i = cloisterref26_Unquote.l0 k x0 (A ++ [c]) i1 := by
 rw [cloisterref26_Unquote.l0, hw1, if_pos g1, if_pos g2, if_pos g3, hb, if_neg hne, if_pos hA, hw]
theorem uq_short (k : Nat) (hb : bt x0 i = 37) (hw : wrap64 (i + 2) = i2) (h : i2 ≥ e) : cloisterref26_Unquote.l0 (k + 1 + 1) x0 A i = some (⟨#[]⟩, false) := by
 rw [cloisterref26_Unquote.l0, hw1, if_pos g1, if_pos g2, if_pos g3, hb, if_pos rfl, hw, if_pos h, cloisterref26_Unquote.j1, if_pos rfl]
theorem uq_fail1 (k : Nat) (hb : bt x0 i = 37) (hw : wrap64 (i + 2) = i2) (h : ¬ i2 ≥ e) (hw3 : wrap64 (i + 1) = i1) (p1 : 0 ≤ i1) (p2 : i1 < (x0.size : Int)) (a : UInt8) (ha : bt x0 i1 = (a.toNat : Int)) (hk : 17 ≤ k + 1) (hA : digI a < 0) : cloisterref26_Unquote.l0 (k + 1 + 1) x0 A i = some (⟨#[]⟩, false) := by
 rw [cloisterref26_Unquote.l0, hw1, if_pos g1, if_pos g2, if_pos g3, hb, if_pos rfl, hw, if_neg h, hw3, if_pos p1, if_pos p2, ha, digit_f a (k + 1) hk, Option.bind_some, if_pos hA, cloisterref26_Unquote.j1, if_pos rfl]
theorem uq_fail2 (k : Nat) (hb : bt x0 i = 37) (hw : wrap64 (i + 2) = i2) (h : ¬ i2 ≥ e) (hw3 : wrap64 (i + 1) = i1) (p1 : 0 ≤ i1) (p2 : i1 < (x0.size : Int)) (a b : UInt8) (ha : bt x0 i1 = (a.toNat : Int)) (hk : 17 ≤ k + 1) (hA : ¬ digI a < 0) (q1 : 0 ≤ i2) (q2 : i2 < (x0.size : Int)) (hbb : bt x0 i2 = (b.toNat : Int)) (hB : digI b < 0) : cloisterref26_Unquote.l0 (k + 1 + 1) x0 A i = some (⟨#[]⟩, false) := by
 rw [cloisterref26_Unquote.l0, hw1, if_pos g1, if_pos g2, if_pos g3, hb, if_pos rfl, hw, if_neg h, hw3, if_pos p1, if_pos p2, ha, digit_f a (k + 1) hk, Option.bind_some, if_neg hA, if_pos q1, if_pos q2, hbb, digit_f b (k + 1) hk, Option.bind_some, decide_eq_true hB, cloisterref26_Unquote.j1, if_pos rfl]
theorem uq_ok (k : Nat) (hb : bt x0 i = 37) (hw : wrap64 (i + 2) = i2) (h : ¬ i2 ≥ e) (hw3 : wrap64 (i + 1) = i1) (p1 : 0 ≤ i1) (p2 : i1 < (x0.size : Int)) (a b : UInt8) (ha : bt x0 i1 = (a.toNat : Int)) (hk : 17 ≤ k) (hA : ¬ digI a < 0) (q1 : 0 ≤ i2) (q2 : i2 < (x0.size : Int)) (hbb : bt x0 i2 = (b.toNat : Int)) (hB : ¬ digI b < 0)
 (hl : A.length < 140737488355328) (v : Int) (hv : (wrap64 (wrap64 (16 * digI a) + digI b)) % 256 = v) (hw5 : wrap64 (i2 + 1) = i3) : cloisterref26_Unquote.l0 (k + 1 + 1) x0 A i = cloisterref26_Unquote.l0 k x0 (A ++ [v]) i3 := by
 rw [cloisterref26_Unquote.l0, hw1, if_pos g1, if_pos g2, if_pos g3, hb, if_pos rfl, hw, if_neg h, hw3, if_pos p1, if_pos p2, ha, digit_f a (k + 1) (Nat.le_succ_of_le hk), Option.bind_some, if_neg hA, if_pos q1, if_pos q2, hbb, digit_f b (k + 1) (Nat.le_succ_of_le hk), Option.bind_some, decide_eq_false hB,
  cloisterref26_Unquote.j1, if_neg Bool.false_ne_true, hw3, if_pos p1, if_pos p2, ha, digit_f a k hk, Option.bind_some, hw, if_pos q1, if_pos q2, hbb, digit_f b k hk, Option.bind_some, if_pos hl, hv, hw5]
end
theorem hexSum (x y : Nat) (hx : x < 16) (hy : y < 16) : (wrap64 (wrap64 (16 * (x : Int)) + (y : Int))) % 256 = ((UInt8.ofNat (16 * x + y)).toNat : Int) := by
 rw [w64 (x := 16 * (x : Int)) (by omega) (by omega), w64 (by omega) (by omega)]
 show _ = (((16 * x + y) % 2 ^ 8 : Nat) : Int)
 omega
theorem unq_l0 (x0 : ByteArray) (n : Nat) (hn : x0.size = n + 1) (hs : n ≤ 1000000) (L : List UInt8) (hL : L = x0.data.toList.take n) : ∀ (d i : Nat) (acc : List UInt8), i + d = n → 1 ≤ i → acc.length ≤ i →
 Ev (fun k => cloisterref26_Unquote.l0 k x0 (nums8 acc) (i : Int)) (unqR x0 acc (sc.unqL (L.drop i))) := by
 have hlen : L.length = n := by rw [hL, List.length_take, data_length, hn]; omega
 have hw1 : wrap64 ((x0.size : Int) - 1) = (n : Int) := by rw [hn, w64 (by omega) (by omega)]; omega
 have hbt : ∀ (j : Nat) (h : j < L.length), bt x0 (j : Int) = ((L[j]).toNat : Int) := fun j h => by
  have hj : j < x0.data.toList.length := by rw [data_length, hn]; omega
  rw [bt_nat x0 j hj]
  simp only [hL, List.getElem_take]
 have hw : ∀ j : Nat, j ≤ 1000002 → wrap64 ((j : Int) + 1) = ((j + 1 : Nat) : Int) := fun j h => wi_ (by omega)
 have hww : ∀ j : Nat, j ≤ 1000002 → wrap64 ((j : Int) + 2) = ((j + 2 : Nat) : Int) := fun j h => by rw [w64 (by omega) (by omega)]; omega
 have hG3 : ∀ j : Nat, j < n → (j : Int) < (x0.size : Int) := fun j h => by rw [hn]; omega
 clear hn hL
 intro d
 induction d using Nat.strongRecOn with
 | _ d ih =>
  intro i acc hi h1 ha
  cases d with
  | zero =>
   have hdn : L.drop i = [] := List.drop_eq_nil_of_le (by omega)
   rw [hdn]
   have hqs : (⟨acc.toArray⟩ : ByteArray).size ≤ 1099511627776 := by rw [size_mk]; omega
   obtain ⟨K, hK⟩ := qk_of hqs
   have hg : ¬ (i : Int) < (n : Int) := by omega
   refine ⟨K + 1, fun m hm => ?_⟩
   obtain ⟨k, rfl⟩ : ∃ q, m = q + 1 := ⟨m - 1, by omega⟩
   show cloisterref26_Unquote.l0 (k + 1) x0 (nums8 acc) (i : Int) = some (unqR x0 acc (some []))
   rw [uq_end k hw1 hg acc _ (hK k (by omega))]
   unfold unqR
   simp only [List.append_nil]
  | succ d =>
   have hlt : i < L.length := by omega
   have g1 : (i : Int) < (n : Int) := by omega
   have g2 : (0 : Int) ≤ (i : Int) := by omega
   have g3 := hG3 i (by omega)
   have hA : (nums8 acc).length < 140737488355328 := by rw [nums8_length]; omega
   have w1 := am_ (hw i (by omega))
   have hb := am_ (hbt i hlt)
   rw [List.drop_eq_getElem_cons hlt]
   by_cases h37 : L[i] = 37
   · rw [h37] at hb ⊢
     have hb' : Aside0 (bt x0 (i : Int) = 37) := am_ hb.out
     clear hb
     have w2 := am_ (hww i (by omega))
     by_cases hs2 : i + 2 ≥ n
     · rw [sc.unqL_short _ (by rw [List.length_drop]; omega)]
       have hge : ((i + 2 : Nat) : Int) ≥ (n : Int) := by omega
       refine ⟨2, fun m hm => ?_⟩
       obtain ⟨k, rfl⟩ : ∃ q, m = q + 1 + 1 := ⟨m - 2, by omega⟩
       exact uq_short hw1 g1 g2 g3 k hb'.out w2.out hge
     have hl1 : i + 1 < L.length := by omega
     have hl2 : i + 1 + 1 < L.length := by omega
     have w5 := am_ (hw (i + 2) (by omega))
     have hge : ¬ ((i + 2 : Nat) : Int) ≥ (n : Int) := by omega
     have p1 : (0 : Int) ≤ ((i + 1 : Nat) : Int) := by omega
     have p2 := hG3 (i + 1) (by omega)
     have q1 : (0 : Int) ≤ ((i + 2 : Nat) : Int) := by omega
     have q2 := hG3 (i + 2) (by omega)
     have hba := am_ (hbt (i + 1) hl1)
     have hbb := am_ (hbt (i + 1 + 1) hl2)
     rw [List.drop_eq_getElem_cons hl1, List.drop_eq_getElem_cons hl2, sc.unqL_pct]
     generalize L[i + 1] = a at hba ⊢
     generalize L[i + 1 + 1] = b at hbb ⊢
     cases hx : sc.hexV a with
     | none =>
      have hA0 := am_ ((digI_neg a).2 hx)
      refine ⟨19, fun m hm => ?_⟩
      obtain ⟨k, rfl⟩ : ∃ q, m = q + 1 + 1 := ⟨m - 2, by omega⟩
      have hk : 17 ≤ k + 1 := by omega
      exact uq_fail1 hw1 g1 g2 g3 k hb'.out w2.out hge w1.out p1 p2 a hba.out hk hA0.out
     | some x =>
      have dA : Aside0 (digI a = (x : Int)) := am_ (by unfold digI; rw [hx])
      have nA : Aside0 (¬ digI a < 0) := am_ (fun h => by rw [(digI_neg a).1 h] at hx; cases hx)
      cases hy : sc.hexV b with
      | none =>
       have hB0 := am_ ((digI_neg b).2 hy)
       refine ⟨19, fun m hm => ?_⟩
       obtain ⟨k, rfl⟩ : ∃ q, m = q + 1 + 1 := ⟨m - 2, by omega⟩
       have hk : 17 ≤ k + 1 := by omega
       exact uq_fail2 hw1 g1 g2 g3 k hb'.out w2.out hge w1.out p1 p2 a b hba.out hk nA.out q1 q2 hbb.out hB0.out
      | some y =>
       have dB : Aside0 (digI b = (y : Int)) := am_ (by unfold digI; rw [hy])
       have nB : Aside0 (¬ digI b < 0) := am_ (fun h => by rw [(digI_neg b).1 h] at hy; cases hy)
       have hv := am_ (hexSum x y (sc.hexV_lt hx) (sc.hexV_lt hy))
       rw [← dA.out, ← dB.out] at hv
       obtain ⟨K, hK⟩ := ih (d - 2) (by omega) (i + 3) (acc ++ [UInt8.ofNat (16 * x + y)]) (by omega) (by omega) (by rw [List.length_append]; show _ + 1 ≤ _; omega)
       show Ev _ (unqR x0 acc ((sc.unqL _).map _))
       rw [unqR_map]
       refine ⟨K + 19, fun m hm => ?_⟩
       obtain ⟨k, rfl⟩ : ∃ q, m = q + 1 + 1 := ⟨m - 2, by omega⟩
       have hk : 17 ≤ k := by omega
       have hKk : K ≤ k := by omega
       refine (uq_ok hw1 g1 g2 g3 k hb'.out w2.out hge w1.out p1 p2 a b hba.out hk nA.out q1 q2 hbb.out nB.out hA _ hv.out w5.out).trans ?_
       rw [nums8_snoc]
       exact hK k hKk
   have hne : Aside0 (¬ ((L[i]).toNat : Int) = 37) := am_ (fun e => h37 (UInt8.toNat_inj.1 (Int.ofNat_inj.1 e)))
   rw [sc.unqL_plain _ h37, unqR_map]
   obtain ⟨K, hK⟩ := ih d (by omega) (i + 1) (acc ++ [L[i]]) (by omega) (by omega) (by rw [List.length_append]; show _ + 1 ≤ _; omega)
   refine ⟨K + 1, fun m hm => ?_⟩
   obtain ⟨k, rfl⟩ : ∃ q, m = q + 1 := ⟨m - 1, by omega⟩
   have hKk : K ≤ k := by omega
   refine (uq_plain hw1 g1 g2 g3 k _ hb.out hne.out hA w1.out).trans ?_
   rw [nums8_snoc]
   exact hK k hKk
theorem runq_f (x : ByteArray) (hs : x.size ≤ 1000000) : ∃ t, (∃ k, cloisterref26_Unquote.f k x = some (t, (sc.unquoteL x.data.toList).isSome)) ∧ ∀ u, sc.unquoteL x.data.toList = some u → t = ⟨u.toArray⟩ := by
 have hsz : x.data.toList.length = x.size := data_length x
 by_cases h2 : 2 ≤ x.size
 · obtain ⟨K, hK⟩ := unq_l0 x (x.size - 1) (by omega) (by omega) _ rfl (x.size - 2) 1 [] (by omega) (Nat.le_refl _) (Nat.zero_le _)
   have hf : cloisterref26_Unquote.f K x = some (unqR x [] (sc.unqL ((x.data.toList.take (x.size - 1)).drop 1))) := by
    unfold cloisterref26_Unquote.f
    rw [if_neg (by omega)]
    exact hK K (Nat.le_refl _)
   have hin : (x.data.toList.drop 1).take (x.data.toList.length - 2) = (x.data.toList.take (x.size - 1)).drop 1 := by rw [List.drop_take, hsz]; congr 1
   have key : ∀ u, sc.unquoteL x.data.toList = some u ↔ unqR x [] (sc.unqL ((x.data.toList.take (x.size - 1)).drop 1)) = (⟨u.toArray⟩, true) := by
    intro u
    constructor
    · intro h
      have hq := (unq_iff x u).1 h
      unfold sc.unquoteL at h
      split at h
      · rw [hin] at h
        split at h
        · rename_i b hb
          split at h
          · obtain rfl := Option.some.inj h
            rw [hb]
            unfold unqR
            simp only [List.nil_append]
            rw [show (quoteB ⟨b.toArray⟩) = x from hq.symm, beq_self_eq_true]
          cases h
        cases h
      cases h
    intro h
    unfold unqR at h
    split at h
    · injection h with h1 h2
      rename_i o v hv
      simp only [List.nil_append] at h1 h2
      have hvu : v = u := by
       have := congrArg (fun z : ByteArray => z.data.toList) h1
       simpa using this
      subst hvu
      refine (unq_iff x v).2 ?_
      have := beq_iff_eq.1 h2
      rw [toList_data, toList_data] at this
      exact (ba_ext this).symm
    injection h with h1 h2
    cases h2
   refine ⟨(unqR x [] (sc.unqL ((x.data.toList.take (x.size - 1)).drop 1))).1, ⟨K, ?_⟩, fun u hu => by rw [(key u).1 hu]⟩
   rw [hf]
   refine congrArg some (Prod.ext rfl ?_)
   cases hu : sc.unquoteL x.data.toList with
   | some u => rw [(key u).1 hu]; rfl
   | none =>
    cases hb : (unqR x [] (sc.unqL ((x.data.toList.take (x.size - 1)).drop 1))).2 with
    | false => rfl
    | true =>
     have := (key (unqR x [] (sc.unqL ((x.data.toList.take (x.size - 1)).drop 1))).1.data.toList).2 (Prod.ext (by rw [ba_eta]) hb)
     rw [hu] at this
     cases this
 refine ⟨⟨#[]⟩, ⟨0, ?_⟩, fun u hu => ?_⟩
 · unfold cloisterref26_Unquote.f
   rw [if_pos (by omega)]
   refine congrArg some (Prod.ext rfl ?_)
   unfold sc.unquoteL
   rw [if_neg (by omega)]
   rfl
 unfold sc.unquoteL at hu
 rw [if_neg (by omega)] at hu
 cases hu
def KW : List ByteArray := [⟨#[98, 101, 103, 105, 110]⟩, ⟨#[103, 101, 116]⟩, ⟨#[115, 99, 97, 110]⟩, ⟨#[112, 117, 116]⟩, ⟨#[100, 101, 108, 101, 116, 101]⟩, ⟨#[99, 111, 109, 109, 105, 116]⟩, ⟨#[97, 98, 111, 114, 116]⟩]
def kindN (x : ByteArray) : Int := if x = (⟨#[98, 101, 103, 105, 110]⟩ : ByteArray) then 1 else if x = (⟨#[103, 101, 116]⟩ : ByteArray) then 2 else if x = (⟨#[115, 99, 97, 110]⟩ : ByteArray) then 3 else if x = (⟨#[112, 117, 116]⟩ : ByteArray) then 4 else if x = (⟨#[100, 101, 108, 101, 116, 101]⟩ : ByteArray) then 5 else if x = (⟨#[99, 111, 109, 109, 105, 116]⟩ : ByteArray) then 6 else if x = (⟨#[97, 98, 111, 114, 116]⟩ : ByteArray) then 7 else 0
theorem eq_lists (a b : ByteArray) : a.toList = b.toList ↔ b = a := by
 rw [toList_data, toList_data]
 exact ⟨fun h => (ba_ext h).symm, fun h => by rw [h]⟩
theorem kind_step (x : ByteArray) (k j : Nat) (w : ByteArray) (hj : KW[j]? = some w) : cloisterref26_kind.l0 (k + 1) x KW 7 (j : Int) = if x = w then some ((j + 1 : Nat) : Int) else cloisterref26_kind.l0 k x KW 7 ((j + 1 : Nat) : Int) := by
 have hl := (List.getElem?_eq_some_iff.1 hj).1
 have h7 : KW.length = 7 := rfl
 have hr : rdOf ByteArray.empty KW (j : Int) = w := by rw [rdB_at KW j hl]; exact (List.getElem?_eq_some_iff.1 hj).2
 rw [cloisterref26_kind.l0, if_pos (by omega), if_pos (by omega), if_pos (by rw [h7]; omega), hr, wi_ (by omega)]
 by_cases h : x = w
 · rw [if_pos ((eq_lists w x).2 h), if_pos h]
 rw [if_neg (fun e => h ((eq_lists w x).1 e)), if_neg h]
theorem rkind_f (x : ByteArray) (k : Nat) (hk : 8 ≤ k) : cloisterref26_kind.f k x = some (kindN x) := by
 obtain ⟨k, rfl⟩ : ∃ q, k = q + 1 + 1 + 1 + 1 + 1 + 1 + 1 + 1 := ⟨k - 8, by omega⟩
 show cloisterref26_kind.l0 _ x KW 7 ((0 : Nat) : Int) = _
 unfold kindN
 rw [kind_step x _ 0 _ rfl, kind_step x _ 1 _ rfl, kind_step x _ 2 _ rfl, kind_step x _ 3 _ rfl, kind_step x _ 4 _ rfl, kind_step x _ 5 _ rfl, kind_step x _ 6 _ rfl]
 have hend : cloisterref26_kind.l0 (k + 1) x KW 7 ((6 + 1 : Nat) : Int) = some 0 := by rw [cloisterref26_kind.l0, if_neg (by omega)]
 rw [hend]
 simp only [apply_ite some]
 rfl
theorem tsl (x : ByteArray) (l : List UInt8) : (x.toList = l) = (x = ⟨l.toArray⟩) := by
 rw [toList_data]
 exact propext ⟨fun h => ba_ext h, fun h => by rw [h]⟩
theorem tslb (x : ByteArray) (l : List UInt8) : (x.toList == l) = decide (x = ⟨l.toArray⟩) := by
 rw [Bool.eq_iff_iff, beq_iff_eq, decide_eq_true_eq, tsl]
def cntN (ws : List ByteArray) : Int × Bool × Bool := match selOf ws with
 | none => (0, false, false)
 | some (n, more, _) => (n + 1, more, true)
theorem rd0_cons (h : ByteArray) (r : List ByteArray) : rdOf ByteArray.empty (h :: r) 0 = h := rfl
abbrev wLabel : ByteArray := ⟨#[108, 97, 98, 101, 108]⟩
abbrev wAccount : ByteArray := ⟨#[97, 99, 99, 111, 117, 110, 116]⟩
abbrev wSession : ByteArray := ⟨#[115, 101, 115, 115, 105, 111, 110]⟩
abbrev wTick : ByteArray := ⟨#[116, 105, 99, 107]⟩
abbrev wVacuum : ByteArray := ⟨#[118, 97, 99, 117, 117, 109]⟩
abbrev wCheckpoint : ByteArray := ⟨#[99, 104, 101, 99, 107, 112, 111, 105, 110, 116]⟩
abbrev wIdle : ByteArray := ⟨#[105, 100, 108, 101]⟩
abbrev wAsk : ByteArray := ⟨#[97, 115, 107]⟩
theorem rcount_f (h : ByteArray) (r : List ByteArray) (k : Nat) (hk : 12 ≤ k) (hr : r.length ≤ 1000000) : cloisterref26_count.f k (h :: r) = some (cntN (h :: r)) := by
 obtain ⟨k, rfl⟩ : ∃ q, k = q + 1 + 1 + 1 := ⟨k - 3, by omega⟩
 have hp : (0 : Int) < ((h :: r).length : Int) := by rw [List.length_cons]; omega
 unfold cloisterref26_count.f cntN selOf
 rw [if_pos hp, rd0_cons]
 simp only [tsl, tslb, cloisterref26_count.j0, cloisterref26_count.j1, cloisterref26_count.j2, hd0, List.getD_cons_succ]
 by_cases h1 : h = wLabel
 · subst h1
   simp (decide := true) [formOf]
 by_cases h2 : h = wAccount
 · subst h2
   simp (decide := true) [formOf]
 by_cases h3 : h = wSession
 · subst h3
   simp (decide := true) [formOf]
 by_cases h4 : h = wTick
 · subst h4
   simp (decide := true) [formOf]
 by_cases h5 : h = wVacuum
 · subst h5
   simp (decide := true) [formOf]
 by_cases h6 : h = wCheckpoint
 · subst h6
   simp (decide := true) [formOf]
 by_cases h7 : h = wIdle
 · subst h7
   simp (decide := true) [formOf]
 by_cases h8 : h = wAsk
 · subst h8
   rcases r with _ | ⟨a, _ | ⟨b, r⟩⟩
   · simp (decide := true) [formOf]
   · simp (decide := true) [formOf]
   have hl : ¬ (((wAsk :: a :: b :: r).length : Int) < 3) := by simp only [List.length_cons]; omega
   have hl2 : (2 : Int) < ((wAsk :: a :: b :: r).length : Int) := by simp only [List.length_cons]; omega
   have hl3 : 2 < (wAsk :: a :: b :: r).length := by simp only [List.length_cons]; omega
   have hrd : rdOf ByteArray.empty (wAsk :: a :: b :: r) 2 = b := rfl
   have hsel : (if (wAsk :: a :: b :: r).headD ⟨#[]⟩ = (⟨#[97, 115, 107]⟩ : ByteArray) ∧ 2 < (wAsk :: a :: b :: r).length then askOf ((a :: b :: r).getD 1 ⟨#[]⟩) else formOf ((wAsk :: a :: b :: r).headD ⟨#[]⟩)) = askOf b := if_pos ⟨rfl, hl3⟩
   rw [hsel]
   simp (decide := true) only [hl, hl2, hrd, rkind_f b k (by omega), Option.bind_some, if_true, if_false, h1, h2, h4, h5, decide_false, decide_true, Bool.false_eq_true]
   clear hsel hrd hl hl2 hl3
   have w7 : ∀ n : Int, 1 ≤ n → n ≤ 7 → wrap64 (n - 1) = n - 1 := fun n h1 h2 => w64 (by omega) (by omega)
   unfold kindN askOf
   by_cases c1 : b = (⟨#[98, 101, 103, 105, 110]⟩ : ByteArray)
   · rw [if_pos c1, if_pos c1, if_neg (by decide), w7 1 (by decide) (by decide), if_pos (by decide), if_pos (by decide)]; rfl
   by_cases c2 : b = (⟨#[103, 101, 116]⟩ : ByteArray)
   · rw [if_neg c1, if_pos c2, if_neg c1, if_pos c2, if_neg (by decide), w7 2 (by decide) (by decide), if_pos (by decide), if_pos (by decide)]; rfl
   by_cases c3 : b = (⟨#[115, 99, 97, 110]⟩ : ByteArray)
   · rw [if_neg c1, if_neg c2, if_pos c3, if_neg c1, if_neg c2, if_pos c3, if_neg (by decide), w7 3 (by decide) (by decide), if_pos (by decide), if_pos (by decide)]; rfl
   by_cases c4 : b = (⟨#[112, 117, 116]⟩ : ByteArray)
   · rw [if_neg c1, if_neg c2, if_neg c3, if_pos c4, if_neg c1, if_neg c2, if_neg c3, if_pos c4, if_neg (by decide), w7 4 (by decide) (by decide), if_pos (by decide), if_pos (by decide)]; rfl
   by_cases c5 : b = (⟨#[100, 101, 108, 101, 116, 101]⟩ : ByteArray)
   · rw [if_neg c1, if_neg c2, if_neg c3, if_neg c4, if_pos c5, if_neg c1, if_neg c2, if_neg c3, if_neg c4, if_pos c5, if_neg (by decide), w7 5 (by decide) (by decide), if_pos (by decide), if_pos (by decide)]; rfl
   by_cases c6 : b = (⟨#[99, 111, 109, 109, 105, 116]⟩ : ByteArray)
   · rw [if_neg c1, if_neg c2, if_neg c3, if_neg c4, if_neg c5, if_pos c6, if_neg c1, if_neg c2, if_neg c3, if_neg c4, if_neg c5, if_pos c6, if_neg (by decide), w7 6 (by decide) (by decide), if_pos (by decide), if_pos (by decide)]; rfl
   by_cases c7 : b = (⟨#[97, 98, 111, 114, 116]⟩ : ByteArray)
   · rw [if_neg c1, if_neg c2, if_neg c3, if_neg c4, if_neg c5, if_neg c6, if_pos c7, if_neg c1, if_neg c2, if_neg c3, if_neg c4, if_neg c5, if_neg c6, if_pos c7, if_neg (by decide), w7 7 (by decide) (by decide), if_pos (by decide), if_pos (by decide)]; rfl
   rw [if_neg c1, if_neg c2, if_neg c3, if_neg c4, if_neg c5, if_neg c6, if_neg c7, if_neg c1, if_neg c2, if_neg c3, if_neg c4, if_neg c5, if_neg c6, if_neg c7, if_pos rfl]
 simp only [h1, h2, h3, h4, h5, h6, h7, h8, decide_false, if_false, Bool.false_eq_true, false_and, formOf, List.headD_cons]
end Go.Proofs.YtndbbgihpoiojaaGreatDoor.Q
namespace Go.Proofs.YtndbbgihpoiojaaGreatDoor.Q
open Go.RowKit Go.Proofs.YtndbbgihpoiojaaGreatDoorW.PrintWords Go.Proofs.YtndbbgihpoiojaaGreatDoorW.PrintLast Go.Proofs.YtndbbgihpoiojaaGreatDoorW.PrintMore
attribute [local go_sem] max2_int min2_int max_two min_two max_three min_three max_four min_four   -- for this text's walks alone
theorem eqA70 (d : Nat) (w : World) (x0 y0 : Int) (x1 y1 : Int) (x2 y2 : Int) (x3 y3 : Int) (x4 y4 : Int) :
 (Op.equalIn (d + 2) 70 (.agg #[.int .i64 x0, .int .i64 x1, .int .i64 x2, .int .i64 x3, .int .i64 x4]) (.agg #[.int .i64 y0, .int .i64 y1, .int .i64 y2, .int .i64 y3, .int .i64 y4])).run Tryz.prog w = .ok (x0 == y0 && (x1 == y1 && (x2 == y2 && (x3 == y3 && (x4 == y4))))) w := by
 refine eqA_of Tryz.underlying70 (by kernel_rfl) ?_
 refine eqf_cons (by rfl) (by go_simp; rfl) (by go_simp; rfl) (by go_simp) ?_
 refine eqf_cons (by rfl) (by go_simp; rfl) (by go_simp; rfl) (by go_simp) ?_
 refine eqf_cons (by rfl) (by go_simp; rfl) (by go_simp; rfl) (by go_simp) ?_
 refine eqf_cons (by rfl) (by go_simp; rfl) (by go_simp; rfl) (by go_simp) ?_
 exact eqf_last (by rfl) (by go_simp; rfl) (by go_simp; rfl) (by go_simp)
theorem eqA66 (d : Nat) (w : World) (x0 y0 : Int) (x1 y1 : Int) (x2 y2 : Int) :
 (Op.equalIn (d + 2) 66 (.agg #[.int .i64 x0, .int .i64 x1, .int .u8 x2]) (.agg #[.int .i64 y0, .int .i64 y1, .int .u8 y2])).run Tryz.prog w = .ok (x0 == y0 && (x1 == y1 && (x2 == y2))) w := by
 refine eqA_of Tryz.underlying66 (by kernel_rfl) ?_
 refine eqf_cons (by rfl) (by go_simp; rfl) (by go_simp; rfl) (by go_simp) ?_
 refine eqf_cons (by rfl) (by go_simp; rfl) (by go_simp; rfl) (by go_simp) ?_
 exact eqf_last (by rfl) (by go_simp; rfl) (by go_simp; rfl) (by go_simp)
attribute [local go_sem high] eqA70 eqA66
theorem eq26 (A0 : Option Addr) (c0 : Nat) (A1 : Option Addr) (c1 : Nat) (l : List Int) (w : World) (h0 : Kd.C (Kd.int .u8) w A0 l.length l) (h1 : Kd.C (Kd.int .u8) w A1 l.length l) :
 Calls Tryz.prog 26 #[.slice A0 l.length c0, .slice A1 l.length c1] w fun e w' => e = .returned (.bool true) ∧ Below w.heap.size w w' := by
 have hl := h0.2.1
 unfold maxLen at hl
 have H0 := am_ h0
 have H1 := am_ h1
 clear h0 h1
 go_enter Tryz.func26, Tryz.ntmps26
 go_wp2
 go_loopw [13] (fun v wr => ∃ k : Nat, k ≤ l.length ∧ v = .int .i64 k ∧ Drawn0 w wr) (fun v _ => l.length - (intOf v).toNat)
 case atStart => exact ⟨0, Nat.zero_le _, rfl, Drawn0.refl _⟩
 case round =>
  obtain ⟨k, hk, rfl, ⟨m, rfl⟩⟩ := hrel
  by_cases hlt : k < l.length
  · obtain ⟨ad0, e0, x0_0⟩ := Kd.at_int H0.out (k : Int) (Int.natCast_nonneg k) (by omega)
    obtain ⟨ad1, e1, x1_0⟩ := Kd.at_int H1.out (k : Int) (Int.natCast_nonneg k) (by omega)
    subst e0 e1
    rw [Int.toNat_natCast] at x0_0 x1_0
    go_wp2
    go_quiet (fail)
    go_wp2
    go_roundw
    case rel => exact ⟨k + 1, by omega, by go_num, by first | exact Drawn0.step (Drawn0.step (Drawn0.refl _) _) _ | exact Drawn0.step (Drawn0.refl _) _⟩
    case measure => simp [intOf]; omega
  go_wp2
  go_ret
  exact ⟨rfl, b2_ (Below.refl _ _) _⟩
theorem eq49 (A0 : Option Addr) (c0 : Nat) (A1 : Option Addr) (c1 : Nat) (l : List Int) (w : World) (h0 : Kd.C (Kd.int .u64) w A0 l.length l) (h1 : Kd.C (Kd.int .u64) w A1 l.length l) :
 Calls Tryz.prog 49 #[.slice A0 l.length c0, .slice A1 l.length c1] w fun e w' => e = .returned (.bool true) ∧ Below w.heap.size w w' := by
 have hl := h0.2.1
 unfold maxLen at hl
 have H0 := am_ h0
 have H1 := am_ h1
 clear h0 h1
 go_enter Tryz.func49, Tryz.ntmps49
 go_wp2
 go_loopw [13] (fun v wr => ∃ k : Nat, k ≤ l.length ∧ v = .int .i64 k ∧ Drawn0 w wr) (fun v _ => l.length - (intOf v).toNat)
 case atStart => exact ⟨0, Nat.zero_le _, rfl, Drawn0.refl _⟩
 case round =>
  obtain ⟨k, hk, rfl, ⟨m, rfl⟩⟩ := hrel
  by_cases hlt : k < l.length
  · obtain ⟨ad0, e0, x0_0⟩ := Kd.at_int H0.out (k : Int) (Int.natCast_nonneg k) (by omega)
    obtain ⟨ad1, e1, x1_0⟩ := Kd.at_int H1.out (k : Int) (Int.natCast_nonneg k) (by omega)
    subst e0 e1
    rw [Int.toNat_natCast] at x0_0 x1_0
    go_wp2
    go_quiet (fail)
    go_wp2
    go_roundw
    case rel => exact ⟨k + 1, by omega, by go_num, by first | exact Drawn0.step (Drawn0.step (Drawn0.refl _) _) _ | exact Drawn0.step (Drawn0.refl _) _⟩
    case measure => simp [intOf]; omega
  go_wp2
  go_ret
  exact ⟨rfl, b2_ (Below.refl _ _) _⟩
theorem eq50 (A0 : Option Addr) (c0 : Nat) (A1 : Option Addr) (c1 : Nat) (l : List S70) (w : World) (h0 : Kd.C k70 w A0 l.length l) (h1 : Kd.C k70 w A1 l.length l) :
 Calls Tryz.prog 50 #[.slice A0 l.length c0, .slice A1 l.length c1] w fun e w' => e = .returned (.bool true) ∧ Below w.heap.size w w' := by
 have hl := h0.2.1
 unfold maxLen at hl
 have H0 := am_ h0
 have H1 := am_ h1
 clear h0 h1
 go_enter Tryz.func50, Tryz.ntmps50
 go_wp2
 go_loopw [13] (fun v wr => ∃ k : Nat, k ≤ l.length ∧ v = .int .i64 k ∧ Drawn0 w wr) (fun v _ => l.length - (intOf v).toNat)
 case atStart => exact ⟨0, Nat.zero_le _, rfl, Drawn0.refl _⟩
 case round =>
  obtain ⟨k, hk, rfl, ⟨m, rfl⟩⟩ := hrel
  by_cases hlt : k < l.length
  · obtain ⟨ad0, e0, x0_0, x0_1, x0_2, x0_3, x0_4⟩ := at_T70 H0.out (k : Int) (Int.natCast_nonneg k) (by omega)
    obtain ⟨ad1, e1, x1_0, x1_1, x1_2, x1_3, x1_4⟩ := at_T70 H1.out (k : Int) (Int.natCast_nonneg k) (by omega)
    subst e0 e1
    rw [Int.toNat_natCast] at x0_0 x0_1 x0_2 x0_3 x0_4 x1_0 x1_1 x1_2 x1_3 x1_4
    go_wp2
    go_quiet (fail)
    go_wp2
    go_roundw
    case rel => exact ⟨k + 1, by omega, by go_num, by first | exact Drawn0.step (Drawn0.step (Drawn0.refl _) _) _ | exact Drawn0.step (Drawn0.refl _) _⟩
    case measure => simp [intOf]; omega
  go_wp2
  go_ret
  exact ⟨rfl, b2_ (Below.refl _ _) _⟩
theorem eq51 (A0 : Option Addr) (c0 : Nat) (A1 : Option Addr) (c1 : Nat) (l : List Int) (w : World) (h0 : Kd.C (Kd.int .i64) w A0 l.length l) (h1 : Kd.C (Kd.int .i64) w A1 l.length l) :
 Calls Tryz.prog 51 #[.slice A0 l.length c0, .slice A1 l.length c1] w fun e w' => e = .returned (.bool true) ∧ Below w.heap.size w w' := by
 have hl := h0.2.1
 unfold maxLen at hl
 have H0 := am_ h0
 have H1 := am_ h1
 clear h0 h1
 go_enter Tryz.func51, Tryz.ntmps51
 go_wp2
 go_loopw [13] (fun v wr => ∃ k : Nat, k ≤ l.length ∧ v = .int .i64 k ∧ Drawn0 w wr) (fun v _ => l.length - (intOf v).toNat)
 case atStart => exact ⟨0, Nat.zero_le _, rfl, Drawn0.refl _⟩
 case round =>
  obtain ⟨k, hk, rfl, ⟨m, rfl⟩⟩ := hrel
  by_cases hlt : k < l.length
  · obtain ⟨ad0, e0, x0_0⟩ := Kd.at_int H0.out (k : Int) (Int.natCast_nonneg k) (by omega)
    obtain ⟨ad1, e1, x1_0⟩ := Kd.at_int H1.out (k : Int) (Int.natCast_nonneg k) (by omega)
    subst e0 e1
    rw [Int.toNat_natCast] at x0_0 x1_0
    go_wp2
    go_quiet (fail)
    go_wp2
    go_roundw
    case rel => exact ⟨k + 1, by omega, by go_num, by first | exact Drawn0.step (Drawn0.step (Drawn0.refl _) _) _ | exact Drawn0.step (Drawn0.refl _) _⟩
    case measure => simp [intOf]; omega
  go_wp2
  go_ret
  exact ⟨rfl, b2_ (Below.refl _ _) _⟩
theorem eq53 (A0 : Option Addr) (c0 : Nat) (A1 : Option Addr) (c1 : Nat) (l : List S66) (w : World) (h0 : Kd.C k66 w A0 l.length l) (h1 : Kd.C k66 w A1 l.length l) :
 Calls Tryz.prog 53 #[.slice A0 l.length c0, .slice A1 l.length c1] w fun e w' => e = .returned (.bool true) ∧ Below w.heap.size w w' := by
 have hl := h0.2.1
 unfold maxLen at hl
 have H0 := am_ h0
 have H1 := am_ h1
 clear h0 h1
 go_enter Tryz.func53, Tryz.ntmps53
 go_wp2
 go_loopw [13] (fun v wr => ∃ k : Nat, k ≤ l.length ∧ v = .int .i64 k ∧ Drawn0 w wr) (fun v _ => l.length - (intOf v).toNat)
 case atStart => exact ⟨0, Nat.zero_le _, rfl, Drawn0.refl _⟩
 case round =>
  obtain ⟨k, hk, rfl, ⟨m, rfl⟩⟩ := hrel
  by_cases hlt : k < l.length
  · obtain ⟨ad0, e0, x0_0, x0_1, x0_2⟩ := at_T66 H0.out (k : Int) (Int.natCast_nonneg k) (by omega)
    obtain ⟨ad1, e1, x1_0, x1_1, x1_2⟩ := at_T66 H1.out (k : Int) (Int.natCast_nonneg k) (by omega)
    subst e0 e1
    rw [Int.toNat_natCast] at x0_0 x0_1 x0_2 x1_0 x1_1 x1_2
    go_wp2
    go_quiet (fail)
    go_wp2
    go_roundw
    case rel => exact ⟨k + 1, by omega, by go_num, by first | exact Drawn0.step (Drawn0.step (Drawn0.refl _) _) _ | exact Drawn0.step (Drawn0.refl _) _⟩
    case measure => simp [intOf]; omega
  go_wp2
  go_ret
  exact ⟨rfl, b2_ (Below.refl _ _) _⟩
end Go.Proofs.YtndbbgihpoiojaaGreatDoor.Q
namespace Go.Proofs.YtndbbgihpoiojaaGreatDoor.Q
open Go.RowKit Go.Proofs.YtndbbgihpoiojaaGreatDoorW.PrintWords Go.Proofs.YtndbbgihpoiojaaGreatDoorW.PrintLast Go.Proofs.YtndbbgihpoiojaaGreatDoorW.PrintMore
attribute [local go_sem high] eqA37
theorem cfg_same (A0 A1 A2 B0 B1 B2 : Option Addr) (c0 c1 c2 d0 d1 d2 : Nat) (l0 : List Int) (l1 : List S70) (l2 : List Int) (w : World)
 (h0 : Kd.C (Kd.int .u64) w A0 l0.length l0) (h1 : Kd.C k70 w A1 l1.length l1) (h2 : Kd.C (Kd.int .i64) w A2 l2.length l2)
 (g0 : Kd.C (Kd.int .u64) w B0 l0.length l0) (g1 : Kd.C k70 w B1 l1.length l1) (g2 : Kd.C (Kd.int .i64) w B2 l2.length l2) :
 Calls Tryz.prog 24 #[.agg #[.slice A0 l0.length c0, .slice A1 l1.length c1, .slice A2 l2.length c2], .agg #[.slice B0 l0.length d0, .slice B1 l1.length d1, .slice B2 l2.length d2]] w fun e w' => e = .returned (.bool true) ∧ Below w.heap.size w w' := by
 have H0 := am_ h0
 have H1 := am_ h1
 have H2 := am_ h2
 have G0 := am_ g0
 have G1 := am_ g1
 have G2 := am_ g2
 clear h0 h1 h2 g0 g1 g2
 obtain ⟨W, hW⟩ : ∃ W, (w.alloc (.cells #[.slice A0 l0.length c0, .slice A1 l1.length c1, .slice A2 l2.length c2] 26)).alloc (.cells #[.slice B0 l0.length d0, .slice B1 l1.length d1, .slice B2 l2.length d2] 26) = W := ⟨_, rfl⟩
 have HB := am_ (show Below w.heap.size w W by rw [← hW]; exact b1_ (b1_ (Below.refl _ _) _) _)
 have hx1 : W.heap[w.heap.size]? = some (.cells #[.slice A0 l0.length c0, .slice A1 l1.length c1, .slice A2 l2.length c2] 26) := by
  rw [← hW]; exact (wld.alloc_other (by simp) _).trans (wld.alloc_same _ _)
 have hx2 : W.heap[w.heap.size + 1]? = some (.cells #[.slice B0 l0.length d0, .slice B1 l1.length d1, .slice B2 l2.length d2] 26) := by
  rw [← hW]
  have h := wld.alloc_same (w.alloc (.cells #[.slice A0 l0.length c0, .slice A1 l1.length c1, .slice A2 l2.length c2] 26)) (.cells #[.slice B0 l0.length d0, .slice B1 l1.length d1, .slice B2 l2.length d2] 26)
  rw [World.size_alloc] at h
  exact h
 have X1 := am_ hx1
 have X2 := am_ hx2
 have HW := am_ hW
 clear hW hx1 hx2
 go_enter Tryz.func24, Tryz.ntmps24
 go_wp2_with fail
 rw [HW.out]
 refine (eq49 A0 c0 B0 d0 l0 W (Kd.C_below H0.out HB.out) (Kd.C_below G0.out HB.out)).mono ?_
 rintro e w1 ⟨rfl, hb1⟩
 have HB1 := am_ hb1
 have Y1 := am_ ((hb1.block _ (blk_lt X1.out)).trans X1.out)
 have Y2 := am_ ((hb1.block _ (blk_lt X2.out)).trans X2.out)
 have z1 := wld.cell_of (o := 1) (v := .slice A1 l1.length c1) Y1.out rfl
 have z2 := wld.cell_of (o := 1) (v := .slice B1 l1.length d1) Y2.out rfl
 clear hb1
 go_wp2_with fail
 refine (eq50 A1 c1 B1 d1 l1 w1 (Kd.C_below H1.out (below_step HB.out HB1.out)) (Kd.C_below G1.out (below_step HB.out HB1.out))).mono ?_
 rintro e w2 ⟨rfl, hb2⟩
 clear z1 z2
 have HB2 := am_ (below_step (below_step HB.out HB1.out) hb2)
 have z1 := wld.cell_of (o := 2) (v := .slice A2 l2.length c2) ((hb2.block _ (blk_lt Y1.out)).trans Y1.out) rfl
 have z2 := wld.cell_of (o := 2) (v := .slice B2 l2.length d2) ((hb2.block _ (blk_lt Y2.out)).trans Y2.out) rfl
 clear hb2
 go_wp2_with fail
 refine (eq51 A2 c2 B2 d2 l2 w2 (Kd.C_below H2.out HB2.out) (Kd.C_below G2.out HB2.out)).mono ?_
 rintro e w3 ⟨rfl, hb3⟩
 go_wp2_with fail
 go_ret
 exact ⟨rfl, below_step HB2.out hb3⟩
theorem req_same (A B : Option Addr) (c d : Nat) (k l m p lim : Int) (key to_ : ByteArray) (v : List Int) (w : World)
 (h : Kd.C (Kd.int .u8) w A v.length v) (g : Kd.C (Kd.int .u8) w B v.length v) :
 Calls Tryz.prog 52 #[.agg #[.int .i64 k, .int .i64 l, .int .i64 m, .int .i64 p, .string key, .string to_, .slice A v.length c, .int .i64 lim], .agg #[.int .i64 k, .int .i64 l, .int .i64 m, .int .i64 p, .string key, .string to_, .slice B v.length d, .int .i64 lim]] w fun e w' => e = .returned (.bool true) ∧ Below w.heap.size w w' := by
 have H0 := am_ h
 have G0 := am_ g
 clear h g
 obtain ⟨W, hW⟩ : ∃ W, (w.alloc (.cells #[.int .i64 k, .int .i64 l, .int .i64 m, .int .i64 p, .string key, .string to_, .slice A v.length c, .int .i64 lim] 49)).alloc (.cells #[.int .i64 k, .int .i64 l, .int .i64 m, .int .i64 p, .string key, .string to_, .slice B v.length d, .int .i64 lim] 49) = W := ⟨_, rfl⟩
 have HB := am_ (show Below w.heap.size w W by rw [← hW]; exact b1_ (b1_ (Below.refl _ _) _) _)
 have HW := am_ hW
 clear hW
 go_enter Tryz.func52, Tryz.ntmps52
 go_wp2_with fail
 rw [HW.out]
 refine (eq26 A c B d v W (Kd.C_below H0.out HB.out) (Kd.C_below G0.out HB.out)).mono ?_
 rintro e w1 ⟨rfl, hb1⟩
 go_wp2_with fail
 go_ret
 exact ⟨rfl, below_step HB.out hb1⟩
end Go.Proofs.YtndbbgihpoiojaaGreatDoor.Q
namespace Go.Proofs.YtndbbgihpoiojaaGreatDoor.Q
open Go.RowKit Go.Proofs.YtndbbgihpoiojaaGreatDoorW.PrintWords Go.Proofs.YtndbbgihpoiojaaGreatDoorW.PrintLast Go.Proofs.YtndbbgihpoiojaaGreatDoorW.PrintMore
abbrev evC (x : S52) (A8 : Option Addr) (c8 : Nat) (A11 : Option Addr) (c11 : Nat) : Array Value := #[.int .i64 x.f0, .int .i64 x.f1, .int .i64 x.f2.f0, .int .i64 x.f2.f1.f0, .int .i64 x.f2.f1.f1, .int .i64 x.f2.f2, .string x.f2.f3, .string x.f2.f4, .slice A8 x.f2.f5.length c8, .int .i64 x.f2.f6, .int .i64 x.f3, .slice A11 x.f4.length c11]
abbrev z52c : Array Value := #[.int .i64 0, .int .i64 0, .int .i64 0, .int .i64 0, .int .i64 0, .int .i64 0, .string ⟨#[]⟩, .string ⟨#[]⟩, .slice none 0 0, .int .i64 0, .int .i64 0, .slice none 0 0]
theorem sz52_ : (Tryz.prog.info? 52).map (·.size) = some 12 := by kernel_rfl
structure TT (W w' : World) (s : Nat × Nat) (cx cy : Array Value) : Prop where
 x : w'.heap[s.1]? = some (.cells cx 52 (0, 0))
 y : w'.heap[s.2]? = some (.cells cy 52 (0, 0))
 ne : s.1 ≠ s.2
 gx : W.heap.size ≤ s.1
 gy : W.heap.size ≤ s.2
 b : Below W.heap.size W w'
abbrev Two (W w' : World) (s : Nat × Nat) : Prop := TT W w' s z52c z52c
theorem two_new (W : World) : ((W.drew.alloc (.cells z52c 52)).alloc (.cells z52c 52)).heap[W.heap.size]? = some (.cells z52c 52 (0, 0)) ∧ ((W.drew.alloc (.cells z52c 52)).alloc (.cells z52c 52)).heap[W.heap.size + 1]? = some (.cells z52c 52 (0, 0)) := by
 constructor
 · exact (wld.alloc_other (w := W.drew.alloc (.cells z52c 52)) (by simp) _).trans (wld.alloc_same W.drew _)
 have h := wld.alloc_same (W.drew.alloc (.cells z52c 52)) (.cells z52c 52)
 rw [World.size_alloc] at h
 exact h
theorem two_a (W : World) : Two W ((W.drew.alloc (.cells z52c 52)).alloc (.cells z52c 52)) (W.heap.size, W.heap.size + 1) := ⟨(two_new W).1, (two_new W).2, by show W.heap.size ≠ W.heap.size + 1; omega, Nat.le_refl _, Nat.le_succ _, b1_ (b1_ (b3_ (Below.refl _ _)) _) _⟩
theorem two_b (W : World) : Two W ((W.drew.alloc (.cells z52c 52)).alloc (.cells z52c 52)) (W.heap.size + 1, W.heap.size) := ⟨(two_new W).2, (two_new W).1, by show W.heap.size + 1 ≠ W.heap.size; omega, Nat.le_succ _, Nat.le_refl _, b1_ (b1_ (b3_ (Below.refl _ _)) _) _⟩
theorem TT.old {W w' : World} {s : Nat × Nat} {cx cy : Array Value} (h : TT W w' s cx cy) {ad : Addr} {v : Value} (hc : W.cell? ad = some v) : w'.cell? ad = some v := (h.b.cell (World.block_lt_of_cell? W _ hc)).trans hc
theorem row_far (w : World) (g k : Nat) (cs : Array Value) (h : k ≠ g) : (w.setRow g cs).heap[k]? = w.heap[k]? := by
 unfold World.setRow
 simp [Array.getElem?_modify, Ne.symm h]
theorem row_at {w : World} {g : Nat} {cur : Array Value} {t : TypeId} (cs : Array Value) (h : w.heap[g]? = some (.cells cur t (0, 0))) : (w.setRow g cs).heap[g]? = some (.cells cs t (0, 0)) := by
 unfold World.setRow
 simp [Array.getElem?_modify, h]
theorem row_below {W w : World} (h : Below W.heap.size W w) {g : Nat} (hg : W.heap.size ≤ g) (cs : Array Value) : Below W.heap.size W (w.setRow g cs) :=
 ⟨h.os, h.tape, h.output, by unfold World.setRow; simpa using h.size, fun i hi => (row_far w g i cs (by omega)).trans (h.block i hi)⟩
theorem TT.sx {W w' : World} {s : Nat × Nat} {cx cy : Array Value} (h : TT W w' s cx cy) (c : Array Value) : TT W (w'.setRow s.1 c) s c cy :=
 ⟨row_at c h.x, (row_far _ _ _ _ h.ne.symm).trans h.y, h.ne, h.gx, h.gy, row_below h.b h.gx c⟩
theorem TT.sy {W w' : World} {s : Nat × Nat} {cx cy : Array Value} (h : TT W w' s cx cy) (c : Array Value) : TT W (w'.setRow s.2 c) s cx c :=
 ⟨(row_far _ _ _ _ h.ne).trans h.x, row_at c h.y, h.ne, h.gx, h.gy, row_below h.b h.gy c⟩
theorem cells52 {w : World} {g : Nat} {x : S52} {A8 A11 : Option Addr} {c8 c11 : Nat} (h : w.heap[g]? = some (.cells (evC x A8 c8 A11 c11) 52 (0, 0))) : w.cell? ⟨g, 0, none⟩ = some (.int .i64 x.f0) ∧ w.cell? ⟨g, 1, none⟩ = some (.int .i64 x.f1) ∧ w.cell? ⟨g, 2, none⟩ = some (.int .i64 x.f2.f0) ∧ w.cell? ⟨g, 3, none⟩ = some (.int .i64 x.f2.f1.f0) ∧ w.cell? ⟨g, 4, none⟩ = some (.int .i64 x.f2.f1.f1) ∧ w.cell? ⟨g, 5, none⟩ = some (.int .i64 x.f2.f2) ∧ w.cell? ⟨g, 6, none⟩ = some (.string x.f2.f3) ∧ w.cell? ⟨g, 7, none⟩ = some (.string x.f2.f4) ∧ w.cell? ⟨g, 8, none⟩ = some (.slice A8 x.f2.f5.length c8) ∧ w.cell? ⟨g, 9, none⟩ = some (.int .i64 x.f2.f6) ∧ w.cell? ⟨g, 10, none⟩ = some (.int .i64 x.f3) ∧ w.cell? ⟨g, 11, none⟩ = some (.slice A11 x.f4.length c11) :=
 (c12_ h)
theorem keep_ {W w : World} {ad : Addr} {v : Value} (h : Below W.heap.size W w) (hc : W.cell? ad = some v) : w.cell? ad = some v := (h.cell (World.block_lt_of_cell? W _ hc)).trans hc
theorem evs_same (A B : Option Addr) (c d : Nat) (l : List S52) (w : World) (h : Kd.C k52 w A l.length l) (g : Kd.C k52 w B l.length l) :
 Calls Tryz.prog 25 #[.slice A l.length c, .slice B l.length d] w fun e w' => e = .returned (.bool true) ∧ Below w.heap.size w w' := by
 have hl := h.2.1
 unfold maxLen at hl
 have H0 := am_ h
 have G0 := am_ g
 clear h g
 go_enter Tryz.func25, Tryz.ntmps25
 go_wp2
 go_loopw [16] (fun v wr => ∃ i : Nat, i ≤ l.length ∧ v = .int .i64 i ∧ Aside0 (Below w.heap.size w wr)) (fun v _ => l.length - (intOf v).toNat)
 case atStart => exact ⟨0, Nat.zero_le _, rfl, ⟨Below.refl _ _⟩⟩
 case round =>
  obtain ⟨i, hi, rfl, HB⟩ := hrel
  by_cases hlt : i < l.length
  · obtain ⟨ad0, A8, c8, A11, c11, e0, x0, x1, x2, x3, x4, x5, x6, x7, x8, x9, x10, x11, lx8, rx8, lx11, rx11⟩ := at_T52 (Kd.C_below H0.out HB.out) (i : Int) (Int.natCast_nonneg i) (by omega)
    obtain ⟨ad1, B8, d8, B11, d11, e1, y0, y1, y2, y3, y4, y5, y6, y7, y8, y9, y10, y11, ly8, ry8, ly11, ry11⟩ := at_T52 (Kd.C_below G0.out HB.out) (i : Int) (Int.natCast_nonneg i) (by omega)
    subst e0 e1
    rw [Int.toNat_natCast] at x0 x1 x2 x3 x4 x5 x6 x7 x8 x9 x10 x11 y0 y1 y2 y3 y4 y5 y6 y7 y8 y9 y10 y11
    generalize rd_T52 l (i : Int) = x at *
    have RX8 := am_ rx8
    have RY8 := am_ ry8
    have RX11 := am_ rx11
    have RY11 := am_ ry11
    have LX := am_ lx11
    have LY := am_ ly11
    clear rx8 ry8 rx11 ry11 lx11 ly11 lx8 ly8
    rename_i wr
    go_wp2_with fail
    refine start_ (n := 12) (S := fun w' => w'.cell? (ad0.add (i * 12)) = some (.int .i64 x.f0) ∧ w'.cell? ⟨(ad0.add (i * 12)).block, (ad0.add (i * 12)).off + 1, none⟩ = some (.int .i64 x.f1) ∧ w'.cell? ⟨(ad0.add (i * 12)).block, (ad0.add (i * 12)).off + 2, none⟩ = some (.int .i64 x.f2.f0) ∧ w'.cell? ⟨(ad0.add (i * 12)).block, (ad0.add (i * 12)).off + 3, none⟩ = some (.int .i64 x.f2.f1.f0) ∧ w'.cell? ⟨(ad0.add (i * 12)).block, (ad0.add (i * 12)).off + 4, none⟩ = some (.int .i64 x.f2.f1.f1) ∧ w'.cell? ⟨(ad0.add (i * 12)).block, (ad0.add (i * 12)).off + 5, none⟩ = some (.int .i64 x.f2.f2) ∧ w'.cell? ⟨(ad0.add (i * 12)).block, (ad0.add (i * 12)).off + 6, none⟩ = some (.string x.f2.f3) ∧ w'.cell? ⟨(ad0.add (i * 12)).block, (ad0.add (i * 12)).off + 7, none⟩ = some (.string x.f2.f4) ∧ w'.cell? ⟨(ad0.add (i * 12)).block, (ad0.add (i * 12)).off + 8, none⟩ = some (.slice A8 x.f2.f5.length c8) ∧ w'.cell? ⟨(ad0.add (i * 12)).block, (ad0.add (i * 12)).off + 9, none⟩ = some (.int .i64 x.f2.f6) ∧ w'.cell? ⟨(ad0.add (i * 12)).block, (ad0.add (i * 12)).off + 10, none⟩ = some (.int .i64 x.f3) ∧ w'.cell? ⟨(ad0.add (i * 12)).block, (ad0.add (i * 12)).off + 11, none⟩ = some (.slice A11 x.f4.length c11) ∧ w'.cell? (ad1.add (i * 12)) = some (.int .i64 x.f0) ∧ w'.cell? ⟨(ad1.add (i * 12)).block, (ad1.add (i * 12)).off + 1, none⟩ = some (.int .i64 x.f1) ∧ w'.cell? ⟨(ad1.add (i * 12)).block, (ad1.add (i * 12)).off + 2, none⟩ = some (.int .i64 x.f2.f0) ∧ w'.cell? ⟨(ad1.add (i * 12)).block, (ad1.add (i * 12)).off + 3, none⟩ = some (.int .i64 x.f2.f1.f0) ∧ w'.cell? ⟨(ad1.add (i * 12)).block, (ad1.add (i * 12)).off + 4, none⟩ = some (.int .i64 x.f2.f1.f1) ∧ w'.cell? ⟨(ad1.add (i * 12)).block, (ad1.add (i * 12)).off + 5, none⟩ = some (.int .i64 x.f2.f2) ∧ w'.cell? ⟨(ad1.add (i * 12)).block, (ad1.add (i * 12)).off + 6, none⟩ = some (.string x.f2.f3) ∧ w'.cell? ⟨(ad1.add (i * 12)).block, (ad1.add (i * 12)).off + 7, none⟩ = some (.string x.f2.f4) ∧ w'.cell? ⟨(ad1.add (i * 12)).block, (ad1.add (i * 12)).off + 8, none⟩ = some (.slice B8 x.f2.f5.length d8) ∧ w'.cell? ⟨(ad1.add (i * 12)).block, (ad1.add (i * 12)).off + 9, none⟩ = some (.int .i64 x.f2.f6) ∧ w'.cell? ⟨(ad1.add (i * 12)).block, (ad1.add (i * 12)).off + 10, none⟩ = some (.int .i64 x.f3) ∧ w'.cell? ⟨(ad1.add (i * 12)).block, (ad1.add (i * 12)).off + 11, none⟩ = some (.slice B11 x.f4.length d11)) (ds := []) (bs_ 12 0) (by kernel_rfl) rfl rfl ⟨x0, x1, x2, x3, x4, x5, x6, x7, x8, x9, x10, x11, y0, y1, y2, y3, y4, y5, y6, y7, y8, y9, y10, y11⟩ (fun hHeld => ?_)
    refine pA_ 0 19 (bs_ 12 1) ?_
    refine pA_ 1 20 (bs_ 12 3) ?_
    refine pA_ 2 21 (bs_ 12 7) ?_
    refine pA_ 4 23 (bs_ 12 23) ?_
    refine pA_ 5 24 (bs_ 12 55) ?_
    refine pA_ 6 25 (bs_ 12 119) ?_
    refine tA_ hHeld 3 22 (bs_ 12 127) ?_
    refine tA_ hHeld 7 26 (bs_ 12 255) ?_
    refine join_ (σ := Nat × Nat) 2 #[true, true, true, true, true, true, true, true, true, true, false, false] (fun s => [(6, .pointer (some ⟨s.1, 0, none⟩)), (7, .pointer (some ⟨s.2, 0, none⟩))]) (fun s w' => Two wr w' s) ?_ ?_
    rotate_left
    · intro hCont
      refine two_ (i := 8) (j := 9) (Ni := some 6) (Nj := some 7) #[true, true, true, true, true, true, true, true, true, false, false, false] #[true, true, true, true, true, true, true, true, false, true, false, false] rfl rfl rfl rfl (by kernel_rfl) (by decide) (by decide) (fun K hK => ?_) (fun K hK => ?_)
      · skip
        refine vA_ ?_
        refine hK.out _ _ ⟨wld.cellA x0 _, wld.cellA x1 _, wld.cellA x2 _, wld.cellA x3 _, wld.cellA x4 _, wld.cellA x5 _, wld.cellA x6 _, wld.cellA x7 _, wld.cellA x8 _, wld.cellA x9 _, wld.cellA x10 _, wld.cellA x11 _, wld.cellA y0 _, wld.cellA y1 _, wld.cellA y2 _, wld.cellA y3 _, wld.cellA y4 _, wld.cellA y5 _, wld.cellA y6 _, wld.cellA y7 _, wld.cellA y8 _, wld.cellA y9 _, wld.cellA y10 _, wld.cellA y11 _⟩ (fun hHeld => ?_)
        clear hK K
        refine nA_ ?_
        refine oA_ 9 7 (bs_ 12 1023) (fun K hK => ?_)
        refine vA_ ?_
        refine hK.out _ _ ⟨wld.cellA (wld.cellA x0 _) _, wld.cellA (wld.cellA x1 _) _, wld.cellA (wld.cellA x2 _) _, wld.cellA (wld.cellA x3 _) _, wld.cellA (wld.cellA x4 _) _, wld.cellA (wld.cellA x5 _) _, wld.cellA (wld.cellA x6 _) _, wld.cellA (wld.cellA x7 _) _, wld.cellA (wld.cellA x8 _) _, wld.cellA (wld.cellA x9 _) _, wld.cellA (wld.cellA x10 _) _, wld.cellA (wld.cellA x11 _) _, wld.cellA (wld.cellA y0 _) _, wld.cellA (wld.cellA y1 _) _, wld.cellA (wld.cellA y2 _) _, wld.cellA (wld.cellA y3 _) _, wld.cellA (wld.cellA y4 _) _, wld.cellA (wld.cellA y5 _) _, wld.cellA (wld.cellA y6 _) _, wld.cellA (wld.cellA y7 _) _, wld.cellA (wld.cellA y8 _) _, wld.cellA (wld.cellA y9 _) _, wld.cellA (wld.cellA y10 _) _, wld.cellA (wld.cellA y11 _) _⟩ (fun hHeld => ?_)
        clear hK K
        refine nA_ ?_
        exact norm_ (by simp only [putAll, Act.put, List.setIfInBounds_toArray, List.set_cons_zero, List.set_cons_succ]) (hCont (wr.heap.size, wr.heap.size + 1) _ (two_a wr))
      skip
      refine vA_ ?_
      refine hK.out _ _ ⟨wld.cellA x0 _, wld.cellA x1 _, wld.cellA x2 _, wld.cellA x3 _, wld.cellA x4 _, wld.cellA x5 _, wld.cellA x6 _, wld.cellA x7 _, wld.cellA x8 _, wld.cellA x9 _, wld.cellA x10 _, wld.cellA x11 _, wld.cellA y0 _, wld.cellA y1 _, wld.cellA y2 _, wld.cellA y3 _, wld.cellA y4 _, wld.cellA y5 _, wld.cellA y6 _, wld.cellA y7 _, wld.cellA y8 _, wld.cellA y9 _, wld.cellA y10 _, wld.cellA y11 _⟩ (fun hHeld => ?_)
      clear hK K
      refine nA_ ?_
      refine oA_ 8 6 (bs_ 12 1023) (fun K hK => ?_)
      refine vA_ ?_
      refine hK.out _ _ ⟨wld.cellA (wld.cellA x0 _) _, wld.cellA (wld.cellA x1 _) _, wld.cellA (wld.cellA x2 _) _, wld.cellA (wld.cellA x3 _) _, wld.cellA (wld.cellA x4 _) _, wld.cellA (wld.cellA x5 _) _, wld.cellA (wld.cellA x6 _) _, wld.cellA (wld.cellA x7 _) _, wld.cellA (wld.cellA x8 _) _, wld.cellA (wld.cellA x9 _) _, wld.cellA (wld.cellA x10 _) _, wld.cellA (wld.cellA x11 _) _, wld.cellA (wld.cellA y0 _) _, wld.cellA (wld.cellA y1 _) _, wld.cellA (wld.cellA y2 _) _, wld.cellA (wld.cellA y3 _) _, wld.cellA (wld.cellA y4 _) _, wld.cellA (wld.cellA y5 _) _, wld.cellA (wld.cellA y6 _) _, wld.cellA (wld.cellA y7 _) _, wld.cellA (wld.cellA y8 _) _, wld.cellA (wld.cellA y9 _) _, wld.cellA (wld.cellA y10 _) _, wld.cellA (wld.cellA y11 _) _⟩ (fun hHeld => ?_)
      clear hK K
      refine nA_ ?_
      exact norm_ (by simp only [putAll, Act.put, List.setIfInBounds_toArray, List.set_cons_zero, List.set_cons_succ]) (hCont (wr.heap.size + 1, wr.heap.size) _ (two_b wr))
    rintro ⟨gx, gy⟩ w3 hT
    have HT := am_ hT
    have hHeld : w3.cell? (ad0.add (i * 12)) = some (.int .i64 x.f0) ∧ w3.cell? ⟨(ad0.add (i * 12)).block, (ad0.add (i * 12)).off + 1, none⟩ = some (.int .i64 x.f1) ∧ w3.cell? ⟨(ad0.add (i * 12)).block, (ad0.add (i * 12)).off + 2, none⟩ = some (.int .i64 x.f2.f0) ∧ w3.cell? ⟨(ad0.add (i * 12)).block, (ad0.add (i * 12)).off + 3, none⟩ = some (.int .i64 x.f2.f1.f0) ∧ w3.cell? ⟨(ad0.add (i * 12)).block, (ad0.add (i * 12)).off + 4, none⟩ = some (.int .i64 x.f2.f1.f1) ∧ w3.cell? ⟨(ad0.add (i * 12)).block, (ad0.add (i * 12)).off + 5, none⟩ = some (.int .i64 x.f2.f2) ∧ w3.cell? ⟨(ad0.add (i * 12)).block, (ad0.add (i * 12)).off + 6, none⟩ = some (.string x.f2.f3) ∧ w3.cell? ⟨(ad0.add (i * 12)).block, (ad0.add (i * 12)).off + 7, none⟩ = some (.string x.f2.f4) ∧ w3.cell? ⟨(ad0.add (i * 12)).block, (ad0.add (i * 12)).off + 8, none⟩ = some (.slice A8 x.f2.f5.length c8) ∧ w3.cell? ⟨(ad0.add (i * 12)).block, (ad0.add (i * 12)).off + 9, none⟩ = some (.int .i64 x.f2.f6) ∧ w3.cell? ⟨(ad0.add (i * 12)).block, (ad0.add (i * 12)).off + 10, none⟩ = some (.int .i64 x.f3) ∧ w3.cell? ⟨(ad0.add (i * 12)).block, (ad0.add (i * 12)).off + 11, none⟩ = some (.slice A11 x.f4.length c11) ∧ w3.cell? (ad1.add (i * 12)) = some (.int .i64 x.f0) ∧ w3.cell? ⟨(ad1.add (i * 12)).block, (ad1.add (i * 12)).off + 1, none⟩ = some (.int .i64 x.f1) ∧ w3.cell? ⟨(ad1.add (i * 12)).block, (ad1.add (i * 12)).off + 2, none⟩ = some (.int .i64 x.f2.f0) ∧ w3.cell? ⟨(ad1.add (i * 12)).block, (ad1.add (i * 12)).off + 3, none⟩ = some (.int .i64 x.f2.f1.f0) ∧ w3.cell? ⟨(ad1.add (i * 12)).block, (ad1.add (i * 12)).off + 4, none⟩ = some (.int .i64 x.f2.f1.f1) ∧ w3.cell? ⟨(ad1.add (i * 12)).block, (ad1.add (i * 12)).off + 5, none⟩ = some (.int .i64 x.f2.f2) ∧ w3.cell? ⟨(ad1.add (i * 12)).block, (ad1.add (i * 12)).off + 6, none⟩ = some (.string x.f2.f3) ∧ w3.cell? ⟨(ad1.add (i * 12)).block, (ad1.add (i * 12)).off + 7, none⟩ = some (.string x.f2.f4) ∧ w3.cell? ⟨(ad1.add (i * 12)).block, (ad1.add (i * 12)).off + 8, none⟩ = some (.slice B8 x.f2.f5.length d8) ∧ w3.cell? ⟨(ad1.add (i * 12)).block, (ad1.add (i * 12)).off + 9, none⟩ = some (.int .i64 x.f2.f6) ∧ w3.cell? ⟨(ad1.add (i * 12)).block, (ad1.add (i * 12)).off + 10, none⟩ = some (.int .i64 x.f3) ∧ w3.cell? ⟨(ad1.add (i * 12)).block, (ad1.add (i * 12)).off + 11, none⟩ = some (.slice B11 x.f4.length d11) := ⟨hT.old x0, hT.old x1, hT.old x2, hT.old x3, hT.old x4, hT.old x5, hT.old x6, hT.old x7, hT.old x8, hT.old x9, hT.old x10, hT.old x11, hT.old y0, hT.old y1, hT.old y2, hT.old y3, hT.old y4, hT.old y5, hT.old y6, hT.old y7, hT.old y8, hT.old y9, hT.old y10, hT.old y11⟩
    refine norm_ (a' := ?_) ?_ ?_
    rotate_left
    · simp only [putAll, Act.put, List.setIfInBounds_toArray, List.set_cons_zero, List.set_cons_succ]
      rfl
    refine one_ (i := 10) (N := none) (bs_ 12 2047) rfl rfl (by kernel_rfl) (by decide) (fun K hK => ?_)
    rw [if_pos (by rfl)]
    refine wp_store_row 52 (.tmp 6) (.tmp 22) rfl gx (evC x A8 c8 A11 c11) rfl rfl 52 z52c HT.out.x sz52_ rfl (by simp [Value.oneCell']) ?_
    have HT1 := am_ (TT.sx HT.out (evC x A8 c8 A11 c11))
    refine hK.out _ _ ⟨HT1.out.old x0, HT1.out.old x1, HT1.out.old x2, HT1.out.old x3, HT1.out.old x4, HT1.out.old x5, HT1.out.old x6, HT1.out.old x7, HT1.out.old x8, HT1.out.old x9, HT1.out.old x10, HT1.out.old x11, HT1.out.old y0, HT1.out.old y1, HT1.out.old y2, HT1.out.old y3, HT1.out.old y4, HT1.out.old y5, HT1.out.old y6, HT1.out.old y7, HT1.out.old y8, HT1.out.old y9, HT1.out.old y10, HT1.out.old y11⟩ (fun hHeld => ?_)
    clear hK K
    refine one_ (i := 11) (N := none) (bs_ 12 4095) rfl rfl (by kernel_rfl) (by decide) (fun K hK => ?_)
    rw [if_pos (by rfl)]
    refine wp_store_row 52 (.tmp 7) (.tmp 26) rfl gy (evC x B8 d8 B11 d11) rfl rfl 52 z52c HT1.out.y sz52_ rfl (by simp [Value.oneCell']) ?_
    have HT2 := am_ (TT.sy HT1.out (evC x B8 d8 B11 d11))
    refine hK.out _ _ ⟨HT2.out.old x0, HT2.out.old x1, HT2.out.old x2, HT2.out.old x3, HT2.out.old x4, HT2.out.old x5, HT2.out.old x6, HT2.out.old x7, HT2.out.old x8, HT2.out.old x9, HT2.out.old x10, HT2.out.old x11, HT2.out.old y0, HT2.out.old y1, HT2.out.old y2, HT2.out.old y3, HT2.out.old y4, HT2.out.old y5, HT2.out.old y6, HT2.out.old y7, HT2.out.old y8, HT2.out.old y9, HT2.out.old y10, HT2.out.old y11⟩ (fun hHeld => ?_)
    clear hK K
    refine done_ (by kernel_rfl) ?_
    have HT3 := am_ (TT.b HT2.out)
    have X5 := am_ HT2.out.x
    have Y5 := am_ HT2.out.y
    clear hHeld HT HT1 HT2 hT x0 x1 x2 x3 x4 x5 x6 x7 x8 x9 x10 x11 y0 y1 y2 y3 y4 y5 y6 y7 y8 y9 y10 y11
    (try simp only [Act.put, List.setIfInBounds_toArray, List.set_cons_zero, List.set_cons_succ])
    generalize (w3.setRow gx (evC x A8 c8 A11 c11)).setRow gy (evC x B8 d8 B11 d11) = w5 at HT3 X5 Y5 ⊢
    replace RX8 := am_ (Kd.C_below RX8.out HT3.out)
    replace RY8 := am_ (Kd.C_below RY8.out HT3.out)
    replace RX11 := am_ (Kd.C_below RX11.out HT3.out)
    replace RY11 := am_ (Kd.C_below RY11.out HT3.out)
    replace HB := am_ (below_step HB.out HT3.out)
    clear HT3
    obtain ⟨a0, a1, a2, a3, a4, a5, a6, a7, a8, a9, a10, a11⟩ := cells52 X5.out
    obtain ⟨b0, b1, b2, b3, b4, b5, b6, b7, b8, b9, b10, b11⟩ := cells52 Y5.out
    go_wp2_with fail
    refine (req_same A8 B8 c8 d8 x.f2.f0 x.f2.f1.f0 x.f2.f1.f1 x.f2.f2 x.f2.f6 x.f2.f3 x.f2.f4 x.f2.f5 w5 RX8.out RY8.out).mono ?_
    rintro e w6 ⟨rfl, hb6⟩
    clear a0 a1 a2 a3 a4 a5 a6 a7 a8 a9 a10 a11 b0 b1 b2 b3 b4 b5 b6 b7 b8 b9 b10 b11 RX8 RY8
    replace X5 := am_ ((hb6.block _ (blk_lt X5.out)).trans X5.out)
    replace Y5 := am_ ((hb6.block _ (blk_lt Y5.out)).trans Y5.out)
    replace RX11 := am_ (Kd.C_below RX11.out hb6)
    replace RY11 := am_ (Kd.C_below RY11.out hb6)
    replace HB := am_ (below_step HB.out hb6)
    clear hb6
    have a11 := wld.cell_of (o := 11) (v := .slice A11 x.f4.length c11) X5.out rfl
    have b11 := wld.cell_of (o := 11) (v := .slice B11 x.f4.length d11) Y5.out rfl
    have hn := RX11.out.2.1
    unfold maxLen at hn
    go_wp2
    clear a11 b11
    go_loopw [66] (fun v wr => ∃ j : Nat, j ≤ x.f4.length ∧ v = .int .i64 j ∧ Aside0 (Below w6.heap.size w6 wr)) (fun v _ => x.f4.length - (intOf v).toNat)
    case atStart => exact ⟨0, Nat.zero_le _, rfl, ⟨Below.refl _ _⟩⟩
    case round =>
     obtain ⟨j, hj, rfl, HJ⟩ := hrel
     rename_i wj
     by_cases hjl : j < x.f4.length
     · obtain ⟨sx, S0, k0, e0, s0_, ls0, rs0⟩ := at_L7 (Kd.C_below RX11.out HJ.out) (j : Int) (Int.natCast_nonneg j) (by omega)
       obtain ⟨sy, S1, k1, e1, s1_, ls1, rs1⟩ := at_L7 (Kd.C_below RY11.out HJ.out) (j : Int) (Int.natCast_nonneg j) (by omega)
       subst e0 e1
       rw [Int.toNat_natCast] at s0_ s1_
       generalize rd_L7 x.f4 (j : Int) = z at *
       have RS0 := am_ rs0
       have RS1 := am_ rs1
       clear rs0 rs1 ls0 ls1
       have a11 := keep_ HJ.out (wld.cell_of (o := 11) (v := .slice (some sx) x.f4.length c11) X5.out rfl)
       have b11 := keep_ HJ.out (wld.cell_of (o := 11) (v := .slice (some sy) x.f4.length d11) Y5.out rfl)
       go_wp2_with fail
       refine start_ (n := 12) (S := fun w' => w'.cell? ⟨gx, 11, none⟩ = some (.slice (some sx) x.f4.length c11) ∧ w'.cell? ⟨gy, 11, none⟩ = some (.slice (some sy) x.f4.length d11) ∧ w'.cell? (sx.add j) = some (.slice S0 z.length k0) ∧ w'.cell? (sy.add j) = some (.slice S1 z.length k1)) (ds := []) (bs_ 12 0) (by kernel_rfl) rfl rfl ⟨a11, b11, s0_, s1_⟩ (fun hHeld => ?_)
       refine pA_ 0 69 (bs_ 12 1) ?_
       refine pA_ 2 71 (bs_ 12 5) ?_
       refine pA_ 5 74 (bs_ 12 37) ?_
       refine pA_ 7 76 (bs_ 12 165) ?_
       refine tA_ hHeld 1 70 (bs_ 12 167) ?_
       refine pA_ 3 72 (bs_ 12 175) ?_
       refine tA_ hHeld 4 73 (bs_ 12 191) ?_
       refine tA_ hHeld 6 75 (bs_ 12 255) ?_
       refine pA_ 8 77 (bs_ 12 511) ?_
       refine tA_ hHeld 9 78 (bs_ 12 1023) ?_
       refine oA_ 10 79 (bs_ 12 2047) (fun K hK => ?_)
       refine gA_ Tryz.func53 #[.slice S0 z.length k0, .slice S1 z.length k1] ?_
       refine (eq53 S0 k0 S1 k1 z _ (Kd.C_below RS0.out (b3_ (Below.refl _ _))) (Kd.C_below RS1.out (b3_ (Below.refl _ _)))).mono ?_
       rintro e w7 ⟨rfl, hb7⟩
       refine ⟨_, rfl, ?_⟩
       have HB7 := am_ (below_step (b3_ (Below.refl _ _)) hb7)
       clear hb7
       refine hK.out _ _ ⟨keep_ HB7.out a11, keep_ HB7.out b11, keep_ HB7.out s0_, keep_ HB7.out s1_⟩ (fun hHeld => ?_)
       clear hK K
       refine nA_ ?_
       refine pA_ 11 80 (bs_ 12 4095) ?_
       refine done_ (by kernel_rfl) ?_
       go_wp2
       go_roundw
       case rel => exact ⟨j + 1, by omega, by go_num, ⟨below_step HJ.out HB7.out⟩⟩
       case measure => simp [intOf]; omega
     go_wp2
     go_roundw
     case rel => exact ⟨i + 1, by omega, by go_num, ⟨below_step HB.out HJ.out⟩⟩
     case measure => simp [intOf]; omega
  go_wp2
  go_ret
  exact ⟨rfl, HB.out⟩
end Go.Proofs.YtndbbgihpoiojaaGreatDoor.Q
namespace Go.Proofs.YtndbbgihpoiojaaGreatDoor.Q
open Go.RowKit Go.Proofs.YtndbbgihpoiojaaGreatDoorW.PrintWords Go.Proofs.YtndbbgihpoiojaaGreatDoorW.PrintLast
theorem rnum_c (x : ByteArray) (hx : x.size ≤ 65536) (w : World) : Calls Tryz.prog 45 #[.string x] w fun e w' => e = .returned (.tuple #[.int .i64 (refNum x.data.toList).1, .bool (sc.numOf x).isSome]) ∧ Below w.heap.size w w' := by
 have h := rnum_f x (by omega) (x.size + 4) (Nat.le_refl _)
 rw [show refNum x.data.toList = ((refNum x.data.toList).1, (sc.numOf x).isSome) from Prod.ext rfl (refNum_eq x).1] at h
 refine (cloisterref26_Number.calls _ x _ _ w h).mono ?_
 rintro e w' ⟨rfl, hd⟩
 exact ⟨rfl, hd.below⟩
theorem rlab_c (x : ByteArray) (hx : x.size ≤ 65536) (w : World) : Calls Tryz.prog 43 #[.string x] w fun e w' => e = .returned (.tuple #[.int .u64 (refLab x.data.toList).1, .bool (sc.labelOf x).isSome]) ∧ Below w.heap.size w w' := by
 have h := rlab_f x (by omega) (x.size + 1) (Nat.lt_succ_self _)
 rw [show refLab x.data.toList = ((refLab x.data.toList).1, (sc.labelOf x).isSome) from Prod.ext rfl (refLab_eq x).1] at h
 refine (cloisterref26_Label.calls _ x _ _ w h).mono ?_
 rintro e w' ⟨rfl, hd⟩
 exact ⟨rfl, hd.below⟩
theorem rkind_c (x : ByteArray) (w : World) : Calls Tryz.prog 69 #[.string x] w fun e w' => e = .returned (.int .i64 (kindN x)) ∧ Below w.heap.size w w' := by
 exact cloisterref26_kind.calls 8 x _ w (rkind_f x 8 (Nat.le_refl _))
theorem runq_c (x : ByteArray) (hx : x.size ≤ 65536) (w : World) (hE : sc.Env w) : Calls Tryz.prog 71 #[.string x] w fun e w' => ∃ t, e = .returned (.tuple #[.string t, .bool (sc.unquoteL x.data.toList).isSome]) ∧ (∀ u, sc.unquoteL x.data.toList = some u → t = ⟨u.toArray⟩) ∧ Below w.heap.size w w' := by
 obtain ⟨t, ⟨k, hk⟩, ht⟩ := runq_f x (by omega)
 refine (cloisterref26_Unquote.calls k x _ _ w hE hk).mono ?_
 rintro e w' ⟨rfl, hd⟩
 exact ⟨t, rfl, ht, hd⟩
theorem rnums_c (l : List ByteArray) (hl : ∀ x ∈ l, x.size ≤ 65536) (hn : l.length ≤ 1000000) (A : Option Addr) (c : Nat) (w : World) (hC : Kd.C Kd.string w A l.length l) (hc : l.length ≤ c) :
 Calls Tryz.prog 44 #[.slice A l.length c] w fun e w' => (match numsOf l with
  | some ns => ∃ v, e = .returned (.tuple #[v, .bool true]) ∧ Kd.R (Kd.int .i64) 3 w' w.heap.size TT_ v ns
  | none => ∃ v, e = .returned (.tuple #[v, .bool false]) ∧ Kd.R (Kd.int .i64) 3 w' w.heap.size TT_ v []) ∧ Below w.heap.size w w' := by
 have h := rnums_f 65536 (by decide) l hl hn (65541 + l.length) (by omega)
 cases hx : numsOf l with
 | some ns =>
  rw [hx] at h
  refine (cloisterref26_numbers.calls _ A c l _ _ w hC hc h).mono ?_
  rintro e w' ⟨v, rfl, hr, hb⟩
  exact ⟨⟨v, rfl, hr⟩, hb⟩
 | none =>
  rw [hx] at h
  refine (cloisterref26_numbers.calls _ A c l _ _ w hC hc h).mono ?_
  rintro e w' ⟨v, rfl, hr, hb⟩
  exact ⟨⟨v, rfl, hr⟩, hb⟩
theorem part_C {w : World} {gw : Nat} {ws : List ByteArray} (h : ∀ (j : Nat) (p : ByteArray), ws[j]? = some p → w.cell? ⟨gw, j, none⟩ = some (.string p)) (hl : ws.length ≤ 65536) (m : Nat) (l : List ByteArray) (hp : ∀ j p, l[j]? = some p → ws[m + j]? = some p) (hn : l.length ≤ 65536) :
 Kd.string.C w (some ⟨gw, m, none⟩) l.length l := by
 refine ⟨rfl, by omega, fun _ => ⟨_, rfl, fun j p hj => ⟨[.string p], rfl, rfl, fun i u hu => ?_⟩⟩⟩
 obtain ⟨rfl, rfl⟩ : i = 0 ∧ u = .string p := by
  cases i with
  | zero => exact ⟨rfl, (Option.some.inj hu).symm⟩
  | succ i => simp at hu
 have hc := h (m + j) p (hp j p hj)
 have ha : (⟨gw, m, none⟩ : Addr).add (j * Kd.string.sz + 0) = ⟨gw, m + j, none⟩ := by
  show Addr.add _ (j * 1 + 0) = _
  unfold Addr.add
  simp
 rw [ha]
 exact hc
theorem wpL_row {ops : Array Oper} {rest : List Oper} {o : Oper} {a : Act} {w : World} {Q : Exit → Act → World → Prop} (hgd : o.guard = none) (ty : TypeId) (x y : Operand) (ho : o.op = .store ty x y)
 (g : Nat) (cells : Array Value) (hx : a.eval x = .pointer (some ⟨g, 0, none⟩)) (hy : a.eval y = .agg cells) (t : TypeId) (old : Array Value) (hg : w.heap[g]? = some (.cells old t (0, 0))) (hi : (Tryz.prog.info? ty).map (·.size) = some cells.size)
 (hold : old.size = cells.size) (h1 : cells.all (·.oneCell') = true) (h : wpList Tryz.prog ops Q rest (a.put o.dst undef) (w.setRow g cells)) : wpList Tryz.prog ops Q (o :: rest) a w :=
 wpList_plain hgd fun _ hK => wp_store_row ty x y ho g cells hx hy t old hg hi hold h1 (hK _ _ h)
abbrev C49 (kind l1 l2 pl : Int) (key to_ : ByteArray) (v : Value) (lim : Int) : Array Value := #[.int .i64 kind, .int .i64 l1, .int .i64 l2, .int .i64 pl, .string key, .string to_, v, .int .i64 lim]
structure AS (w0 w : World) (q : Nat) (ce cq : Array Value) : Prop where
 env0 : sc.Env w0
 eb : w.heap[w0.heap.size]? = some (.cells ce 52 (0, 0))
 qb : w.heap[q]? = some (.cells cq 49 (0, 0))
 b0 : Below w0.heap.size w0 w
 ge : w0.heap.size < q
section
variable {w0 w w1 : World} {q : Nat} {ce cq : Array Value}
theorem AS.below (h : AS w0 w q ce cq) (hb : Below w.heap.size w w1) : AS w0 w1 q ce cq := ⟨h.env0, (hb.block _ (blk_lt h.eb)).trans h.eb, (hb.block _ (blk_lt h.qb)).trans h.qb, below_step h.b0 hb, h.ge⟩
theorem AS.env (h : AS w0 w q ce cq) : sc.Env w := h.env0.below h.b0
theorem AS.drew (h : AS w0 w q ce cq) : AS w0 w.drew q ce cq := h.below (b3_ (Below.refl _ _))
theorem AS.put (h : AS w0 w q ce cq) (j : Nat) (u : Value) {cq' : Array Value} (e : cq.toList.set j u = cq'.toList) : AS w0 (w.setCell ⟨q, j, none⟩ u) q ce cq' := by
 have hc : cq.setIfInBounds j u = cq' := Array.toList_inj.1 (by rw [Array.toList_setIfInBounds]; exact e)
 subst hc
 refine ⟨h.env0, (wld.set_other (a := ⟨q, j, none⟩) (by have := h.ge; show w0.heap.size ≠ q; omega) u).trans h.eb, blk_set h.qb j u, h.b0.setCell (p := ⟨q, j, none⟩) (by have := h.ge; show w0.heap.size ≤ q; omega) u, h.ge⟩
theorem AS.row (h : AS w0 w q ce cq) (c : Array Value) : AS w0 (w.setRow w0.heap.size c) q c cq :=
 ⟨h.env0, row_at c h.eb, (row_far _ _ _ _ (by have := h.ge; omega)).trans h.qb, row_below h.b0 (Nat.le_refl _) c, h.ge⟩
theorem AS.at (h : AS w0 w q ce cq) (i : Nat) {v : Value} (hv : cq[i]? = some v) : w.cell? ⟨q, i, none⟩ = some v := (blk_cell h.qb i).trans hv
theorem AS.grown (h : AS w0 w q ce cq) {row : Option Nat} (hg : w.grownBy w1 row) (h1 : ∀ k, row = some k → k ≠ w0.heap.size ∧ k ≠ q ∧ w0.heap.size ≤ k) : AS w0 w1 q ce cq := by
 refine ⟨h.env0, ?_, ?_, h.b0.grown hg h.b0.size (fun k e => (h1 k e).2.2), h.ge⟩
 · exact (hg.block _ (blk_lt h.eb) (fun e => (h1 _ e.symm).1 rfl)).trans h.eb
 exact (hg.block _ (blk_lt h.qb) (fun e => (h1 _ e.symm).2.1 rfl)).trans h.qb
end
theorem two_cells {w : World} {A : Option Addr} {l m : Int} (h : Kd.C (Kd.int .i64) w A [l, m].length [l, m]) : ∃ b o, A = some ⟨b, o, none⟩ ∧ w.cell? ⟨b, o, none⟩ = some (.int .i64 l) ∧ w.cell? ⟨b, o + 1, none⟩ = some (.int .i64 m) := by
 obtain ⟨b, o, cs, hA, hK, hc⟩ := Cat_ h (j := 0) (x := l) rfl (by decide)
 obtain ⟨b', o', cs', hA', hK', hc'⟩ := Cat_ h (j := 1) (x := m) rfl (by decide)
 rw [hA] at hA'
 injection hA' with e
 injection e with e1 e2
 subst e1 e2
 obtain rfl : cs = [.int .i64 l] := hK
 obtain rfl : cs' = [.int .i64 m] := hK'
 exact ⟨b, o, hA, hc 0 _ rfl, hc' 0 _ rfl⟩
theorem str_cell {w : World} {A : Option Addr} {ts : List ByteArray} (h : Kd.C Kd.string w A ts.length ts) {j : Nat} {t : ByteArray} (ht : ts[j]? = some t) : ∃ b o, A = some ⟨b, o, none⟩ ∧ ∀ i x, ts[i]? = some x → w.cell? ⟨b, o + i, none⟩ = some (.string x) := by
 obtain ⟨b, o, cs, hA, hK, hc⟩ := Cat_ h ht (by decide)
 refine ⟨b, o, hA, fun i x hi => ?_⟩
 obtain ⟨b', o', cs', hA', hK', hc'⟩ := Cat_ h hi (by decide)
 rw [hA] at hA'
 injection hA' with e
 injection e with e1 e2
 subst e1 e2
 obtain rfl : cs' = [.string x] := hK'
 have := hc' 0 _ rfl
 rw [show (Kd.string).sz = 1 from rfl, Nat.mul_one, Nat.add_zero] at this
 exact this
theorem unq_size {w u : List UInt8} (h : sc.unquoteL w = some u) : u.length ≤ w.length := by
 unfold sc.unquoteL at h
 split at h
 · split at h
   · rename_i b hb
     split at h
     · obtain rfl := Option.some.inj h
       have := sc.unqL_len _ _ _ (Nat.le_refl _) hb
       simp only [List.length_take, List.length_drop] at this
       omega
     cases h
   cases h
 cases h
theorem own_ne {W : World} {b o n c q t : Nat} {base : Nat} {ts : List ByteArray} {cells : Array Value} (h : Kd.R Kd.string 9 W base TT_ (.slice (some ⟨b, o, none⟩) n c) ts) (hq : W.heap[q]? = some (.cells cells t (0, 0))) (ht : 9 ≠ t) : b ≠ q := fun e => Kd.R_ne h hq ht (by rw [← e]; rfl)
def AskOut (w w' : World) (o : Option S52) (e : Ending) : Prop := (match o with
 | none => e = .returned (.tuple #[.agg Z52, .bool false])
 | some x => ∃ A c, e = .returned (.tuple #[.agg (C52 x.f0 x.f1 x.f2.f0 x.f2.f1.f0 x.f2.f1.f1 x.f2.f2 x.f2.f3 x.f2.f4 (.slice A x.f2.f5.length c) x.f2.f6), .bool true]) ∧ VR0 w' w.heap.size A c x.f2.f5 ∧ x.f3 = 0 ∧ x.f4 = []) ∧ Below w.heap.size w w'
theorem rask3 (gw cw : Nat) (h s kw : ByteArray) (w : World) (hE : sc.Env w) (hw : ∀ (j : Nat) (y_ : ByteArray), ([h, s, kw] : List ByteArray)[j]? = some y_ → w.cell? ⟨gw, j, none⟩ = some (.string y_)) (hs : ∀ y ∈ ([h, s, kw] : List ByteArray), y.size ≤ 65536) (hcw : 3 ≤ cw) (hk : kindN kw = 1) :
 Calls Tryz.prog 46 #[.slice (some ⟨gw, 0, none⟩) 3 cw] w fun e w' => AskOut w w' ((sc.numOf s).map fun n => askEv n 1 0 0 0 ⟨#[]⟩ ⟨#[]⟩ [] 0) e := by
 obtain ⟨OUT, hOUT⟩ : ∃ o, o = ((sc.numOf s).map fun n => askEv n 1 0 0 0 ⟨#[]⟩ ⟨#[]⟩ [] 0) := ⟨_, rfl⟩
 rw [← hOUT]
 have HOUT := am_ hOUT
 have HE := am_ hE
 have HW := am_ (fun (W' : World) (hb : Below w.heap.size w W') (j : Nat) (y_ : ByteArray) (hj : ([h, s, kw] : List ByteArray)[j]? = some y_) => (keep_ hb (hw j y_ hj) : W'.cell? ⟨gw, j, none⟩ = some (.string y_)))
 have HS := am_ hs
 have HK := am_ hk
 have hX := wld.alloc_same w (.cells Z52 52)
 have hB := b1_ (Below.refl w.heap.size w) (.cells Z52 52)
 have HX := am_ hX
 have HB := am_ hB
 have k1 := HW.out _ hB 1 s rfl
 clear hE hw hs hk hX hB hOUT
 go_enter Tryz.func46, Tryz.ntmps46
 go_wp2_with fail
 clear k1
 generalize w.alloc _ = W1 at HX HB ⊢
 refine (rnum_c s (HS.out s (by simp)) W1).mono ?_
 rintro e w1 ⟨rfl, hb1⟩
 replace HX := am_ ((hb1.block _ (blk_lt HX.out)).trans HX.out)
 replace HB := am_ (below_step HB.out hb1)
 clear hb1
 have k2 := HW.out _ HB.out 2 kw rfl
 go_wp2_with fail
 clear k2
 refine (rkind_c kw w1).mono ?_
 rintro e w2 ⟨rfl, hb2⟩
 replace HX := am_ ((hb2.block _ (blk_lt HX.out)).trans HX.out)
 replace HB := am_ (below_step HB.out hb2)
 clear hb2
 rw [HK.out]
 have HA := am_ (show AS w (w2.alloc (.cells (C49 1 0 0 0 ⟨#[]⟩ ⟨#[]⟩ (.slice none 0 0) 0) 49)) w2.heap.size Z52 (C49 1 0 0 0 ⟨#[]⟩ ⟨#[]⟩ (.slice none 0 0) 0) from ⟨HE.out, ((b1_ (Below.refl w2.heap.size w2) _).block _ (blk_lt HX.out)).trans HX.out, wld.alloc_same _ _, b1_ HB.out _, blk_lt HX.out⟩)
 clear HX HB
 go_upto_region 3 with (fail)
 generalize w2.alloc _ = W3 at HA ⊢
 generalize w2.heap.size = q at HA ⊢
 cases hn : sc.numOf s with
 | none =>
  have HO := am_ (show OUT = none by rw [HOUT.out]; rw [hn]; rfl)
  clear HOUT hn
  have hsm : (none : Option Int).isSome = false := rfl
  have HE_ := am_ (show (Tryz.prog.info? 52).map (·.size) = some 12 from size52)
  go_wp2_with (refine wpL_row rfl 52 (.tmp 2) (.tmp 31) rfl w.heap.size Z52 rfl rfl 52 Z52 HA.out.eb size52 rfl (by simp [Value.oneCell']) ?_; replace HA := am_ (HA.out.row Z52); generalize World.setRow _ _ _ = wZ at HA ⊢)
  obtain ⟨e0, e1, e2, e3, e4, e5, e6, e7, e8, e9, e10, e11⟩ := c12_ HA.out.eb
  (try rw [Exit.noGoto_ret])
  refine bodyPost_ret (v := .tuple #[.agg Z52, .bool false]) (by simp [results, Tryz.results46, go_sem, e0, e1, e2, e3, e4, e5, e6, e7, e8, e9, e10, e11]) rfl ?_
  rw [HO.out]
  exact ⟨rfl, HA.out.b0⟩
 | some n =>
  have HN := am_ hn
  have hsm : (some n).isSome = true := rfl
  rw [(refNum_eq s).2 n hn]
  clear hn
  have q0 := HA.out.at 0 rfl
  have q1 := HA.out.at 1 rfl
  have q2 := HA.out.at 2 rfl
  have q3 := HA.out.at 3 rfl
  have q4 := HA.out.at 4 rfl
  have q5 := HA.out.at 5 rfl
  have q6 := HA.out.at 6 rfl
  have q7 := HA.out.at 7 rfl
  go_wp2_with (refine wpL_row rfl 52 (.tmp 2) (.tmp 125) rfl w.heap.size (C52 1 n 1 0 0 0 ⟨#[]⟩ ⟨#[]⟩ (.slice none 0 0) 0) rfl rfl 52 Z52 HA.out.eb size52 rfl (by simp [Value.oneCell']) ?_; replace HA := am_ (HA.out.row (C52 1 n 1 0 0 0 ⟨#[]⟩ ⟨#[]⟩ (.slice none 0 0) 0)); generalize World.setRow _ _ _ = wZ at HA ⊢)
  obtain ⟨e0, e1, e2, e3, e4, e5, e6, e7, e8, e9, e10, e11⟩ := c12_ HA.out.eb
  have HO := am_ (show OUT = some (askEv n 1 0 0 0 ⟨#[]⟩ ⟨#[]⟩ [] 0) by rw [HOUT.out]; rw [HN.out]; rfl)
  clear q0 q1 q2 q3 q4 q5 q6 q7
  (try rw [Exit.noGoto_ret])
  refine bodyPost_ret (v := .tuple #[.agg (C52 1 n 1 0 0 0 ⟨#[]⟩ ⟨#[]⟩ (.slice none 0 0) 0), .bool true]) (by simp [results, Tryz.results46, go_sem, e0, e1, e2, e3, e4, e5, e6, e7, e8, e9, e10, e11]) rfl ?_
  rw [HO.out]
  exact ⟨⟨_, _, rfl, VR0.nil _ _, rfl, rfl⟩, HA.out.b0⟩
theorem rask5 (gw cw : Nat) (h s kw c d : ByteArray) (kd : Int) (g4 : (kd == 4) = false) (g3 : (kd == 3) = false) (w : World) (hE : sc.Env w) (hw : ∀ (j : Nat) (y_ : ByteArray), ([h, s, kw, c, d] : List ByteArray)[j]? = some y_ → w.cell? ⟨gw, j, none⟩ = some (.string y_)) (hs : ∀ y ∈ ([h, s, kw, c, d] : List ByteArray), y.size ≤ 65536) (hcw : 5 ≤ cw) (hk : kindN kw = kd) :
 Calls Tryz.prog 46 #[.slice (some ⟨gw, 0, none⟩) 5 cw] w fun e w' => AskOut w w' (askB kd s c d) e := by
 obtain ⟨OUT, hOUT⟩ : ∃ o, o = (askB kd s c d) := ⟨_, rfl⟩
 rw [← hOUT]
 have HOUT := am_ hOUT
 have HE := am_ hE
 have HW := am_ (fun (W' : World) (hb : Below w.heap.size w W') (j : Nat) (y_ : ByteArray) (hj : ([h, s, kw, c, d] : List ByteArray)[j]? = some y_) => (keep_ hb (hw j y_ hj) : W'.cell? ⟨gw, j, none⟩ = some (.string y_)))
 have HS := am_ hs
 have HK := am_ hk
 have hX := wld.alloc_same w (.cells Z52 52)
 have hB := b1_ (Below.refl w.heap.size w) (.cells Z52 52)
 have HX := am_ hX
 have HB := am_ hB
 have k1 := HW.out _ hB 1 s rfl
 clear hE hw hs hk hX hB hOUT
 go_enter Tryz.func46, Tryz.ntmps46
 go_wp2_with fail
 clear k1
 generalize w.alloc _ = W1 at HX HB ⊢
 refine (rnum_c s (HS.out s (by simp)) W1).mono ?_
 rintro e w1 ⟨rfl, hb1⟩
 replace HX := am_ ((hb1.block _ (blk_lt HX.out)).trans HX.out)
 replace HB := am_ (below_step HB.out hb1)
 clear hb1
 have k2 := HW.out _ HB.out 2 kw rfl
 go_wp2_with fail
 clear k2
 refine (rkind_c kw w1).mono ?_
 rintro e w2 ⟨rfl, hb2⟩
 replace HX := am_ ((hb2.block _ (blk_lt HX.out)).trans HX.out)
 replace HB := am_ (below_step HB.out hb2)
 clear hb2
 rw [HK.out]
 have HA := am_ (show AS w (w2.alloc (.cells (C49 kd 0 0 0 ⟨#[]⟩ ⟨#[]⟩ (.slice none 0 0) 0) 49)) w2.heap.size Z52 (C49 kd 0 0 0 ⟨#[]⟩ ⟨#[]⟩ (.slice none 0 0) 0) from ⟨HE.out, ((b1_ (Below.refl w2.heap.size w2) _).block _ (blk_lt HX.out)).trans HX.out, wld.alloc_same _ _, b1_ HB.out _, blk_lt HX.out⟩)
 clear HX HB
 go_upto_region 3 with (fail)
 generalize w2.alloc _ = W3 at HA ⊢
 generalize w2.heap.size = q at HA ⊢
 cases hn : sc.numOf s with
 | none =>
  have HO := am_ (show OUT = none by rw [HOUT.out]; unfold askB; rw [hn])
  clear HOUT hn
  have hsm : (none : Option Int).isSome = false := rfl
  have HE_ := am_ (show (Tryz.prog.info? 52).map (·.size) = some 12 from size52)
  go_wp2_with (refine wpL_row rfl 52 (.tmp 2) (.tmp 31) rfl w.heap.size Z52 rfl rfl 52 Z52 HA.out.eb size52 rfl (by simp [Value.oneCell']) ?_; replace HA := am_ (HA.out.row Z52); generalize World.setRow _ _ _ = wZ at HA ⊢)
  obtain ⟨e0, e1, e2, e3, e4, e5, e6, e7, e8, e9, e10, e11⟩ := c12_ HA.out.eb
  (try rw [Exit.noGoto_ret])
  refine bodyPost_ret (v := .tuple #[.agg Z52, .bool false]) (by simp [results, Tryz.results46, go_sem, e0, e1, e2, e3, e4, e5, e6, e7, e8, e9, e10, e11]) rfl ?_
  rw [HO.out]
  exact ⟨rfl, HA.out.b0⟩
 | some n =>
  have HN := am_ hn
  have hsm : (some n).isSome = true := rfl
  rw [(refNum_eq s).2 n hn]
  clear hn
  go_upto_region 6 with (fail)
  clear hsm
  go_wp2_with fail
  have hC := part_C (HW.out _ HA.out.b0) (by simp) 3 [c, d] (by intro j p_ hj; rcases j with _ | _ | j <;> first | exact hj | (simp at hj)) (by simp)
  refine (rnums_c [c, d] (by intro y hy; exact HS.out y (by simp at hy ⊢; rcases hy with rfl | rfl <;> simp)) (by simp) (some ⟨gw, 3, none⟩) (cw - 3) W3 hC (by simp; omega)).mono ?_
  clear hC
  rintro e w4 ⟨he, hb4⟩
  cases hc : sc.numOf c with
  | none =>
   have hnn : numsOf [c, d] = none := by simp [numsOf, hc]
   rw [hnn] at he
   obtain ⟨v, rfl, hr⟩ := he
   have HO := am_ (show OUT = none by rw [HOUT.out]; unfold askB; rw [HN.out, hc])
   clear HOUT hc hnn hr
   replace HA := am_ (HA.out.below hb4)
   clear hb4
   have HE_ := am_ (show (Tryz.prog.info? 52).map (·.size) = some 12 from size52)
   go_wp2_with (refine wpL_row rfl 52 (.tmp 2) (.tmp 43) rfl w.heap.size Z52 rfl rfl 52 Z52 HA.out.eb size52 rfl (by simp [Value.oneCell']) ?_; replace HA := am_ (HA.out.row Z52); generalize World.setRow _ _ _ = wZ at HA ⊢)
   obtain ⟨e0, e1, e2, e3, e4, e5, e6, e7, e8, e9, e10, e11⟩ := c12_ HA.out.eb
   (try rw [Exit.noGoto_ret])
   refine bodyPost_ret (v := .tuple #[.agg Z52, .bool false]) (by simp [results, Tryz.results46, go_sem, e0, e1, e2, e3, e4, e5, e6, e7, e8, e9, e10, e11]) rfl ?_
   rw [HO.out]
   exact ⟨rfl, HA.out.b0⟩
  | some l =>
  cases hd : sc.numOf d with
  | none =>
   have hnn : numsOf [c, d] = none := by simp [numsOf, hc, hd]
   rw [hnn] at he
   obtain ⟨v, rfl, hr⟩ := he
   have HO := am_ (show OUT = none by rw [HOUT.out]; unfold askB; rw [HN.out, hc, hd])
   clear HOUT hc hd hnn hr
   replace HA := am_ (HA.out.below hb4)
   clear hb4
   have HE_ := am_ (show (Tryz.prog.info? 52).map (·.size) = some 12 from size52)
   go_wp2_with (refine wpL_row rfl 52 (.tmp 2) (.tmp 43) rfl w.heap.size Z52 rfl rfl 52 Z52 HA.out.eb size52 rfl (by simp [Value.oneCell']) ?_; replace HA := am_ (HA.out.row Z52); generalize World.setRow _ _ _ = wZ at HA ⊢)
   obtain ⟨e0, e1, e2, e3, e4, e5, e6, e7, e8, e9, e10, e11⟩ := c12_ HA.out.eb
   (try rw [Exit.noGoto_ret])
   refine bodyPost_ret (v := .tuple #[.agg Z52, .bool false]) (by simp [results, Tryz.results46, go_sem, e0, e1, e2, e3, e4, e5, e6, e7, e8, e9, e10, e11]) rfl ?_
   rw [HO.out]
   exact ⟨rfl, HA.out.b0⟩
  | some m =>
  have hnn : numsOf [c, d] = some [l, m] := by simp [numsOf, hc, hd]
  rw [hnn] at he
  obtain ⟨v, rfl, hr⟩ := he
  obtain ⟨An, cn, rfl, hcn, hCn⟩ := Kd.R_reads hr
  obtain ⟨bN, oN, rfl, n0, n1⟩ := two_cells hCn
  have HC1 := am_ hc
  have HD1 := am_ hd
  replace HA := am_ (HA.out.below hb4)
  clear hc hd hnn hr hCn hb4
  go_upto_region 9 with (fail)
  refine start_ (n := 9) (S := fun w' => w'.cell? ⟨bN, oN, none⟩ = some (.int .i64 l) ∧ w'.cell? ⟨bN, oN + 1, none⟩ = some (.int .i64 m)) (ds := [8]) (bs_ 9 0) (by kernel_rfl) rfl rfl ⟨n0, n1⟩ (fun hHeld => ?_)
  replace HA := am_ HA.out.drew; generalize w4.drew = w5 at HA hHeld ⊢
  refine pA_ 0 44 (bs_ 9 1) ?_
  refine pA_ 1 45 (bs_ 9 3) ?_
  refine pA_ 3 47 (bs_ 9 11) ?_
  refine pA_ 4 48 (bs_ 9 27) ?_
  refine tA_ hHeld 2 46 (bs_ 9 31) ?_
  refine tA_ hHeld 5 49 (bs_ 9 63) ?_
  refine pA_ 6 50 (bs_ 9 127) ?_
  refine pA_ 7 51 (bs_ 9 255) ?_
  refine last_ (i := 8) (N := none) (bs_ 9 511) rfl rfl (by kernel_rfl) (by decide) (fun K hK => ?_)
  refine store_all_ [.int .i64 l, .int .i64 m] (u := .agg #[.int .i64 l, .int .i64 m]) (by rfl) rfl rfl rfl rfl HA.out.qb rfl size37 (by simp) (by intro y hy; simp at hy; rcases hy with rfl | rfl <;> rfl) ?_
  have HA2 := am_ (show AS w (World.setCells w5 q 1 [.int .i64 l, .int .i64 m]) q Z52 (C49 kd l m 0 ⟨#[]⟩ ⟨#[]⟩ (.slice none 0 0) 0) from (HA.out.put 1 (.int .i64 l) (cq' := C49 kd l 0 0 ⟨#[]⟩ ⟨#[]⟩ (.slice none 0 0) 0) rfl).put 2 (.int .i64 m) rfl)
  refine hK.out _ _ ?_
  clear hK K
  refine done_ (by kernel_rfl) ?_
  replace HA := HA2
  clear HA2 n0 n1
  generalize World.setCells _ _ _ _ = W6 at HA ⊢
  have q0 := HA.out.at 0 rfl
  have q1 := HA.out.at 1 rfl
  have q2 := HA.out.at 2 rfl
  have q3 := HA.out.at 3 rfl
  have q4 := HA.out.at 4 rfl
  have q5 := HA.out.at 5 rfl
  have q6 := HA.out.at 6 rfl
  have q7 := HA.out.at 7 rfl
  go_wp2_with (refine wpL_row rfl 52 (.tmp 2) (.tmp 125) rfl w.heap.size (C52 1 n kd l m 0 ⟨#[]⟩ ⟨#[]⟩ (.slice none 0 0) 0) rfl rfl 52 Z52 HA.out.eb size52 rfl (by simp [Value.oneCell']) ?_; replace HA := am_ (HA.out.row (C52 1 n kd l m 0 ⟨#[]⟩ ⟨#[]⟩ (.slice none 0 0) 0)); generalize World.setRow _ _ _ = wZ at HA ⊢)
  obtain ⟨e0, e1, e2, e3, e4, e5, e6, e7, e8, e9, e10, e11⟩ := c12_ HA.out.eb
  have HO := am_ (show OUT = some (askEv n kd l m 0 ⟨#[]⟩ ⟨#[]⟩ [] 0) by rw [HOUT.out]; unfold askB; rw [HN.out, HC1.out, HD1.out])
  clear q0 q1 q2 q3 q4 q5 q6 q7
  (try rw [Exit.noGoto_ret])
  refine bodyPost_ret (v := .tuple #[.agg (C52 1 n kd l m 0 ⟨#[]⟩ ⟨#[]⟩ (.slice none 0 0) 0), .bool true]) (by simp [results, Tryz.results46, go_sem, e0, e1, e2, e3, e4, e5, e6, e7, e8, e9, e10, e11]) rfl ?_
  rw [HO.out]
  exact ⟨⟨_, _, rfl, VR0.nil _ _, rfl, rfl⟩, HA.out.b0⟩
theorem rask7 (gw cw : Nat) (h s kw c d p k : ByteArray) (kd : Int) (g4 : (kd == 4) = false) (g3 : (kd == 3) = false) (w : World) (hE : sc.Env w) (hw : ∀ (j : Nat) (y_ : ByteArray), ([h, s, kw, c, d, p, k] : List ByteArray)[j]? = some y_ → w.cell? ⟨gw, j, none⟩ = some (.string y_)) (hs : ∀ y ∈ ([h, s, kw, c, d, p, k] : List ByteArray), y.size ≤ 65536) (hcw : 7 ≤ cw) (hk : kindN kw = kd) :
 Calls Tryz.prog 46 #[.slice (some ⟨gw, 0, none⟩) 7 cw] w fun e w' => AskOut w w' (askGet kd s c d p k) e := by
 obtain ⟨OUT, hOUT⟩ : ∃ o, o = (askGet kd s c d p k) := ⟨_, rfl⟩
 rw [← hOUT]
 have HOUT := am_ hOUT
 have HE := am_ hE
 have HW := am_ (fun (W' : World) (hb : Below w.heap.size w W') (j : Nat) (y_ : ByteArray) (hj : ([h, s, kw, c, d, p, k] : List ByteArray)[j]? = some y_) => (keep_ hb (hw j y_ hj) : W'.cell? ⟨gw, j, none⟩ = some (.string y_)))
 have HS := am_ hs
 have HK := am_ hk
 have hX := wld.alloc_same w (.cells Z52 52)
 have hB := b1_ (Below.refl w.heap.size w) (.cells Z52 52)
 have HX := am_ hX
 have HB := am_ hB
 have k1 := HW.out _ hB 1 s rfl
 clear hE hw hs hk hX hB hOUT
 go_enter Tryz.func46, Tryz.ntmps46
 go_wp2_with fail
 clear k1
 generalize w.alloc _ = W1 at HX HB ⊢
 refine (rnum_c s (HS.out s (by simp)) W1).mono ?_
 rintro e w1 ⟨rfl, hb1⟩
 replace HX := am_ ((hb1.block _ (blk_lt HX.out)).trans HX.out)
 replace HB := am_ (below_step HB.out hb1)
 clear hb1
 have k2 := HW.out _ HB.out 2 kw rfl
 go_wp2_with fail
 clear k2
 refine (rkind_c kw w1).mono ?_
 rintro e w2 ⟨rfl, hb2⟩
 replace HX := am_ ((hb2.block _ (blk_lt HX.out)).trans HX.out)
 replace HB := am_ (below_step HB.out hb2)
 clear hb2
 rw [HK.out]
 have HA := am_ (show AS w (w2.alloc (.cells (C49 kd 0 0 0 ⟨#[]⟩ ⟨#[]⟩ (.slice none 0 0) 0) 49)) w2.heap.size Z52 (C49 kd 0 0 0 ⟨#[]⟩ ⟨#[]⟩ (.slice none 0 0) 0) from ⟨HE.out, ((b1_ (Below.refl w2.heap.size w2) _).block _ (blk_lt HX.out)).trans HX.out, wld.alloc_same _ _, b1_ HB.out _, blk_lt HX.out⟩)
 clear HX HB
 go_upto_region 3 with (fail)
 generalize w2.alloc _ = W3 at HA ⊢
 generalize w2.heap.size = q at HA ⊢
 cases hn : sc.numOf s with
 | none =>
  have HO := am_ (show OUT = none by rw [HOUT.out]; unfold askGet; rw [hn]; rfl)
  clear HOUT hn
  have hsm : (none : Option Int).isSome = false := rfl
  have HE_ := am_ (show (Tryz.prog.info? 52).map (·.size) = some 12 from size52)
  go_wp2_with (refine wpL_row rfl 52 (.tmp 2) (.tmp 31) rfl w.heap.size Z52 rfl rfl 52 Z52 HA.out.eb size52 rfl (by simp [Value.oneCell']) ?_; replace HA := am_ (HA.out.row Z52); generalize World.setRow _ _ _ = wZ at HA ⊢)
  obtain ⟨e0, e1, e2, e3, e4, e5, e6, e7, e8, e9, e10, e11⟩ := c12_ HA.out.eb
  (try rw [Exit.noGoto_ret])
  refine bodyPost_ret (v := .tuple #[.agg Z52, .bool false]) (by simp [results, Tryz.results46, go_sem, e0, e1, e2, e3, e4, e5, e6, e7, e8, e9, e10, e11]) rfl ?_
  rw [HO.out]
  exact ⟨rfl, HA.out.b0⟩
 | some n =>
  have HN := am_ hn
  have hsm : (some n).isSome = true := rfl
  rw [(refNum_eq s).2 n hn]
  clear hn
  go_upto_region 6 with (fail)
  clear hsm
  go_wp2_with fail
  have hC := part_C (HW.out _ HA.out.b0) (by simp) 3 [c, d] (by intro j p_ hj; rcases j with _ | _ | j <;> first | exact hj | (simp at hj)) (by simp)
  refine (rnums_c [c, d] (by intro y hy; exact HS.out y (by simp at hy ⊢; rcases hy with rfl | rfl <;> simp)) (by simp) (some ⟨gw, 3, none⟩) (cw - 3) W3 hC (by simp; omega)).mono ?_
  clear hC
  rintro e w4 ⟨he, hb4⟩
  cases hc : sc.numOf c with
  | none =>
   have hnn : numsOf [c, d] = none := by simp [numsOf, hc]
   rw [hnn] at he
   obtain ⟨v, rfl, hr⟩ := he
   have HO := am_ (show OUT = none by rw [HOUT.out]; unfold askGet; rw [HN.out, hc]; rfl)
   clear HOUT hc hnn hr
   replace HA := am_ (HA.out.below hb4)
   clear hb4
   have HE_ := am_ (show (Tryz.prog.info? 52).map (·.size) = some 12 from size52)
   go_wp2_with (refine wpL_row rfl 52 (.tmp 2) (.tmp 43) rfl w.heap.size Z52 rfl rfl 52 Z52 HA.out.eb size52 rfl (by simp [Value.oneCell']) ?_; replace HA := am_ (HA.out.row Z52); generalize World.setRow _ _ _ = wZ at HA ⊢)
   obtain ⟨e0, e1, e2, e3, e4, e5, e6, e7, e8, e9, e10, e11⟩ := c12_ HA.out.eb
   (try rw [Exit.noGoto_ret])
   refine bodyPost_ret (v := .tuple #[.agg Z52, .bool false]) (by simp [results, Tryz.results46, go_sem, e0, e1, e2, e3, e4, e5, e6, e7, e8, e9, e10, e11]) rfl ?_
   rw [HO.out]
   exact ⟨rfl, HA.out.b0⟩
  | some l =>
  cases hd : sc.numOf d with
  | none =>
   have hnn : numsOf [c, d] = none := by simp [numsOf, hc, hd]
   rw [hnn] at he
   obtain ⟨v, rfl, hr⟩ := he
   have HO := am_ (show OUT = none by rw [HOUT.out]; unfold askGet; rw [HN.out, hc]; show (sc.numOf d).bind _ = none; rw [hd]; rfl)
   clear HOUT hc hd hnn hr
   replace HA := am_ (HA.out.below hb4)
   clear hb4
   have HE_ := am_ (show (Tryz.prog.info? 52).map (·.size) = some 12 from size52)
   go_wp2_with (refine wpL_row rfl 52 (.tmp 2) (.tmp 43) rfl w.heap.size Z52 rfl rfl 52 Z52 HA.out.eb size52 rfl (by simp [Value.oneCell']) ?_; replace HA := am_ (HA.out.row Z52); generalize World.setRow _ _ _ = wZ at HA ⊢)
   obtain ⟨e0, e1, e2, e3, e4, e5, e6, e7, e8, e9, e10, e11⟩ := c12_ HA.out.eb
   (try rw [Exit.noGoto_ret])
   refine bodyPost_ret (v := .tuple #[.agg Z52, .bool false]) (by simp [results, Tryz.results46, go_sem, e0, e1, e2, e3, e4, e5, e6, e7, e8, e9, e10, e11]) rfl ?_
   rw [HO.out]
   exact ⟨rfl, HA.out.b0⟩
  | some m =>
  have hnn : numsOf [c, d] = some [l, m] := by simp [numsOf, hc, hd]
  rw [hnn] at he
  obtain ⟨v, rfl, hr⟩ := he
  obtain ⟨An, cn, rfl, hcn, hCn⟩ := Kd.R_reads hr
  obtain ⟨bN, oN, rfl, n0, n1⟩ := two_cells hCn
  have HC1 := am_ hc
  have HD1 := am_ hd
  replace HA := am_ (HA.out.below hb4)
  clear hc hd hnn hr hCn hb4
  go_upto_region 9 with (fail)
  refine start_ (n := 9) (S := fun w' => w'.cell? ⟨bN, oN, none⟩ = some (.int .i64 l) ∧ w'.cell? ⟨bN, oN + 1, none⟩ = some (.int .i64 m)) (ds := [8]) (bs_ 9 0) (by kernel_rfl) rfl rfl ⟨n0, n1⟩ (fun hHeld => ?_)
  replace HA := am_ HA.out.drew; generalize w4.drew = w5 at HA hHeld ⊢
  refine pA_ 0 44 (bs_ 9 1) ?_
  refine pA_ 1 45 (bs_ 9 3) ?_
  refine pA_ 3 47 (bs_ 9 11) ?_
  refine pA_ 4 48 (bs_ 9 27) ?_
  refine tA_ hHeld 2 46 (bs_ 9 31) ?_
  refine tA_ hHeld 5 49 (bs_ 9 63) ?_
  refine pA_ 6 50 (bs_ 9 127) ?_
  refine pA_ 7 51 (bs_ 9 255) ?_
  refine last_ (i := 8) (N := none) (bs_ 9 511) rfl rfl (by kernel_rfl) (by decide) (fun K hK => ?_)
  refine store_all_ [.int .i64 l, .int .i64 m] (u := .agg #[.int .i64 l, .int .i64 m]) (by rfl) rfl rfl rfl rfl HA.out.qb rfl size37 (by simp) (by intro y hy; simp at hy; rcases hy with rfl | rfl <;> rfl) ?_
  have HA2 := am_ (show AS w (World.setCells w5 q 1 [.int .i64 l, .int .i64 m]) q Z52 (C49 kd l m 0 ⟨#[]⟩ ⟨#[]⟩ (.slice none 0 0) 0) from (HA.out.put 1 (.int .i64 l) (cq' := C49 kd l 0 0 ⟨#[]⟩ ⟨#[]⟩ (.slice none 0 0) 0) rfl).put 2 (.int .i64 m) rfl)
  refine hK.out _ _ ?_
  clear hK K
  refine done_ (by kernel_rfl) ?_
  replace HA := HA2
  clear HA2 n0 n1
  generalize World.setCells _ _ _ _ = W6 at HA ⊢
  have k5 := HW.out _ HA.out.b0 5 p rfl
  go_wp2_with fail
  clear k5
  refine (rnum_c p (HS.out p (by simp)) W6).mono ?_
  rintro e w7 ⟨rfl, hb7⟩
  replace HA := am_ (HA.out.below hb7)
  clear hb7
  go_upto_region 13 with (fail)
  cases hp : sc.numOf p with
  | none =>
   have HO := am_ (show OUT = none by simp [HOUT.out, askGet, HN.out, HC1.out, HD1.out, hp])
   have hsm : (none : Option Int).isSome = false := rfl
   clear HOUT hp
   have HE_ := am_ (show (Tryz.prog.info? 52).map (·.size) = some 12 from size52)
   go_wp2_with (refine wpL_row rfl 52 (.tmp 2) (.tmp 64) rfl w.heap.size Z52 rfl rfl 52 Z52 HA.out.eb size52 rfl (by simp [Value.oneCell']) ?_; replace HA := am_ (HA.out.row Z52); generalize World.setRow _ _ _ = wZ at HA ⊢)
   obtain ⟨e0, e1, e2, e3, e4, e5, e6, e7, e8, e9, e10, e11⟩ := c12_ HA.out.eb
   (try rw [Exit.noGoto_ret])
   refine bodyPost_ret (v := .tuple #[.agg Z52, .bool false]) (by simp [results, Tryz.results46, go_sem, e0, e1, e2, e3, e4, e5, e6, e7, e8, e9, e10, e11]) rfl ?_
   rw [HO.out]
   exact ⟨rfl, HA.out.b0⟩
  | some pl =>
  have hsm : (some pl).isSome = true := rfl
  rw [(refNum_eq p).2 pl hp]
  have HP1 := am_ hp
  clear hp
  have q3 := HA.out.at 3 rfl
  have f3 := blk_frozen HA.out.qb 3
  go_upto_region 16 with (fail)
  clear q3 f3 hsm
  replace HA := am_ (show AS w _ q Z52 (C49 kd l m pl ⟨#[]⟩ ⟨#[]⟩ (.slice none 0 0) 0) from HA.out.put 3 (.int .i64 pl) rfl)
  generalize World.setCell _ _ _ = W8 at HA ⊢
  go_wp2_with fail
  go_loopw [9, 12] (fun vt iv wr => ∃ (i n_ c_ : Nat) (A_ : Option Addr) (ts : List ByteArray), 6 ≤ i ∧ i ≤ 7 ∧ iv = .int .i64 i ∧ vt = .slice A_ n_ c_ ∧ ts.length + 6 = i ∧ (∀ j t, ts[j]? = some t → ∃ y, ([h, s, kw, c, d, p, k] : List ByteArray)[6 + j]? = some y ∧ sc.unquoteL y.data.toList = some t.data.toList) ∧ Kd.R Kd.string 9 wr w.heap.size TT_ (.slice A_ n_ c_) ts ∧ AS w wr q Z52 (C49 kd l m pl ⟨#[]⟩ ⟨#[]⟩ (.slice none 0 0) 0)) (fun _ iv _ => 9 - (intOf iv).toNat)
  case atStart => exact ⟨6, 0, 0, none, [], by decide, by decide, rfl, rfl, rfl, (by intro j t ht; simp at ht), Kd.R_nil _ _ _ _ _, HA.out⟩
  case round =>
   clear HA
   obtain ⟨i, n_, c_, A, ts, hi6, hi8, rfl, rfl, hlen, hq, hr, hA⟩ := hrel
   have HA := am_ hA
   have HR := am_ hr
   have HQ := am_ hq
   clear hA hr hq
   by_cases hlt : i < 7
   · obtain ⟨y, hy⟩ : ∃ y, ([h, s, kw, c, d, p, k] : List ByteArray)[i]? = some y := ⟨_, List.getElem?_eq_getElem (by simp; omega)⟩
     have kx := HW.out _ HA.out.b0 i y hy
     have HY := am_ (HS.out y (List.mem_of_getElem? hy))
     have h7 : i < 7 := by omega
     go_wp2_with fail
     refine (runq_c y HY.out wr HA.out.env).mono ?_
     rintro e w1 ⟨t, rfl, ht, hb1⟩
     have HT := am_ ht
     replace HA := am_ (HA.out.below hb1)
     replace HR := am_ (Kd.R_below HR.out hb1)
     clear kx ht hb1
     cases hu : sc.unquoteL y.data.toList with
     | none =>
      have HO := am_ (show OUT = none by
      have hi6 : i = 6 := by omega
      subst hi6
      obtain rfl : k = y := Option.some.inj hy
      simp [HOUT.out, askGet, HN.out, HC1.out, HD1.out, HP1.out, hu])
      have hsm : (none : Option (List UInt8)).isSome = false := rfl
      clear HOUT hu hy HT
      have HE_ := am_ (show (Tryz.prog.info? 52).map (·.size) = some 12 from size52)
      go_wp2_with (refine wpL_row rfl 52 (.tmp 2) (.tmp 87) rfl w.heap.size Z52 rfl rfl 52 Z52 HA.out.eb size52 rfl (by simp [Value.oneCell']) ?_; replace HA := am_ (HA.out.row Z52); generalize World.setRow _ _ _ = wZ at HA ⊢)
      obtain ⟨e0, e1, e2, e3, e4, e5, e6, e7, e8, e9, e10, e11⟩ := c12_ HA.out.eb
      (try rw [Exit.noGoto_ret])
      refine bodyPost_ret (v := .tuple #[.agg Z52, .bool false]) (by simp [results, Tryz.results46, go_sem, e0, e1, e2, e3, e4, e5, e6, e7, e8, e9, e10, e11]) rfl ?_
      rw [HO.out]
      exact ⟨rfl, HA.out.b0⟩
     | some u =>
      have HT2 := am_ (HT.out u hu)
      have HU := am_ hu
      have HYY := am_ hy
      have hsm : (some u).isSome = true := rfl
      clear hu hy HT
      go_wp2_with (at_builtin; refine Kd.R_append Kd.string (w0 := w) w.heap.size rfl (.tmp 88) (.tmp 90) 71 9 (.string ⟨#[]⟩) 16 rfl Tryz.underlying71 it.info9' rfl (by decide) (by omega) (.slice A n_ c_) ts t [.string t] TT_ (fun _ => False) rfl rfl ?aP (fun _ hk => hk.elim) ?aF ?aO ?aB ?aS ?aL ?_; (case aP => exact rfl); (case aF => exact (fun _ _ => trivial)); (case aO => exact HR.out); (case aB => exact HA.out.b0); (case aS => exact HA.out.b0.size); (case aL => omega); intro v2 w2 ho2 hb2 hg2 hat2; replace HA := am_ (HA.out.grown hg2 (fun k_ e_ => ⟨fun h_ => Kd.R_ne HR.out HA.out.eb (by decide) (by rw [e_, h_]), fun h_ => Kd.R_ne HR.out HA.out.qb (by decide) (by rw [e_, h_]), Kd.R_base HR.out k_ e_⟩)); replace HR := am_ ho2; clear ho2 hb2 hg2 hat2)
      obtain ⟨B2, c2, rfl⟩ := Kd.R_slice HR.out
      go_roundw
      case rel =>
       have hnew : ∀ (j : Nat) (t' : ByteArray), (ts ++ [t])[j]? = some t' → ∃ y, ([h, s, kw, c, d, p, k] : List ByteArray)[6 + j]? = some y ∧ sc.unquoteL y.data.toList = some t'.data.toList := by
        intro j t' ht'
        rcases Nat.lt_or_ge j ts.length with hj | hj
        · rw [List.getElem?_append_left hj] at ht'
          exact HQ.out j t' ht'
        rw [List.getElem?_append_right hj] at ht'
        have hj0 : j - ts.length = 0 := by
         rcases Nat.eq_zero_or_pos (j - ts.length) with h | h
         · exact h
         rw [List.getElem?_eq_none (by simp; omega)] at ht'; cases ht'
        rw [hj0] at ht'
        obtain rfl := Option.some.inj ht'
        refine ⟨y, ?_, ?_⟩
        · rw [show 6 + j = i by omega]; exact HYY.out
        rw [HU.out, HT2.out]
       first
       | exact ⟨i + 1, _, _, _, ts ++ [t], by omega, by omega, by go_num, rfl, by simp; omega, hnew, HR.out, HA.out⟩
       | (repeat apply Exists.intro); exact ⟨⟨i + 1, _, _, _, ts ++ [t], by omega, by omega, by go_num, rfl, by simp; omega, hnew, HR.out, HA.out⟩, rfl⟩
      case measure => simp [intOf]; omega
   have hiN : i = 7 := by omega
   have h7 : ¬ i < 7 := by omega
   have hCt := (Kd.R_reads' HR.out).2.2
   have hl0 : 0 < ts.length := by omega
   obtain ⟨bT, oT, hAT, hcT⟩ := str_cell hCt (List.getElem?_eq_getElem hl0)
   subst hAT
   obtain ⟨z1, e1, hu1⟩ := HQ.out 0 ts[0] (List.getElem?_eq_getElem hl0)
   obtain rfl : k = z1 := Option.some.inj e1
   have HU1 := am_ hu1
   have t0c := hcT 0 ts[0] (List.getElem?_eq_getElem hl0)
   rw [Nat.add_zero] at t0c
   have hn_ : n_ = 1 := by have := (Kd.R_reads' HR.out).1; omega
   subst hn_
   clear hCt hcT e1 hu1 HQ hlen hi6 hi8 hlt hiN
   generalize ts[0] = t0 at t0c HU1
   clear hl0
   have HNE := am_ (own_ne HR.out HA.out.qb (by decide))
   have q4 := HA.out.at 4 rfl
   have f4 := blk_frozen HA.out.qb 4
   go_upto_region 24 with (fail)
   clear q4 f4 t0c
   replace HA := am_ (show AS w (World.setCell wr ⟨q, 4, none⟩ (.string t0)) q Z52 (C49 kd l m pl t0 ⟨#[]⟩ (.slice none 0 0) 0) from HA.out.put 4 (.string t0) rfl)
   generalize World.setCell wr _ _ = W9 at HA ⊢
   clear HR
   have q0 := HA.out.at 0 rfl
   have q1 := HA.out.at 1 rfl
   have q2 := HA.out.at 2 rfl
   have q3 := HA.out.at 3 rfl
   have q4 := HA.out.at 4 rfl
   have q5 := HA.out.at 5 rfl
   have q6 := HA.out.at 6 rfl
   have q7 := HA.out.at 7 rfl
   go_wp2_with (refine wpL_row rfl 52 (.tmp 2) (.tmp 125) rfl w.heap.size (C52 1 n kd l m pl t0 ⟨#[]⟩ (.slice none 0 0) 0) rfl rfl 52 Z52 HA.out.eb size52 rfl (by simp [Value.oneCell']) ?_; replace HA := am_ (HA.out.row (C52 1 n kd l m pl t0 ⟨#[]⟩ (.slice none 0 0) 0)); generalize World.setRow _ _ _ = wZ at HA ⊢)
   obtain ⟨e0, e1, e2, e3, e4, e5, e6, e7, e8, e9, e10, e11⟩ := c12_ HA.out.eb
   have HO := am_ (show OUT = some (askEv n kd l m pl t0 ⟨#[]⟩ [] 0) by rw [HOUT.out]; simp [askGet, HN.out, HC1.out, HD1.out, HP1.out, HU1.out])
   clear q0 q1 q2 q3 q4 q5 q6 q7
   (try rw [Exit.noGoto_ret])
   refine bodyPost_ret (v := .tuple #[.agg (C52 1 n kd l m pl t0 ⟨#[]⟩ (.slice none 0 0) 0), .bool true]) (by simp [results, Tryz.results46, go_sem, e0, e1, e2, e3, e4, e5, e6, e7, e8, e9, e10, e11]) rfl ?_
   rw [HO.out]
   exact ⟨⟨_, _, rfl, VR0.nil _ _, rfl, rfl⟩, HA.out.b0⟩
theorem rask8 (gw cw : Nat) (h s kw c d p k x : ByteArray) (w : World) (hE : sc.Env w) (hw : ∀ (j : Nat) (y_ : ByteArray), ([h, s, kw, c, d, p, k, x] : List ByteArray)[j]? = some y_ → w.cell? ⟨gw, j, none⟩ = some (.string y_)) (hs : ∀ y ∈ ([h, s, kw, c, d, p, k, x] : List ByteArray), y.size ≤ 65536) (hcw : 8 ≤ cw) (hk : kindN kw = 4) :
 Calls Tryz.prog 46 #[.slice (some ⟨gw, 0, none⟩) 8 cw] w fun e w' => AskOut w w' (askPut 4 s c d p k x) e := by
 obtain ⟨OUT, hOUT⟩ : ∃ o, o = (askPut 4 s c d p k x) := ⟨_, rfl⟩
 rw [← hOUT]
 have HOUT := am_ hOUT
 have HE := am_ hE
 have HW := am_ (fun (W' : World) (hb : Below w.heap.size w W') (j : Nat) (y_ : ByteArray) (hj : ([h, s, kw, c, d, p, k, x] : List ByteArray)[j]? = some y_) => (keep_ hb (hw j y_ hj) : W'.cell? ⟨gw, j, none⟩ = some (.string y_)))
 have HS := am_ hs
 have HK := am_ hk
 have hX := wld.alloc_same w (.cells Z52 52)
 have hB := b1_ (Below.refl w.heap.size w) (.cells Z52 52)
 have HX := am_ hX
 have HB := am_ hB
 have k1 := HW.out _ hB 1 s rfl
 clear hE hw hs hk hX hB hOUT
 go_enter Tryz.func46, Tryz.ntmps46
 go_wp2_with fail
 clear k1
 generalize w.alloc _ = W1 at HX HB ⊢
 refine (rnum_c s (HS.out s (by simp)) W1).mono ?_
 rintro e w1 ⟨rfl, hb1⟩
 replace HX := am_ ((hb1.block _ (blk_lt HX.out)).trans HX.out)
 replace HB := am_ (below_step HB.out hb1)
 clear hb1
 have k2 := HW.out _ HB.out 2 kw rfl
 go_wp2_with fail
 clear k2
 refine (rkind_c kw w1).mono ?_
 rintro e w2 ⟨rfl, hb2⟩
 replace HX := am_ ((hb2.block _ (blk_lt HX.out)).trans HX.out)
 replace HB := am_ (below_step HB.out hb2)
 clear hb2
 rw [HK.out]
 have HA := am_ (show AS w (w2.alloc (.cells (C49 4 0 0 0 ⟨#[]⟩ ⟨#[]⟩ (.slice none 0 0) 0) 49)) w2.heap.size Z52 (C49 4 0 0 0 ⟨#[]⟩ ⟨#[]⟩ (.slice none 0 0) 0) from ⟨HE.out, ((b1_ (Below.refl w2.heap.size w2) _).block _ (blk_lt HX.out)).trans HX.out, wld.alloc_same _ _, b1_ HB.out _, blk_lt HX.out⟩)
 clear HX HB
 go_upto_region 3 with (fail)
 generalize w2.alloc _ = W3 at HA ⊢
 generalize w2.heap.size = q at HA ⊢
 cases hn : sc.numOf s with
 | none =>
  have HO := am_ (show OUT = none by rw [HOUT.out]; unfold askPut; rw [hn]; rfl)
  clear HOUT hn
  have hsm : (none : Option Int).isSome = false := rfl
  have HE_ := am_ (show (Tryz.prog.info? 52).map (·.size) = some 12 from size52)
  go_wp2_with (refine wpL_row rfl 52 (.tmp 2) (.tmp 31) rfl w.heap.size Z52 rfl rfl 52 Z52 HA.out.eb size52 rfl (by simp [Value.oneCell']) ?_; replace HA := am_ (HA.out.row Z52); generalize World.setRow _ _ _ = wZ at HA ⊢)
  obtain ⟨e0, e1, e2, e3, e4, e5, e6, e7, e8, e9, e10, e11⟩ := c12_ HA.out.eb
  (try rw [Exit.noGoto_ret])
  refine bodyPost_ret (v := .tuple #[.agg Z52, .bool false]) (by simp [results, Tryz.results46, go_sem, e0, e1, e2, e3, e4, e5, e6, e7, e8, e9, e10, e11]) rfl ?_
  rw [HO.out]
  exact ⟨rfl, HA.out.b0⟩
 | some n =>
  have HN := am_ hn
  have hsm : (some n).isSome = true := rfl
  rw [(refNum_eq s).2 n hn]
  clear hn
  go_upto_region 6 with (fail)
  clear hsm
  go_wp2_with fail
  have hC := part_C (HW.out _ HA.out.b0) (by simp) 3 [c, d] (by intro j p_ hj; rcases j with _ | _ | j <;> first | exact hj | (simp at hj)) (by simp)
  refine (rnums_c [c, d] (by intro y hy; exact HS.out y (by simp at hy ⊢; rcases hy with rfl | rfl <;> simp)) (by simp) (some ⟨gw, 3, none⟩) (cw - 3) W3 hC (by simp; omega)).mono ?_
  clear hC
  rintro e w4 ⟨he, hb4⟩
  cases hc : sc.numOf c with
  | none =>
   have hnn : numsOf [c, d] = none := by simp [numsOf, hc]
   rw [hnn] at he
   obtain ⟨v, rfl, hr⟩ := he
   have HO := am_ (show OUT = none by rw [HOUT.out]; unfold askPut; rw [HN.out, hc]; rfl)
   clear HOUT hc hnn hr
   replace HA := am_ (HA.out.below hb4)
   clear hb4
   have HE_ := am_ (show (Tryz.prog.info? 52).map (·.size) = some 12 from size52)
   go_wp2_with (refine wpL_row rfl 52 (.tmp 2) (.tmp 43) rfl w.heap.size Z52 rfl rfl 52 Z52 HA.out.eb size52 rfl (by simp [Value.oneCell']) ?_; replace HA := am_ (HA.out.row Z52); generalize World.setRow _ _ _ = wZ at HA ⊢)
   obtain ⟨e0, e1, e2, e3, e4, e5, e6, e7, e8, e9, e10, e11⟩ := c12_ HA.out.eb
   (try rw [Exit.noGoto_ret])
   refine bodyPost_ret (v := .tuple #[.agg Z52, .bool false]) (by simp [results, Tryz.results46, go_sem, e0, e1, e2, e3, e4, e5, e6, e7, e8, e9, e10, e11]) rfl ?_
   rw [HO.out]
   exact ⟨rfl, HA.out.b0⟩
  | some l =>
  cases hd : sc.numOf d with
  | none =>
   have hnn : numsOf [c, d] = none := by simp [numsOf, hc, hd]
   rw [hnn] at he
   obtain ⟨v, rfl, hr⟩ := he
   have HO := am_ (show OUT = none by rw [HOUT.out]; unfold askPut; rw [HN.out, hc]; show (sc.numOf d).bind _ = none; rw [hd]; rfl)
   clear HOUT hc hd hnn hr
   replace HA := am_ (HA.out.below hb4)
   clear hb4
   have HE_ := am_ (show (Tryz.prog.info? 52).map (·.size) = some 12 from size52)
   go_wp2_with (refine wpL_row rfl 52 (.tmp 2) (.tmp 43) rfl w.heap.size Z52 rfl rfl 52 Z52 HA.out.eb size52 rfl (by simp [Value.oneCell']) ?_; replace HA := am_ (HA.out.row Z52); generalize World.setRow _ _ _ = wZ at HA ⊢)
   obtain ⟨e0, e1, e2, e3, e4, e5, e6, e7, e8, e9, e10, e11⟩ := c12_ HA.out.eb
   (try rw [Exit.noGoto_ret])
   refine bodyPost_ret (v := .tuple #[.agg Z52, .bool false]) (by simp [results, Tryz.results46, go_sem, e0, e1, e2, e3, e4, e5, e6, e7, e8, e9, e10, e11]) rfl ?_
   rw [HO.out]
   exact ⟨rfl, HA.out.b0⟩
  | some m =>
  have hnn : numsOf [c, d] = some [l, m] := by simp [numsOf, hc, hd]
  rw [hnn] at he
  obtain ⟨v, rfl, hr⟩ := he
  obtain ⟨An, cn, rfl, hcn, hCn⟩ := Kd.R_reads hr
  obtain ⟨bN, oN, rfl, n0, n1⟩ := two_cells hCn
  have HC1 := am_ hc
  have HD1 := am_ hd
  replace HA := am_ (HA.out.below hb4)
  clear hc hd hnn hr hCn hb4
  go_upto_region 9 with (fail)
  refine start_ (n := 9) (S := fun w' => w'.cell? ⟨bN, oN, none⟩ = some (.int .i64 l) ∧ w'.cell? ⟨bN, oN + 1, none⟩ = some (.int .i64 m)) (ds := [8]) (bs_ 9 0) (by kernel_rfl) rfl rfl ⟨n0, n1⟩ (fun hHeld => ?_)
  replace HA := am_ HA.out.drew; generalize w4.drew = w5 at HA hHeld ⊢
  refine pA_ 0 44 (bs_ 9 1) ?_
  refine pA_ 1 45 (bs_ 9 3) ?_
  refine pA_ 3 47 (bs_ 9 11) ?_
  refine pA_ 4 48 (bs_ 9 27) ?_
  refine tA_ hHeld 2 46 (bs_ 9 31) ?_
  refine tA_ hHeld 5 49 (bs_ 9 63) ?_
  refine pA_ 6 50 (bs_ 9 127) ?_
  refine pA_ 7 51 (bs_ 9 255) ?_
  refine last_ (i := 8) (N := none) (bs_ 9 511) rfl rfl (by kernel_rfl) (by decide) (fun K hK => ?_)
  refine store_all_ [.int .i64 l, .int .i64 m] (u := .agg #[.int .i64 l, .int .i64 m]) (by rfl) rfl rfl rfl rfl HA.out.qb rfl size37 (by simp) (by intro y hy; simp at hy; rcases hy with rfl | rfl <;> rfl) ?_
  have HA2 := am_ (show AS w (World.setCells w5 q 1 [.int .i64 l, .int .i64 m]) q Z52 (C49 4 l m 0 ⟨#[]⟩ ⟨#[]⟩ (.slice none 0 0) 0) from (HA.out.put 1 (.int .i64 l) (cq' := C49 4 l 0 0 ⟨#[]⟩ ⟨#[]⟩ (.slice none 0 0) 0) rfl).put 2 (.int .i64 m) rfl)
  refine hK.out _ _ ?_
  clear hK K
  refine done_ (by kernel_rfl) ?_
  replace HA := HA2
  clear HA2 n0 n1
  generalize World.setCells _ _ _ _ = W6 at HA ⊢
  have k5 := HW.out _ HA.out.b0 5 p rfl
  go_wp2_with fail
  clear k5
  refine (rnum_c p (HS.out p (by simp)) W6).mono ?_
  rintro e w7 ⟨rfl, hb7⟩
  replace HA := am_ (HA.out.below hb7)
  clear hb7
  go_upto_region 13 with (fail)
  cases hp : sc.numOf p with
  | none =>
   have HO := am_ (show OUT = none by simp [HOUT.out, askPut, HN.out, HC1.out, HD1.out, hp])
   have hsm : (none : Option Int).isSome = false := rfl
   clear HOUT hp
   have HE_ := am_ (show (Tryz.prog.info? 52).map (·.size) = some 12 from size52)
   go_wp2_with (refine wpL_row rfl 52 (.tmp 2) (.tmp 64) rfl w.heap.size Z52 rfl rfl 52 Z52 HA.out.eb size52 rfl (by simp [Value.oneCell']) ?_; replace HA := am_ (HA.out.row Z52); generalize World.setRow _ _ _ = wZ at HA ⊢)
   obtain ⟨e0, e1, e2, e3, e4, e5, e6, e7, e8, e9, e10, e11⟩ := c12_ HA.out.eb
   (try rw [Exit.noGoto_ret])
   refine bodyPost_ret (v := .tuple #[.agg Z52, .bool false]) (by simp [results, Tryz.results46, go_sem, e0, e1, e2, e3, e4, e5, e6, e7, e8, e9, e10, e11]) rfl ?_
   rw [HO.out]
   exact ⟨rfl, HA.out.b0⟩
  | some pl =>
  have hsm : (some pl).isSome = true := rfl
  rw [(refNum_eq p).2 pl hp]
  have HP1 := am_ hp
  clear hp
  have q3 := HA.out.at 3 rfl
  have f3 := blk_frozen HA.out.qb 3
  go_upto_region 16 with (fail)
  clear q3 f3 hsm
  replace HA := am_ (show AS w _ q Z52 (C49 4 l m pl ⟨#[]⟩ ⟨#[]⟩ (.slice none 0 0) 0) from HA.out.put 3 (.int .i64 pl) rfl)
  generalize World.setCell _ _ _ = W8 at HA ⊢
  go_wp2_with fail
  go_loopw [9, 12] (fun vt iv wr => ∃ (i n_ c_ : Nat) (A_ : Option Addr) (ts : List ByteArray), 6 ≤ i ∧ i ≤ 8 ∧ iv = .int .i64 i ∧ vt = .slice A_ n_ c_ ∧ ts.length + 6 = i ∧ (∀ j t, ts[j]? = some t → ∃ y, ([h, s, kw, c, d, p, k, x] : List ByteArray)[6 + j]? = some y ∧ sc.unquoteL y.data.toList = some t.data.toList) ∧ Kd.R Kd.string 9 wr w.heap.size TT_ (.slice A_ n_ c_) ts ∧ AS w wr q Z52 (C49 4 l m pl ⟨#[]⟩ ⟨#[]⟩ (.slice none 0 0) 0)) (fun _ iv _ => 9 - (intOf iv).toNat)
  case atStart => exact ⟨6, 0, 0, none, [], by decide, by decide, rfl, rfl, rfl, (by intro j t ht; simp at ht), Kd.R_nil _ _ _ _ _, HA.out⟩
  case round =>
   clear HA
   obtain ⟨i, n_, c_, A, ts, hi6, hi8, rfl, rfl, hlen, hq, hr, hA⟩ := hrel
   have HA := am_ hA
   have HR := am_ hr
   have HQ := am_ hq
   clear hA hr hq
   by_cases hlt : i < 8
   · obtain ⟨y, hy⟩ : ∃ y, ([h, s, kw, c, d, p, k, x] : List ByteArray)[i]? = some y := ⟨_, List.getElem?_eq_getElem (by simp; omega)⟩
     have kx := HW.out _ HA.out.b0 i y hy
     have HY := am_ (HS.out y (List.mem_of_getElem? hy))
     have h8 : i < 8 := by omega
     go_wp2_with fail
     refine (runq_c y HY.out wr HA.out.env).mono ?_
     rintro e w1 ⟨t, rfl, ht, hb1⟩
     have HT := am_ ht
     replace HA := am_ (HA.out.below hb1)
     replace HR := am_ (Kd.R_below HR.out hb1)
     clear kx ht hb1
     cases hu : sc.unquoteL y.data.toList with
     | none =>
      have HO := am_ (show OUT = none by
      have hi67 : i = 6 ∨ i = 7 := by omega
      rcases hi67 with rfl | rfl
      · obtain rfl : k = y := Option.some.inj hy
        simp [HOUT.out, askPut, HN.out, HC1.out, HD1.out, HP1.out, hu]
      · obtain rfl : x = y := Option.some.inj hy
        have hl1 : 0 < ts.length := by omega
        obtain ⟨z1, e1, e2⟩ := HQ.out 0 ts[0] (List.getElem?_eq_getElem hl1)
        obtain rfl : k = z1 := Option.some.inj e1
        simp [HOUT.out, askPut, HN.out, HC1.out, HD1.out, HP1.out, e2, hu])
      have hsm : (none : Option (List UInt8)).isSome = false := rfl
      clear HOUT hu hy HT
      have HE_ := am_ (show (Tryz.prog.info? 52).map (·.size) = some 12 from size52)
      go_wp2_with (refine wpL_row rfl 52 (.tmp 2) (.tmp 87) rfl w.heap.size Z52 rfl rfl 52 Z52 HA.out.eb size52 rfl (by simp [Value.oneCell']) ?_; replace HA := am_ (HA.out.row Z52); generalize World.setRow _ _ _ = wZ at HA ⊢)
      obtain ⟨e0, e1, e2, e3, e4, e5, e6, e7, e8, e9, e10, e11⟩ := c12_ HA.out.eb
      (try rw [Exit.noGoto_ret])
      refine bodyPost_ret (v := .tuple #[.agg Z52, .bool false]) (by simp [results, Tryz.results46, go_sem, e0, e1, e2, e3, e4, e5, e6, e7, e8, e9, e10, e11]) rfl ?_
      rw [HO.out]
      exact ⟨rfl, HA.out.b0⟩
     | some u =>
      have HT2 := am_ (HT.out u hu)
      have HU := am_ hu
      have HYY := am_ hy
      have hsm : (some u).isSome = true := rfl
      clear hu hy HT
      go_wp2_with (at_builtin; refine Kd.R_append Kd.string (w0 := w) w.heap.size rfl (.tmp 88) (.tmp 90) 71 9 (.string ⟨#[]⟩) 16 rfl Tryz.underlying71 it.info9' rfl (by decide) (by omega) (.slice A n_ c_) ts t [.string t] TT_ (fun _ => False) rfl rfl ?aP (fun _ hk => hk.elim) ?aF ?aO ?aB ?aS ?aL ?_; (case aP => exact rfl); (case aF => exact (fun _ _ => trivial)); (case aO => exact HR.out); (case aB => exact HA.out.b0); (case aS => exact HA.out.b0.size); (case aL => omega); intro v2 w2 ho2 hb2 hg2 hat2; replace HA := am_ (HA.out.grown hg2 (fun k_ e_ => ⟨fun h_ => Kd.R_ne HR.out HA.out.eb (by decide) (by rw [e_, h_]), fun h_ => Kd.R_ne HR.out HA.out.qb (by decide) (by rw [e_, h_]), Kd.R_base HR.out k_ e_⟩)); replace HR := am_ ho2; clear ho2 hb2 hg2 hat2)
      obtain ⟨B2, c2, rfl⟩ := Kd.R_slice HR.out
      go_roundw
      case rel =>
       have hnew : ∀ (j : Nat) (t' : ByteArray), (ts ++ [t])[j]? = some t' → ∃ y, ([h, s, kw, c, d, p, k, x] : List ByteArray)[6 + j]? = some y ∧ sc.unquoteL y.data.toList = some t'.data.toList := by
        intro j t' ht'
        rcases Nat.lt_or_ge j ts.length with hj | hj
        · rw [List.getElem?_append_left hj] at ht'
          exact HQ.out j t' ht'
        rw [List.getElem?_append_right hj] at ht'
        have hj0 : j - ts.length = 0 := by
         rcases Nat.eq_zero_or_pos (j - ts.length) with h | h
         · exact h
         rw [List.getElem?_eq_none (by simp; omega)] at ht'; cases ht'
        rw [hj0] at ht'
        obtain rfl := Option.some.inj ht'
        refine ⟨y, ?_, ?_⟩
        · rw [show 6 + j = i by omega]; exact HYY.out
        rw [HU.out, HT2.out]
       first
       | exact ⟨i + 1, _, _, _, ts ++ [t], by omega, by omega, by go_num, rfl, by simp; omega, hnew, HR.out, HA.out⟩
       | (repeat apply Exists.intro); exact ⟨⟨i + 1, _, _, _, ts ++ [t], by omega, by omega, by go_num, rfl, by simp; omega, hnew, HR.out, HA.out⟩, rfl⟩
      case measure => simp [intOf]; omega
   have hiN : i = 8 := by omega
   have h8 : ¬ i < 8 := by omega
   have hCt := (Kd.R_reads' HR.out).2.2
   have hl0 : 0 < ts.length := by omega
   obtain ⟨bT, oT, hAT, hcT⟩ := str_cell hCt (List.getElem?_eq_getElem hl0)
   subst hAT
   obtain ⟨z1, e1, hu1⟩ := HQ.out 0 ts[0] (List.getElem?_eq_getElem hl0)
   obtain rfl : k = z1 := Option.some.inj e1
   have HU1 := am_ hu1
   have t0c := hcT 0 ts[0] (List.getElem?_eq_getElem hl0)
   rw [Nat.add_zero] at t0c
   have hl1 : 1 < ts.length := by omega
   obtain ⟨z2, e2, hu2⟩ := HQ.out 1 ts[1] (List.getElem?_eq_getElem hl1)
   obtain rfl : x = z2 := Option.some.inj e2
   have HU2 := am_ hu2
   have t1c := hcT 1 ts[1] (List.getElem?_eq_getElem hl1)
   have hn_ : n_ = 2 := by have := (Kd.R_reads' HR.out).1; omega
   subst hn_
   clear hCt hcT e1 hu1 e2 hu2 HQ hlen hi6 hi8 hlt hiN
   generalize ts[0] = t0 at t0c HU1
   generalize ts[1] = t1 at t1c HU2
   clear hl0 hl1
   have HNE := am_ (own_ne HR.out HA.out.qb (by decide))
   have q4 := HA.out.at 4 rfl
   have f4 := blk_frozen HA.out.qb 4
   go_upto_region 24 with (fail)
   clear q4 f4 t0c
   replace HA := am_ (show AS w (World.setCell wr ⟨q, 4, none⟩ (.string t0)) q Z52 (C49 4 l m pl t0 ⟨#[]⟩ (.slice none 0 0) 0) from HA.out.put 4 (.string t0) rfl)
   replace t1c := wld.cellSet (p := ⟨q, 4, none⟩) t1c HNE.out (.string t0)
   generalize World.setCell wr _ _ = W9 at HA t1c ⊢
   clear HR
   have hcv := run_bytes_of_string (P := Tryz.prog) W9 9 38 5 t1 Tryz.underlying9 Tryz.underlying38 Tryz.underlying5
   generalize hcap : grownCap W9 t1.size 0 5 = cap at hcv
   have HC := am_ (show t1.size ≤ cap from hcap ▸ grownCap_ge W9 t1.size 0 5)
   have HRW := am_ (show (W9.drew.alloc (.cells (bytesRow t1 cap) 5 ((bytesRow t1 cap).size, (bytesRow t1 cap).size + 1))).heap[W9.heap.size]? = some (.cells (bytesRow t1 cap) 5 ((bytesRow t1 cap).size, (bytesRow t1 cap).size + 1)) from wld.alloc_same W9.drew _)
   have HA2 := am_ (HA.out.below (b1_ (b3_ (Below.refl _ _)) (.cells (bytesRow t1 cap) 5 ((bytesRow t1 cap).size, (bytesRow t1 cap).size + 1))))
   have HGE := am_ HA.out.b0.size
   have HGL := am_ (show w.heap.size < W9.heap.size from blk_lt HA.out.eb)
   have HQL := am_ (show W9.heap.size ≠ q from fun e => by have := blk_lt HA.out.qb; omega)
   have q0 := HA.out.at 0 rfl
   generalize W9.drew.alloc (.cells (bytesRow t1 cap) 5 ((bytesRow t1 cap).size, (bytesRow t1 cap).size + 1)) = W10 at hcv HA2 HRW
   clear hcap
   replace HA := HA2
   clear HA2
   have q6 := HA.out.at 6 rfl
   have f6 := blk_frozen HA.out.qb 6
   go_upto_region 26 with (fail)
   clear q6 f6 q0 t1c hcv
   replace HA := am_ (show AS w (World.setCell W10 ⟨q, 6, none⟩ (.slice (some ⟨W9.heap.size, 0, none⟩) t1.size cap)) q Z52 (C49 4 l m pl t0 ⟨#[]⟩ (.slice (some ⟨W9.heap.size, 0, none⟩) t1.size cap) 0) from HA.out.put 6 (.slice (some ⟨W9.heap.size, 0, none⟩) t1.size cap) rfl)
   replace HRW := am_ ((Below.heap_setCell W10 ⟨q, 6, none⟩ (.slice (some ⟨W9.heap.size, 0, none⟩) t1.size cap) W9.heap.size HQL.out).trans HRW.out)
   generalize World.setCell W10 _ _ = W11 at HA HRW ⊢
   have q0 := HA.out.at 0 rfl
   have q1 := HA.out.at 1 rfl
   have q2 := HA.out.at 2 rfl
   have q3 := HA.out.at 3 rfl
   have q4 := HA.out.at 4 rfl
   have q5 := HA.out.at 5 rfl
   have q6 := HA.out.at 6 rfl
   have q7 := HA.out.at 7 rfl
   go_wp2_with (refine wpL_row rfl 52 (.tmp 2) (.tmp 125) rfl w.heap.size (C52 1 n 4 l m pl t0 ⟨#[]⟩ (.slice (some ⟨W9.heap.size, 0, none⟩) t1.size cap) 0) rfl rfl 52 Z52 HA.out.eb size52 rfl (by simp [Value.oneCell']) ?_; replace HA := am_ (HA.out.row (C52 1 n 4 l m pl t0 ⟨#[]⟩ (.slice (some ⟨W9.heap.size, 0, none⟩) t1.size cap) 0)); replace HRW := am_ ((row_far W11 w.heap.size W9.heap.size (C52 1 n 4 l m pl t0 ⟨#[]⟩ (.slice (some ⟨W9.heap.size, 0, none⟩) t1.size cap) 0) (Nat.ne_of_gt HGL.out)).trans HRW.out); generalize World.setRow _ _ _ = wZ at HA HRW ⊢)
   obtain ⟨e0, e1, e2, e3, e4, e5, e6, e7, e8, e9, e10, e11⟩ := c12_ HA.out.eb
   have HO := am_ (show OUT = some (askEv n 4 l m pl t0 ⟨#[]⟩ (nums8 t1.data.toList) 0) by rw [HOUT.out]; simp [askPut, HN.out, HC1.out, HD1.out, HP1.out, HU1.out, HU2.out])
   clear q0 q1 q2 q3 q4 q5 q6 q7
   (try rw [Exit.noGoto_ret])
   refine bodyPost_ret (v := .tuple #[.agg (C52 1 n 4 l m pl t0 ⟨#[]⟩ (.slice (some ⟨W9.heap.size, 0, none⟩) t1.size cap) 0), .bool true]) (by simp [results, Tryz.results46, go_sem, e0, e1, e2, e3, e4, e5, e6, e7, e8, e9, e10, e11]) rfl ?_
   rw [HO.out]
   have hlz : t1.size = (nums8 t1.data.toList).length := by rw [nums8_length]; exact Array.length_toList.symm
   have hts : t1.size ≤ 65536 := by
    have h1 := unq_size HU2.out
    have h2 := HS.out x (by simp)
    rw [data_length, data_length] at h1
    omega
   exact ⟨⟨some ⟨W9.heap.size, 0, none⟩, cap, by rw [hlz]; rfl, ⟨by show (nums8 t1.data.toList).length ≤ cap; rw [← hlz]; exact HC.out, F_conv HRW.out HGE.out hts⟩, rfl, rfl⟩, HA.out.b0⟩
theorem rask9 (gw cw : Nat) (h s kw c d p k x z : ByteArray) (w : World) (hE : sc.Env w) (hw : ∀ (j : Nat) (y_ : ByteArray), ([h, s, kw, c, d, p, k, x, z] : List ByteArray)[j]? = some y_ → w.cell? ⟨gw, j, none⟩ = some (.string y_)) (hs : ∀ y ∈ ([h, s, kw, c, d, p, k, x, z] : List ByteArray), y.size ≤ 65536) (hcw : 9 ≤ cw) (hk : kindN kw = 3) :
 Calls Tryz.prog 46 #[.slice (some ⟨gw, 0, none⟩) 9 cw] w fun e w' => AskOut w w' (askScan 3 s c d p k x z) e := by
 obtain ⟨OUT, hOUT⟩ : ∃ o, o = (askScan 3 s c d p k x z) := ⟨_, rfl⟩
 rw [← hOUT]
 have HOUT := am_ hOUT
 have HE := am_ hE
 have HW := am_ (fun (W' : World) (hb : Below w.heap.size w W') (j : Nat) (y_ : ByteArray) (hj : ([h, s, kw, c, d, p, k, x, z] : List ByteArray)[j]? = some y_) => (keep_ hb (hw j y_ hj) : W'.cell? ⟨gw, j, none⟩ = some (.string y_)))
 have HS := am_ hs
 have HK := am_ hk
 have hX := wld.alloc_same w (.cells Z52 52)
 have hB := b1_ (Below.refl w.heap.size w) (.cells Z52 52)
 have HX := am_ hX
 have HB := am_ hB
 have k1 := HW.out _ hB 1 s rfl
 clear hE hw hs hk hX hB hOUT
 go_enter Tryz.func46, Tryz.ntmps46
 go_wp2_with fail
 clear k1
 generalize w.alloc _ = W1 at HX HB ⊢
 refine (rnum_c s (HS.out s (by simp)) W1).mono ?_
 rintro e w1 ⟨rfl, hb1⟩
 replace HX := am_ ((hb1.block _ (blk_lt HX.out)).trans HX.out)
 replace HB := am_ (below_step HB.out hb1)
 clear hb1
 have k2 := HW.out _ HB.out 2 kw rfl
 go_wp2_with fail
 clear k2
 refine (rkind_c kw w1).mono ?_
 rintro e w2 ⟨rfl, hb2⟩
 replace HX := am_ ((hb2.block _ (blk_lt HX.out)).trans HX.out)
 replace HB := am_ (below_step HB.out hb2)
 clear hb2
 rw [HK.out]
 have HA := am_ (show AS w (w2.alloc (.cells (C49 3 0 0 0 ⟨#[]⟩ ⟨#[]⟩ (.slice none 0 0) 0) 49)) w2.heap.size Z52 (C49 3 0 0 0 ⟨#[]⟩ ⟨#[]⟩ (.slice none 0 0) 0) from ⟨HE.out, ((b1_ (Below.refl w2.heap.size w2) _).block _ (blk_lt HX.out)).trans HX.out, wld.alloc_same _ _, b1_ HB.out _, blk_lt HX.out⟩)
 clear HX HB
 go_upto_region 3 with (fail)
 generalize w2.alloc _ = W3 at HA ⊢
 generalize w2.heap.size = q at HA ⊢
 cases hn : sc.numOf s with
 | none =>
  have HO := am_ (show OUT = none by rw [HOUT.out]; unfold askScan; rw [hn]; rfl)
  clear HOUT hn
  have hsm : (none : Option Int).isSome = false := rfl
  have HE_ := am_ (show (Tryz.prog.info? 52).map (·.size) = some 12 from size52)
  go_wp2_with (refine wpL_row rfl 52 (.tmp 2) (.tmp 31) rfl w.heap.size Z52 rfl rfl 52 Z52 HA.out.eb size52 rfl (by simp [Value.oneCell']) ?_; replace HA := am_ (HA.out.row Z52); generalize World.setRow _ _ _ = wZ at HA ⊢)
  obtain ⟨e0, e1, e2, e3, e4, e5, e6, e7, e8, e9, e10, e11⟩ := c12_ HA.out.eb
  (try rw [Exit.noGoto_ret])
  refine bodyPost_ret (v := .tuple #[.agg Z52, .bool false]) (by simp [results, Tryz.results46, go_sem, e0, e1, e2, e3, e4, e5, e6, e7, e8, e9, e10, e11]) rfl ?_
  rw [HO.out]
  exact ⟨rfl, HA.out.b0⟩
 | some n =>
  have HN := am_ hn
  have hsm : (some n).isSome = true := rfl
  rw [(refNum_eq s).2 n hn]
  clear hn
  go_upto_region 6 with (fail)
  clear hsm
  go_wp2_with fail
  have hC := part_C (HW.out _ HA.out.b0) (by simp) 3 [c, d] (by intro j p_ hj; rcases j with _ | _ | j <;> first | exact hj | (simp at hj)) (by simp)
  refine (rnums_c [c, d] (by intro y hy; exact HS.out y (by simp at hy ⊢; rcases hy with rfl | rfl <;> simp)) (by simp) (some ⟨gw, 3, none⟩) (cw - 3) W3 hC (by simp; omega)).mono ?_
  clear hC
  rintro e w4 ⟨he, hb4⟩
  cases hc : sc.numOf c with
  | none =>
   have hnn : numsOf [c, d] = none := by simp [numsOf, hc]
   rw [hnn] at he
   obtain ⟨v, rfl, hr⟩ := he
   have HO := am_ (show OUT = none by rw [HOUT.out]; unfold askScan; rw [HN.out, hc]; rfl)
   clear HOUT hc hnn hr
   replace HA := am_ (HA.out.below hb4)
   clear hb4
   have HE_ := am_ (show (Tryz.prog.info? 52).map (·.size) = some 12 from size52)
   go_wp2_with (refine wpL_row rfl 52 (.tmp 2) (.tmp 43) rfl w.heap.size Z52 rfl rfl 52 Z52 HA.out.eb size52 rfl (by simp [Value.oneCell']) ?_; replace HA := am_ (HA.out.row Z52); generalize World.setRow _ _ _ = wZ at HA ⊢)
   obtain ⟨e0, e1, e2, e3, e4, e5, e6, e7, e8, e9, e10, e11⟩ := c12_ HA.out.eb
   (try rw [Exit.noGoto_ret])
   refine bodyPost_ret (v := .tuple #[.agg Z52, .bool false]) (by simp [results, Tryz.results46, go_sem, e0, e1, e2, e3, e4, e5, e6, e7, e8, e9, e10, e11]) rfl ?_
   rw [HO.out]
   exact ⟨rfl, HA.out.b0⟩
  | some l =>
  cases hd : sc.numOf d with
  | none =>
   have hnn : numsOf [c, d] = none := by simp [numsOf, hc, hd]
   rw [hnn] at he
   obtain ⟨v, rfl, hr⟩ := he
   have HO := am_ (show OUT = none by rw [HOUT.out]; unfold askScan; rw [HN.out, hc]; show (sc.numOf d).bind _ = none; rw [hd]; rfl)
   clear HOUT hc hd hnn hr
   replace HA := am_ (HA.out.below hb4)
   clear hb4
   have HE_ := am_ (show (Tryz.prog.info? 52).map (·.size) = some 12 from size52)
   go_wp2_with (refine wpL_row rfl 52 (.tmp 2) (.tmp 43) rfl w.heap.size Z52 rfl rfl 52 Z52 HA.out.eb size52 rfl (by simp [Value.oneCell']) ?_; replace HA := am_ (HA.out.row Z52); generalize World.setRow _ _ _ = wZ at HA ⊢)
   obtain ⟨e0, e1, e2, e3, e4, e5, e6, e7, e8, e9, e10, e11⟩ := c12_ HA.out.eb
   (try rw [Exit.noGoto_ret])
   refine bodyPost_ret (v := .tuple #[.agg Z52, .bool false]) (by simp [results, Tryz.results46, go_sem, e0, e1, e2, e3, e4, e5, e6, e7, e8, e9, e10, e11]) rfl ?_
   rw [HO.out]
   exact ⟨rfl, HA.out.b0⟩
  | some m =>
  have hnn : numsOf [c, d] = some [l, m] := by simp [numsOf, hc, hd]
  rw [hnn] at he
  obtain ⟨v, rfl, hr⟩ := he
  obtain ⟨An, cn, rfl, hcn, hCn⟩ := Kd.R_reads hr
  obtain ⟨bN, oN, rfl, n0, n1⟩ := two_cells hCn
  have HC1 := am_ hc
  have HD1 := am_ hd
  replace HA := am_ (HA.out.below hb4)
  clear hc hd hnn hr hCn hb4
  go_upto_region 9 with (fail)
  refine start_ (n := 9) (S := fun w' => w'.cell? ⟨bN, oN, none⟩ = some (.int .i64 l) ∧ w'.cell? ⟨bN, oN + 1, none⟩ = some (.int .i64 m)) (ds := [8]) (bs_ 9 0) (by kernel_rfl) rfl rfl ⟨n0, n1⟩ (fun hHeld => ?_)
  replace HA := am_ HA.out.drew; generalize w4.drew = w5 at HA hHeld ⊢
  refine pA_ 0 44 (bs_ 9 1) ?_
  refine pA_ 1 45 (bs_ 9 3) ?_
  refine pA_ 3 47 (bs_ 9 11) ?_
  refine pA_ 4 48 (bs_ 9 27) ?_
  refine tA_ hHeld 2 46 (bs_ 9 31) ?_
  refine tA_ hHeld 5 49 (bs_ 9 63) ?_
  refine pA_ 6 50 (bs_ 9 127) ?_
  refine pA_ 7 51 (bs_ 9 255) ?_
  refine last_ (i := 8) (N := none) (bs_ 9 511) rfl rfl (by kernel_rfl) (by decide) (fun K hK => ?_)
  refine store_all_ [.int .i64 l, .int .i64 m] (u := .agg #[.int .i64 l, .int .i64 m]) (by rfl) rfl rfl rfl rfl HA.out.qb rfl size37 (by simp) (by intro y hy; simp at hy; rcases hy with rfl | rfl <;> rfl) ?_
  have HA2 := am_ (show AS w (World.setCells w5 q 1 [.int .i64 l, .int .i64 m]) q Z52 (C49 3 l m 0 ⟨#[]⟩ ⟨#[]⟩ (.slice none 0 0) 0) from (HA.out.put 1 (.int .i64 l) (cq' := C49 3 l 0 0 ⟨#[]⟩ ⟨#[]⟩ (.slice none 0 0) 0) rfl).put 2 (.int .i64 m) rfl)
  refine hK.out _ _ ?_
  clear hK K
  refine done_ (by kernel_rfl) ?_
  replace HA := HA2
  clear HA2 n0 n1
  generalize World.setCells _ _ _ _ = W6 at HA ⊢
  have k5 := HW.out _ HA.out.b0 5 p rfl
  go_wp2_with fail
  clear k5
  refine (rnum_c p (HS.out p (by simp)) W6).mono ?_
  rintro e w7 ⟨rfl, hb7⟩
  replace HA := am_ (HA.out.below hb7)
  clear hb7
  go_upto_region 13 with (fail)
  cases hp : sc.numOf p with
  | none =>
   have HO := am_ (show OUT = none by simp [HOUT.out, askScan, HN.out, HC1.out, HD1.out, hp])
   have hsm : (none : Option Int).isSome = false := rfl
   clear HOUT hp
   have HE_ := am_ (show (Tryz.prog.info? 52).map (·.size) = some 12 from size52)
   go_wp2_with (refine wpL_row rfl 52 (.tmp 2) (.tmp 64) rfl w.heap.size Z52 rfl rfl 52 Z52 HA.out.eb size52 rfl (by simp [Value.oneCell']) ?_; replace HA := am_ (HA.out.row Z52); generalize World.setRow _ _ _ = wZ at HA ⊢)
   obtain ⟨e0, e1, e2, e3, e4, e5, e6, e7, e8, e9, e10, e11⟩ := c12_ HA.out.eb
   (try rw [Exit.noGoto_ret])
   refine bodyPost_ret (v := .tuple #[.agg Z52, .bool false]) (by simp [results, Tryz.results46, go_sem, e0, e1, e2, e3, e4, e5, e6, e7, e8, e9, e10, e11]) rfl ?_
   rw [HO.out]
   exact ⟨rfl, HA.out.b0⟩
  | some pl =>
  have hsm : (some pl).isSome = true := rfl
  rw [(refNum_eq p).2 pl hp]
  have HP1 := am_ hp
  clear hp
  have q3 := HA.out.at 3 rfl
  have f3 := blk_frozen HA.out.qb 3
  go_upto_region 16 with (fail)
  clear q3 f3 hsm
  replace HA := am_ (show AS w _ q Z52 (C49 3 l m pl ⟨#[]⟩ ⟨#[]⟩ (.slice none 0 0) 0) from HA.out.put 3 (.int .i64 pl) rfl)
  generalize World.setCell _ _ _ = W8 at HA ⊢
  go_wp2_with fail
  go_loopw [9, 12] (fun vt iv wr => ∃ (i n_ c_ : Nat) (A_ : Option Addr) (ts : List ByteArray), 6 ≤ i ∧ i ≤ 8 ∧ iv = .int .i64 i ∧ vt = .slice A_ n_ c_ ∧ ts.length + 6 = i ∧ (∀ j t, ts[j]? = some t → ∃ y, ([h, s, kw, c, d, p, k, x, z] : List ByteArray)[6 + j]? = some y ∧ sc.unquoteL y.data.toList = some t.data.toList) ∧ Kd.R Kd.string 9 wr w.heap.size TT_ (.slice A_ n_ c_) ts ∧ AS w wr q Z52 (C49 3 l m pl ⟨#[]⟩ ⟨#[]⟩ (.slice none 0 0) 0)) (fun _ iv _ => 9 - (intOf iv).toNat)
  case atStart => exact ⟨6, 0, 0, none, [], by decide, by decide, rfl, rfl, rfl, (by intro j t ht; simp at ht), Kd.R_nil _ _ _ _ _, HA.out⟩
  case round =>
   clear HA
   obtain ⟨i, n_, c_, A, ts, hi6, hi8, rfl, rfl, hlen, hq, hr, hA⟩ := hrel
   have HA := am_ hA
   have HR := am_ hr
   have HQ := am_ hq
   clear hA hr hq
   by_cases hlt : i < 8
   · obtain ⟨y, hy⟩ : ∃ y, ([h, s, kw, c, d, p, k, x, z] : List ByteArray)[i]? = some y := ⟨_, List.getElem?_eq_getElem (by simp; omega)⟩
     have kx := HW.out _ HA.out.b0 i y hy
     have HY := am_ (HS.out y (List.mem_of_getElem? hy))
     have h9 : i < 9 := by omega
     have h8 : i < 8 := by omega
     go_wp2_with fail
     refine (runq_c y HY.out wr HA.out.env).mono ?_
     rintro e w1 ⟨t, rfl, ht, hb1⟩
     have HT := am_ ht
     replace HA := am_ (HA.out.below hb1)
     replace HR := am_ (Kd.R_below HR.out hb1)
     clear kx ht hb1
     cases hu : sc.unquoteL y.data.toList with
     | none =>
      have HO := am_ (show OUT = none by
      have hi67 : i = 6 ∨ i = 7 := by omega
      rcases hi67 with rfl | rfl
      · obtain rfl : k = y := Option.some.inj hy
        simp [HOUT.out, askScan, HN.out, HC1.out, HD1.out, HP1.out, hu]
      · obtain rfl : x = y := Option.some.inj hy
        have hl1 : 0 < ts.length := by omega
        obtain ⟨z1, e1, e2⟩ := HQ.out 0 ts[0] (List.getElem?_eq_getElem hl1)
        obtain rfl : k = z1 := Option.some.inj e1
        simp [HOUT.out, askScan, HN.out, HC1.out, HD1.out, HP1.out, e2, hu])
      have hsm : (none : Option (List UInt8)).isSome = false := rfl
      clear HOUT hu hy HT
      have HE_ := am_ (show (Tryz.prog.info? 52).map (·.size) = some 12 from size52)
      go_wp2_with (refine wpL_row rfl 52 (.tmp 2) (.tmp 87) rfl w.heap.size Z52 rfl rfl 52 Z52 HA.out.eb size52 rfl (by simp [Value.oneCell']) ?_; replace HA := am_ (HA.out.row Z52); generalize World.setRow _ _ _ = wZ at HA ⊢)
      obtain ⟨e0, e1, e2, e3, e4, e5, e6, e7, e8, e9, e10, e11⟩ := c12_ HA.out.eb
      (try rw [Exit.noGoto_ret])
      refine bodyPost_ret (v := .tuple #[.agg Z52, .bool false]) (by simp [results, Tryz.results46, go_sem, e0, e1, e2, e3, e4, e5, e6, e7, e8, e9, e10, e11]) rfl ?_
      rw [HO.out]
      exact ⟨rfl, HA.out.b0⟩
     | some u =>
      have HT2 := am_ (HT.out u hu)
      have HU := am_ hu
      have HYY := am_ hy
      have hsm : (some u).isSome = true := rfl
      clear hu hy HT
      go_wp2_with (at_builtin; refine Kd.R_append Kd.string (w0 := w) w.heap.size rfl (.tmp 88) (.tmp 90) 71 9 (.string ⟨#[]⟩) 16 rfl Tryz.underlying71 it.info9' rfl (by decide) (by omega) (.slice A n_ c_) ts t [.string t] TT_ (fun _ => False) rfl rfl ?aP (fun _ hk => hk.elim) ?aF ?aO ?aB ?aS ?aL ?_; (case aP => exact rfl); (case aF => exact (fun _ _ => trivial)); (case aO => exact HR.out); (case aB => exact HA.out.b0); (case aS => exact HA.out.b0.size); (case aL => omega); intro v2 w2 ho2 hb2 hg2 hat2; replace HA := am_ (HA.out.grown hg2 (fun k_ e_ => ⟨fun h_ => Kd.R_ne HR.out HA.out.eb (by decide) (by rw [e_, h_]), fun h_ => Kd.R_ne HR.out HA.out.qb (by decide) (by rw [e_, h_]), Kd.R_base HR.out k_ e_⟩)); replace HR := am_ ho2; clear ho2 hb2 hg2 hat2)
      obtain ⟨B2, c2, rfl⟩ := Kd.R_slice HR.out
      go_roundw
      case rel =>
       have hnew : ∀ (j : Nat) (t' : ByteArray), (ts ++ [t])[j]? = some t' → ∃ y, ([h, s, kw, c, d, p, k, x, z] : List ByteArray)[6 + j]? = some y ∧ sc.unquoteL y.data.toList = some t'.data.toList := by
        intro j t' ht'
        rcases Nat.lt_or_ge j ts.length with hj | hj
        · rw [List.getElem?_append_left hj] at ht'
          exact HQ.out j t' ht'
        rw [List.getElem?_append_right hj] at ht'
        have hj0 : j - ts.length = 0 := by
         rcases Nat.eq_zero_or_pos (j - ts.length) with h | h
         · exact h
         rw [List.getElem?_eq_none (by simp; omega)] at ht'; cases ht'
        rw [hj0] at ht'
        obtain rfl := Option.some.inj ht'
        refine ⟨y, ?_, ?_⟩
        · rw [show 6 + j = i by omega]; exact HYY.out
        rw [HU.out, HT2.out]
       first
       | exact ⟨i + 1, _, _, _, ts ++ [t], by omega, by omega, by go_num, rfl, by simp; omega, hnew, HR.out, HA.out⟩
       | (repeat apply Exists.intro); exact ⟨⟨i + 1, _, _, _, ts ++ [t], by omega, by omega, by go_num, rfl, by simp; omega, hnew, HR.out, HA.out⟩, rfl⟩
      case measure => simp [intOf]; omega
   have hiN : i = 8 := by omega
   have h9 : i < 9 := by omega
   have h8 : ¬ i < 8 := by omega
   have hCt := (Kd.R_reads' HR.out).2.2
   have hl0 : 0 < ts.length := by omega
   obtain ⟨bT, oT, hAT, hcT⟩ := str_cell hCt (List.getElem?_eq_getElem hl0)
   subst hAT
   obtain ⟨z1, e1, hu1⟩ := HQ.out 0 ts[0] (List.getElem?_eq_getElem hl0)
   obtain rfl : k = z1 := Option.some.inj e1
   have HU1 := am_ hu1
   have t0c := hcT 0 ts[0] (List.getElem?_eq_getElem hl0)
   rw [Nat.add_zero] at t0c
   have hl1 : 1 < ts.length := by omega
   obtain ⟨z2, e2, hu2⟩ := HQ.out 1 ts[1] (List.getElem?_eq_getElem hl1)
   obtain rfl : x = z2 := Option.some.inj e2
   have HU2 := am_ hu2
   have t1c := hcT 1 ts[1] (List.getElem?_eq_getElem hl1)
   have hn_ : n_ = 2 := by have := (Kd.R_reads' HR.out).1; omega
   subst hn_
   clear hCt hcT e1 hu1 e2 hu2 HQ hlen hi6 hi8 hlt hiN
   generalize ts[0] = t0 at t0c HU1
   generalize ts[1] = t1 at t1c HU2
   clear hl0 hl1
   have HNE := am_ (own_ne HR.out HA.out.qb (by decide))
   have q4 := HA.out.at 4 rfl
   have f4 := blk_frozen HA.out.qb 4
   go_upto_region 24 with (fail)
   clear q4 f4 t0c
   replace HA := am_ (show AS w (World.setCell wr ⟨q, 4, none⟩ (.string t0)) q Z52 (C49 3 l m pl t0 ⟨#[]⟩ (.slice none 0 0) 0) from HA.out.put 4 (.string t0) rfl)
   replace t1c := wld.cellSet (p := ⟨q, 4, none⟩) t1c HNE.out (.string t0)
   generalize World.setCell wr _ _ = W9 at HA t1c ⊢
   clear HR
   have q0 := HA.out.at 0 rfl
   have k8 := HW.out _ HA.out.b0 8 z rfl
   go_wp2_with fail
   clear q0 k8
   refine (rnum_c z (HS.out z (by simp)) W9).mono ?_
   rintro e w10 ⟨rfl, hb10⟩
   replace HA := am_ (HA.out.below hb10)
   replace t1c := keep_ hb10 t1c
   clear hb10
   go_upto_region 28 with (fail)
   cases hz : sc.numOf z with
   | none =>
    have HO := am_ (show OUT = none by simp [HOUT.out, askScan, HN.out, HC1.out, HD1.out, HP1.out, HU1.out, HU2.out, hz])
    have hsm : (none : Option Int).isSome = false := rfl
    clear HOUT hz
    have HE_ := am_ (show (Tryz.prog.info? 52).map (·.size) = some 12 from size52)
    go_wp2_with (refine wpL_row rfl 52 (.tmp 2) (.tmp 116) rfl w.heap.size Z52 rfl rfl 52 Z52 HA.out.eb size52 rfl (by simp [Value.oneCell']) ?_; replace HA := am_ (HA.out.row Z52); generalize World.setRow _ _ _ = wZ at HA ⊢)
    obtain ⟨e0, e1, e2, e3, e4, e5, e6, e7, e8, e9, e10, e11⟩ := c12_ HA.out.eb
    (try rw [Exit.noGoto_ret])
    refine bodyPost_ret (v := .tuple #[.agg Z52, .bool false]) (by simp [results, Tryz.results46, go_sem, e0, e1, e2, e3, e4, e5, e6, e7, e8, e9, e10, e11]) rfl ?_
    rw [HO.out]
    exact ⟨rfl, HA.out.b0⟩
   | some lim =>
   have hsm : (some lim).isSome = true := rfl
   rw [(refNum_eq z).2 lim hz]
   have HZ1 := am_ hz
   clear hz
   have q5 := HA.out.at 5 rfl
   have f5 := blk_frozen HA.out.qb 5
   have q7 := HA.out.at 7 rfl
   have f7 := blk_frozen HA.out.qb 7
   go_upto_region 31 with (fail)
   clear q5 f5 q7 f7 t1c hsm
   replace HA := am_ (show AS w (World.setCell (World.setCell w10 ⟨q, 5, none⟩ (.string t1)) ⟨q, 7, none⟩ (.int .i64 lim)) q Z52 (C49 3 l m pl t0 t1 (.slice none 0 0) lim) from (HA.out.put 5 (.string t1) (cq' := C49 3 l m pl t0 t1 (.slice none 0 0) 0) rfl).put 7 (.int .i64 lim) rfl)
   generalize World.setCell (World.setCell w10 _ _) _ _ = W11 at HA ⊢
   have q0 := HA.out.at 0 rfl
   have q1 := HA.out.at 1 rfl
   have q2 := HA.out.at 2 rfl
   have q3 := HA.out.at 3 rfl
   have q4 := HA.out.at 4 rfl
   have q5 := HA.out.at 5 rfl
   have q6 := HA.out.at 6 rfl
   have q7 := HA.out.at 7 rfl
   go_wp2_with (refine wpL_row rfl 52 (.tmp 2) (.tmp 125) rfl w.heap.size (C52 1 n 3 l m pl t0 t1 (.slice none 0 0) lim) rfl rfl 52 Z52 HA.out.eb size52 rfl (by simp [Value.oneCell']) ?_; replace HA := am_ (HA.out.row (C52 1 n 3 l m pl t0 t1 (.slice none 0 0) lim)); generalize World.setRow _ _ _ = wZ at HA ⊢)
   obtain ⟨e0, e1, e2, e3, e4, e5, e6, e7, e8, e9, e10, e11⟩ := c12_ HA.out.eb
   have HO := am_ (show OUT = some (askEv n 3 l m pl t0 t1 [] lim) by rw [HOUT.out]; simp [askScan, HN.out, HC1.out, HD1.out, HP1.out, HU1.out, HU2.out, HZ1.out])
   clear q0 q1 q2 q3 q4 q5 q6 q7
   (try rw [Exit.noGoto_ret])
   refine bodyPost_ret (v := .tuple #[.agg (C52 1 n 3 l m pl t0 t1 (.slice none 0 0) lim), .bool true]) (by simp [results, Tryz.results46, go_sem, e0, e1, e2, e3, e4, e5, e6, e7, e8, e9, e10, e11]) rfl ?_
   rw [HO.out]
   exact ⟨⟨_, _, rfl, VR0.nil _ _, rfl, rfl⟩, HA.out.b0⟩
theorem rask_c (gw cw : Nat) (ws : List ByteArray) (w : World) (hE : sc.Env w) (hw : ∀ (j : Nat) (y : ByteArray), ws[j]? = some y → w.cell? ⟨gw, j, none⟩ = some (.string y)) (hs : ∀ y ∈ ws, y.size ≤ 65536) (hcw : ws.length ≤ cw)
 (n : Int) (rd : Rd) (hsel : askOf (ws.getD 2 ⟨#[]⟩) = some (n, false, rd)) (hl : (ws.length : Int) = n + 1) :
 ∃ o : Option S52, (∀ s, rd ws.tail s = o.map (addEv s)) ∧ Calls Tryz.prog 46 #[.slice (some ⟨gw, 0, none⟩) ws.length cw] w fun e w' => AskOut w w' o e := by
 unfold askOf at hsel
 split at hsel
 · rename_i hk
   injection hsel with e
   injection e with e1 e
   injection e with _ e
   subst e1 e
   obtain ⟨x0, x1, x2, rfl⟩ : ∃ a b c, ws = [a, b, c] := by
    obtain ⟨a, b, rfl⟩ | h := Classical.em (∃ a b, ws = [a, b])
    · simp at hl
    rcases ws with _ | ⟨a, _ | ⟨b, _ | ⟨c, _ | ⟨d, r⟩⟩⟩⟩ <;> simp at hl <;> first | exact ⟨_, _, _, rfl⟩ | omega
   have hx : x2 = (⟨#[98, 101, 103, 105, 110]⟩ : ByteArray) := hk
   exact ⟨_, fun s => rfl, rask3 gw cw x0 x1 x2 w hE hw hs hcw (by rw [hx]; rfl)⟩
 split at hsel
 · rename_i _ hk
   injection hsel with e
   injection e with e1 e
   injection e with _ e
   subst e1 e
   obtain ⟨a, b, c, d, f, g, i, rfl⟩ := len7 ws (by omega)
   have hx : c = (⟨#[103, 101, 116]⟩ : ByteArray) := hk
   exact ⟨_, fun s => rfl, rask7 gw cw a b c d f g i 2 rfl rfl w hE hw hs hcw (by rw [hx]; decide)⟩
 split at hsel
 · rename_i _ _ hk
   injection hsel with e
   injection e with e1 e
   injection e with _ e
   subst e1 e
   obtain ⟨a, b, c, d, f, g, i, j, k, rfl⟩ : ∃ a b c d f g i j k, ws = [a, b, c, d, f, g, i, j, k] := by
    rcases ws with _ | ⟨a, r⟩
    · simp at hl
    obtain ⟨b, c, d, f, g, i, j, k, rfl⟩ := len8 r (by simp at hl; omega)
    exact ⟨_, _, _, _, _, _, _, _, _, rfl⟩
   have hx : c = (⟨#[115, 99, 97, 110]⟩ : ByteArray) := hk
   exact ⟨_, fun s => rfl, rask9 gw cw a b c d f g i j k w hE hw hs hcw (by rw [hx]; decide)⟩
 split at hsel
 · rename_i _ _ _ hk
   injection hsel with e
   injection e with e1 e
   injection e with _ e
   subst e1 e
   obtain ⟨a, b, c, d, f, g, i, j, rfl⟩ := len8 ws (by omega)
   have hx : c = (⟨#[112, 117, 116]⟩ : ByteArray) := hk
   exact ⟨_, fun s => rfl, rask8 gw cw a b c d f g i j w hE hw hs hcw (by rw [hx]; decide)⟩
 split at hsel
 · rename_i _ _ _ _ hk
   injection hsel with e
   injection e with e1 e
   injection e with _ e
   subst e1 e
   obtain ⟨a, b, c, d, f, g, i, rfl⟩ := len7 ws (by omega)
   have hx : c = (⟨#[100, 101, 108, 101, 116, 101]⟩ : ByteArray) := hk
   exact ⟨_, fun s => rfl, rask7 gw cw a b c d f g i 5 rfl rfl w hE hw hs hcw (by rw [hx]; decide)⟩
 split at hsel
 · rename_i _ _ _ _ _ hk
   injection hsel with e
   injection e with e1 e
   injection e with _ e
   subst e1 e
   obtain ⟨a, b, c, d, f, rfl⟩ := len5 ws (by omega)
   have hx : c = (⟨#[99, 111, 109, 109, 105, 116]⟩ : ByteArray) := hk
   exact ⟨_, fun s => rfl, rask5 gw cw a b c d f 6 rfl rfl w hE hw hs hcw (by rw [hx]; decide)⟩
 split at hsel
 · rename_i _ _ _ _ _ _ hk
   injection hsel with e
   injection e with e1 e
   injection e with _ e
   subst e1 e
   obtain ⟨a, b, c, d, f, rfl⟩ := len5 ws (by omega)
   have hx : c = (⟨#[97, 98, 111, 114, 116]⟩ : ByteArray) := hk
   exact ⟨_, fun s => rfl, rask5 gw cw a b c d f 7 rfl rfl w hE hw hs hcw (by rw [hx]; decide)⟩
 cases hsel
inductive LK6 (h : ByteArray) (tl : List ByteArray) (s : Stt) : Prop where
 | bad (n : Int) (more is : Bool) : cntN (h :: tl) = (n, more, is) → (is = false ∨ (is = true ∧ ((h :: tl).length : Int) < n) ∨ (is = true ∧ ¬ ((h :: tl).length : Int) < n ∧ n < ((h :: tl).length : Int) ∧ more = false)) → lineOf (h :: tl) s = (260, none) → LK6 h tl s
 | good (n : Int) (more : Bool) (rd : Rd) : selOf (h :: tl) = some (n, more, rd) → cntN (h :: tl) = (n + 1, more, true) → ¬ ((tl.length : Int) < n) → ((tl.length : Int) > n → more = true) → lineOf (h :: tl) s = (match rd tl s with
  | none => (261, none)
  | some s' => (0, some s')) → LK6 h tl s
theorem lk6 (h : ByteArray) (tl : List ByteArray) (s : Stt) : LK6 h tl s := by
 cases hs : selOf (h :: tl) with
 | none =>
  have hc : cntN (h :: tl) = (0, false, false) := by unfold cntN; rw [hs]
  exact .bad 0 false false hc (.inl rfl) (lineOf_none hs)
 | some p =>
  obtain ⟨n, more, rd⟩ := p
  have hc : cntN (h :: tl) = (n + 1, more, true) := by unfold cntN; rw [hs]
  by_cases hb : ((tl.length : Int) < n ∨ ((tl.length : Int) > n ∧ more = false))
  · refine .bad _ _ _ hc ?_ (lineOf_bad hs hb)
    rcases hb with hb | ⟨hb, hm⟩
    · exact .inr (.inl ⟨rfl, by rw [List.length_cons]; omega⟩)
    exact .inr (.inr ⟨rfl, by rw [List.length_cons]; omega, by rw [List.length_cons]; omega, hm⟩)
  refine .good n more rd hs hc (fun e => hb (.inl e)) (fun e => ?_) (lineOf_rd hs hb)
  cases hm : more with
  | true => rfl
  | false => exact absurd (.inr ⟨e, hm⟩) hb
theorem R_sliceM {α : Type} {d : Kd α} {e base : Nat} {ok : Nat → Prop} {w : World} {v : Value} {xs : List α} (h : d.R e w base ok v xs) : ∃ A n c, v = .slice A n c := by
 obtain ⟨A, c, rfl⟩ := Kd.R_slice h
 exact ⟨A, _, c, rfl⟩
structure PR2 (W wr : World) (cb : Nat) (vl v0 v1 v2 v3 : Value) (L : List ByteArray) (k : Nat) (s : Stt) : Prop where
 hk : k ≤ L.length
 cbk : wr.heap[cb]? = some (.cells #[v0, v1, v2] 26 (0, 0))
 ge : W.heap.size ≤ cb
 rows : Rows5 wr W.heap.size vl v0 v1 v2 v3 L s.1 s.2.1 s.2.2.1 s.2.2.2
 rest : parseL 0 L S0_ = parseL k (L.drop k) s
 cnt : cntS s ≤ k
 bW : Below W.heap.size W wr
 env : sc.Env wr
section
variable {W w w1 : World} {cb : Nat} {vl v0 v1 v2 v3 : Value} {L : List ByteArray} {k : Nat} {s : Stt}
structure PM (W w : World) (cb : Nat) (vl v0 v1 v2 v3 : Value) (L : List ByteArray) (s : Stt) : Prop where
 cbk : w.heap[cb]? = some (.cells #[v0, v1, v2] 26 (0, 0))
 ge : W.heap.size ≤ cb
 rows : Rows5 w W.heap.size vl v0 v1 v2 v3 L s.1 s.2.1 s.2.2.1 s.2.2.2
 bW : Below W.heap.size W w
 env : sc.Env w
theorem PM.below (h : PM W w cb vl v0 v1 v2 v3 L s) (hb : Below w.heap.size w w1) : PM W w1 cb vl v0 v1 v2 v3 L s := ⟨(hb.block _ (blk_lt h.cbk)).trans h.cbk, h.ge, h.rows.below hb, below_step h.bW hb, h.env.below hb⟩
theorem PM.drew (h : PM W w cb vl v0 v1 v2 v3 L s) : PM W w.drew cb vl v0 v1 v2 v3 L s := h.below (b3_ (Below.refl _ _))
theorem other26' : Other 26 := by unfold Other; decide
theorem PM.put0 {v : Value} {n : List Int} (hE0 : sc.Env W) (h : PM W w cb vl v0 v1 v2 v3 L s) (hn : Kd.R (Kd.int .u64) 68 w1 W.heap.size TT_ v n) (hb : Below W.heap.size W w1) (hg : w.grownBy w1 v0.ownBlock) : PM W (w1.setCell ⟨cb, 0, none⟩ v) cb vl v v1 v2 v3 L (n, s.2.1, s.2.2.1, s.2.2.2) := by
 have hc := grown_blk h.cbk (R_typ h.rows.r0) (by decide) hg
 exact ⟨blk_set hc 0 v, h.ge, (h.rows.put0 hn hg).set hc other26' 0 v, hb.setCell (p := ⟨cb, 0, none⟩) h.ge v, hE0.below (hb.setCell (p := ⟨cb, 0, none⟩) h.ge v)⟩
theorem PM.put1 {v : Value} {n : List S70} (hE0 : sc.Env W) (h : PM W w cb vl v0 v1 v2 v3 L s) (hn : Kd.R k70 70 w1 W.heap.size TT_ v n) (hb : Below W.heap.size W w1) (hg : w.grownBy w1 v1.ownBlock) : PM W (w1.setCell ⟨cb, 1, none⟩ v) cb vl v0 v v2 v3 L (s.1, n, s.2.2.1, s.2.2.2) := by
 have hc := grown_blk h.cbk (R_typ h.rows.r1) (by decide) hg
 exact ⟨blk_set hc 1 v, h.ge, (h.rows.put1 hn hg).set hc other26' 1 v, hb.setCell (p := ⟨cb, 1, none⟩) h.ge v, hE0.below (hb.setCell (p := ⟨cb, 1, none⟩) h.ge v)⟩
theorem PM.put2 {v : Value} {n : List Int} (hE0 : sc.Env W) (h : PM W w cb vl v0 v1 v2 v3 L s) (hn : Kd.R (Kd.int .i64) 3 w1 W.heap.size TT_ v n) (hb : Below W.heap.size W w1) (hg : w.grownBy w1 v2.ownBlock) : PM W (w1.setCell ⟨cb, 2, none⟩ v) cb vl v0 v1 v v3 L (s.1, s.2.1, n, s.2.2.2) := by
 have hc := grown_blk h.cbk (R_typ h.rows.r2) (by decide) hg
 exact ⟨blk_set hc 2 v, h.ge, (h.rows.put2 hn hg).set hc other26' 2 v, hb.setCell (p := ⟨cb, 2, none⟩) h.ge v, hE0.below (hb.setCell (p := ⟨cb, 2, none⟩) h.ge v)⟩
theorem PM.put3 {v : Value} {n : List S52} (hE0 : sc.Env W) (h : PM W w cb vl v0 v1 v2 v3 L s) (hn : EvR w1 W.heap.size v n) (hb : Below W.heap.size W w1) (hg : w.grownBy w1 v3.ownBlock) : PM W w1 cb vl v0 v1 v2 v L (s.1, s.2.1, s.2.2.1, n) := by
 exact ⟨grown_blk h.cbk h.rows.r3.typ (by decide) hg, h.ge, h.rows.put3 hn hg, hb, hE0.below hb⟩
end
end Go.Proofs.YtndbbgihpoiojaaGreatDoor.Q
namespace Go.Proofs.YtndbbgihpoiojaaGreatDoor.Q
open Go.RowKit Go.Proofs.YtndbbgihpoiojaaGreatDoorW.PrintWords Go.Proofs.YtndbbgihpoiojaaGreatDoorW.PrintLast
open Go.Proofs.YtndbbgihpoiojaaGreatDoor.it
theorem ask_more {k : ByteArray} {n : Int} {more : Bool} {rd : Rd} (h : askOf k = some (n, more, rd)) : more = false := by
 unfold askOf at h
 repeat' (first | (injection h with e; injection e with _ e; injection e with e _; exact e.symm) | split at h)
 cases h
theorem sel_cases {h : ByteArray} {tl : List ByteArray} {n : Int} {more : Bool} {rd : Rd} (hs : selOf (h :: tl) = some (n, more, rd)) :
 (h = wLabel ∧ n = 1 ∧ more = false ∧ rd = rdLabel) ∨ (h = wAccount ∧ n = 5 ∧ more = false ∧ rd = rdAccount) ∨ (h = wSession ∧ n = 1 ∧ more = false ∧ rd = rdSession) ∨
 (h = wTick ∧ n = 0 ∧ more = true ∧ rd = rdEvent 2 false) ∨ (h = wVacuum ∧ n = 1 ∧ more = true ∧ rd = rdEvent 3 true) ∨ (h = wCheckpoint ∧ n = 1 ∧ more = true ∧ rd = rdEvent 4 true) ∨ (h = wIdle ∧ n = 0 ∧ more = true ∧ rd = rdEvent 5 false) ∨
 (h = wAsk ∧ 2 < (h :: tl).length ∧ more = false ∧ askOf ((h :: tl).getD 2 ⟨#[]⟩) = some (n, false, rd)) := by
 unfold selOf at hs
 split at hs
 · rename_i hc
   have hm := ask_more hs
   subst hm
   exact .inr (.inr (.inr (.inr (.inr (.inr (.inr ⟨hc.1, hc.2, rfl, hs⟩))))))
 unfold formOf at hs
 have hh : hd0 (h :: tl) = h := rfl
 rw [hh] at hs
 split at hs
 · rename_i hc; injection hs with e; injection e with e1 e; injection e with e2 e3; exact .inl ⟨hc, e1.symm, e2.symm, e3.symm⟩
 split at hs
 · rename_i hc; injection hs with e; injection e with e1 e; injection e with e2 e3; exact .inr (.inl ⟨hc, e1.symm, e2.symm, e3.symm⟩)
 split at hs
 · rename_i hc; injection hs with e; injection e with e1 e; injection e with e2 e3; exact .inr (.inr (.inl ⟨hc, e1.symm, e2.symm, e3.symm⟩))
 split at hs
 · rename_i hc; injection hs with e; injection e with e1 e; injection e with e2 e3; exact .inr (.inr (.inr (.inl ⟨hc, e1.symm, e2.symm, e3.symm⟩)))
 split at hs
 · rename_i hc; injection hs with e; injection e with e1 e; injection e with e2 e3; exact .inr (.inr (.inr (.inr (.inl ⟨hc, e1.symm, e2.symm, e3.symm⟩))))
 split at hs
 · rename_i hc; injection hs with e; injection e with e1 e; injection e with e2 e3; exact .inr (.inr (.inr (.inr (.inr (.inl ⟨hc, e1.symm, e2.symm, e3.symm⟩)))))
 split at hs
 · rename_i hc; injection hs with e; injection e with e1 e; injection e with e2 e3; exact .inr (.inr (.inr (.inr (.inr (.inr (.inl ⟨hc, e1.symm, e2.symm, e3.symm⟩))))))
 cases hs
theorem nums5 (a b c d f : ByteArray) : numsOf [a, b, c, d, f] = (accOf a b c d f).map fun x => [x.f0, x.f1, x.f2, x.f3, x.f4] := by
 unfold accOf
 simp only [numsOf]
 cases sc.numOf a <;> cases sc.numOf b <;> cases sc.numOf c <;> cases sc.numOf d <;> cases sc.numOf f <;> rfl
theorem five_cells {w : World} {base : Nat} {v : Value} {a b c d f : Int} (h : Kd.R (Kd.int .i64) 3 w base TT_ v [a, b, c, d, f]) : ∃ g cp cells, v = .slice (some ⟨g, 0, none⟩) 5 cp ∧ w.heap[g]? = some (.cells cells 3 (0, 0)) ∧
 cells[0]? = some (.int .i64 a) ∧ cells[1]? = some (.int .i64 b) ∧ cells[2]? = some (.int .i64 c) ∧ cells[3]? = some (.int .i64 d) ∧ cells[4]? = some (.int .i64 f) := by
 obtain ⟨g, cp, rfl⟩ := ownsRow_succ (k := 4) (Kd.own_of_R h)
 obtain ⟨cells, hb⟩ := R_typ h g rfl
 obtain ⟨_, _, hC⟩ := Kd.R_reads' h
 have hx : ∀ (j : Nat) (n : Int), ([a, b, c, d, f] : List Int)[j]? = some n → cells[j]? = some (.int .i64 n) := by
  intro j n hj
  obtain ⟨b', o', cs', hA', hK', hc'⟩ := Cat_ hC hj (by decide)
  injection hA' with e
  injection e with e1 e2
  subst e1 e2
  obtain rfl : cs' = [.int .i64 n] := hK'
  have := hc' 0 _ rfl
  rw [show (Kd.int .i64).sz = 1 from rfl, Nat.mul_one, Nat.add_zero, Nat.zero_add] at this
  exact (blk_cell hb j).symm.trans this
 exact ⟨g, cp, cells, rfl, hb, hx 0 _ rfl, hx 1 _ rfl, hx 2 _ rfl, hx 3 _ rfl, hx 4 _ rfl⟩
theorem map4_2 : cloisterref26_map4.f wTick = some 2 := by unfold cloisterref26_map4.f; simp (decide := true) only [tsl, if_true, if_false]
theorem map4_3 : cloisterref26_map4.f wVacuum = some 3 := by unfold cloisterref26_map4.f; simp (decide := true) only [tsl, if_true, if_false]
theorem map4_4 : cloisterref26_map4.f wCheckpoint = some 4 := by unfold cloisterref26_map4.f; simp (decide := true) only [tsl, if_true, if_false]
theorem map4_5 : cloisterref26_map4.f wIdle = some 5 := by unfold cloisterref26_map4.f; simp (decide := true) only [tsl, if_true, if_false]
theorem none_C {w : World} {A : Option Addr} (l : List ByteArray) (h : l.length ≤ 0) : Kd.string.C w A l.length l := by
 have : l = [] := List.length_eq_zero_iff.1 (by omega)
 subst this
 exact ⟨rfl, by simp, fun h => absurd h (by simp)⟩
theorem rstrikes_c (l : List ByteArray) (hl : ∀ x ∈ l, x.size ≤ 65536) (hn : l.length ≤ 1000000) (A : Option Addr) (c : Nat) (w : World) (hC : Kd.C Kd.string w A l.length l) (hc : l.length ≤ c) :
 Calls Tryz.prog 48 #[.slice A l.length c] w fun e w' => (∃ v, e = .returned (.tuple #[v, .bool (strikesOf l).isSome]) ∧ Kd.R (Kd.slice 66 k66) 64 w' w.heap.size TT_ v ((strikesOf l).getD [])) ∧ Below w.heap.size w w' := by
 have h := rstrikes_f 65536 (by decide) l hl hn (2 * 65536 + 7 + l.length) (Nat.le_refl _)
 cases hx : strikesOf l with
 | some ns =>
  rw [hx] at h
  refine (cloisterref26_Strikes.calls _ A c l _ _ w hC hc h).mono ?_
  rintro e w' ⟨v, rfl, hr, hb⟩
  exact ⟨⟨v, rfl, Kd.S_R hr⟩, hb⟩
 | none =>
  rw [hx] at h
  refine (cloisterref26_Strikes.calls _ A c l _ _ w hC hc h).mono ?_
  rintro e w' ⟨v, rfl, hr, hb⟩
  exact ⟨⟨v, rfl, Kd.S_R hr⟩, hb⟩
structure ES (w0 w : World) (c : Array Value) : Prop where
 eb : w.heap[w0.heap.size]? = some (.cells c 52 (0, 0))
 b : Below w0.heap.size w0 w
theorem ES.new (w0 : World) : ES w0 (w0.alloc (.cells Z52 52)) Z52 := ⟨wld.alloc_same _ _, b1_ (Below.refl _ _) _⟩
section
variable {w0 w w1 : World} {c : Array Value}
theorem ES.below (h : ES w0 w c) (hb : Below w.heap.size w w1) : ES w0 w1 c := ⟨(hb.block _ (blk_lt h.eb)).trans h.eb, below_step h.b hb⟩
theorem ES.row (h : ES w0 w c) (c1 : Array Value) : ES w0 (w.setRow w0.heap.size c1) c1 := ⟨row_at c1 h.eb, row_below h.b (Nat.le_refl _) c1⟩
theorem ES.put (h : ES w0 w c) (j : Nat) (u : Value) {c' : Array Value} (e : c.toList.set j u = c'.toList) : ES w0 (w.setCell ⟨w0.heap.size, j, none⟩ u) c' := by
 have hc : c.setIfInBounds j u = c' := Array.toList_inj.1 (by rw [Array.toList_setIfInBounds]; exact e)
 subst hc
 exact ⟨blk_set h.eb j u, h.b.setCell (p := ⟨w0.heap.size, j, none⟩) (Nat.le_refl _) u⟩
theorem VR.row {base : Nat} {p : O52} (h : VR w base p) (hg : ES w0 w c) (c1 : Array Value) : VR (w.setRow w0.heap.size c1) base p :=
 h.move (fun k cells fz hc => row_far _ _ _ _ (by rintro rfl; rw [hg.eb] at hc; cases hc))
end
def MR (W wc : World) (cb : Nat) (vl s8 s15 : Value) (L : List ByteArray) (res : Int × Option Stt) : Prop :=
 ∃ a b c s', PM W wc cb vl a b c s8 L s' ∧ s15 = .bool res.2.isSome ∧ ∀ s2, res.2 = some s2 → s' = s2
def pl : Code → Code
 | .seq a _ => a
 | .block _ c => c
 | .loop c => c
 | .cond _ a _ => a
 | c => c
def pr : Code → Code
 | .seq _ b => b
 | .cond _ _ b => b
 | c => c
noncomputable def swC : Code := (pl (pr (pr (pr (pr (pr (pr (pl (pl (pr (pr (pl (pl (pr (pl (pr (pr (pr (pr (pr (Tryz.f23.body.getD .skip)))))))))))))))))))))
structure CN (s : Stt) (k : Nat) : Prop where
 cnt : cntS s ≤ k
theorem cnt_le (s : Stt) : s.1.length ≤ cntS s ∧ s.2.1.length ≤ cntS s ∧ s.2.2.1.length ≤ cntS s ∧ s.2.2.2.length ≤ cntS s := by unfold cntS; omega
def SwQ (t : ByteArray) (w W w1 : World) (g o c_ : Nat) (L : List ByteArray) (k : Nat) (x : ByteArray) (g2 c2 : Nat) (h : ByteArray) (tl : List ByteArray) (n : Int) (more : Bool) (s : Stt) (u3 u4 u5 : Value) : Exit → Act → World → Prop := fun e a' w' => e = .normal ∧ ∃ u8 u15 u16 u17 u18 u19 u20 u36 u37 u38 u39 u40 u41 u42 u43 u44 u45 u46 u47 u48 u49 u50 u51 u52 u53 u54 u55 u56 u57 u58 u59 u60 u61 u62 u63 u64 u65 u66 u67 u68 u69 u70 u71 u72 u73 u74 u75 u76 u77 u78 u79 u80 u81 u82 u83 u84 u85 u86 u87 u88 u89 u90 u91 u92 u93 u94 u95 u96 u97 u98 u99 u100 u101 u102 u103 u104 u105 u106 u107 u108 u109 u110 u111 u112 u113 u114 u115 u116 u117 u118 u119 u120 u121 u122 u123 u124 u125 u126 u127 u128 u129 u130 u131 u132 u133 u134 u135 u136 u137 u138 u139 u140 u141 u142 u143 u144 u145 u146 u147 u148 u149 u150 u151 u152 u153 u154 u155 u156 u157 u158 u159 u160 u161 u162 u163 u164 u165 u166 u167 u168 u169 u170 u171 u172 u173 u174 u175 u176 u177 u178 u179 u180 u181 u182 u183 u184 u185,
 MR W w' w1.heap.size (.slice (some ⟨g, o, none⟩) L.length c_) u8 u15 L (lineOf (h :: tl) s) ∧ a' = ({ tmps := #[.string t, undef, .pointer (some ⟨w.heap.size, 0, none⟩), u3, u4, u5, .slice (some ⟨g, o, none⟩) L.length c_, .pointer (some ⟨w1.heap.size, 0, none⟩), u8, .int .i64 (k : Int), .string x, .slice (some ⟨g2, 0, none⟩) (tl.length + 1) c2, .int .i64 (n + 1), .bool more, .bool true, u15, u16, u17, u18, u19, u20, .string t, .slice (some ⟨g, o, none⟩) L.length c_, .string t, .int .i64 (t.size : Int), .bool (decide ((65536 : Int) < (t.size : Int))), .bool (decide ((65536 : Int) < (t.size : Int))), .slice (some ⟨g, o, none⟩) L.length c_, .int .i64 (L.length : Int), .bool (decide ((4096 : Int) < (L.length : Int))), .bool (decide ((65536 : Int) < (t.size : Int)) || decide ((4096 : Int) < (L.length : Int))), undef, .slice (some ⟨g, o, none⟩) L.length c_, .int .i64 (L.length : Int), .int .i64 (k : Int), .bool true, u36, u37, u38, u39, u40, u41, u42, u43, u44, u45, u46, u47, u48, u49, u50, u51, u52, u53, u54, u55, u56, u57, u58, u59, u60, u61, u62, u63, u64, u65, u66, u67, u68, u69, u70, u71, u72, u73, u74, u75, u76, u77, u78, u79, u80, u81, u82, u83, u84, u85, u86, u87, u88, u89, u90, u91, u92, u93, u94, u95, u96, u97, u98, u99, u100, u101, u102, u103, u104, u105, u106, u107, u108, u109, u110, u111, u112, u113, u114, u115, u116, u117, u118, u119, u120, u121, u122, u123, u124, u125, u126, u127, u128, u129, u130, u131, u132, u133, u134, u135, u136, u137, u138, u139, u140, u141, u142, u143, u144, u145, u146, u147, u148, u149, u150, u151, u152, u153, u154, u155, u156, u157, u158, u159, u160, u161, u162, u163, u164, u165, u166, u167, u168, u169, u170, u171, u172, u173, u174, u175, u176, u177, u178, u179, u180, u181, u182, u183, u184, u185, undef, undef], defers := [] } : Act)
theorem sw_label (t : ByteArray) (w W w1 : World) (g o c_ : Nat) (L : List ByteArray) (k : Nat) (x : ByteArray) (g2 c2 : Nat) (h : ByteArray) (tl : List ByteArray) (n : Int) (more : Bool) (s : Stt) (u3 u4 u5 u16 u17 u18 u19 u20 u36 u37 u38 u39 u40 u41 u42 u43 u44 u45 u46 u47 u48 u49 u50 u51 u52 u53 u54 u55 u56 u57 u58 u59 u60 u61 u62 u63 u64 u65 u66 u67 u68 u69 u70 u71 u72 u73 u74 u75 u76 u77 u78 u79 u80 u81 u82 u83 u84 u85 u86 u87 u88 u89 u90 u91 u92 u93 u94 u95 u96 u97 u98 u99 u100 u101 u102 u103 u104 u105 u106 u107 u108 u109 u110 u111 u112 u113 u114 u115 u116 u117 u118 u119 u120 u121 u122 u123 u124 u125 u126 u127 u128 u129 u130 u131 u132 u133 u134 u135 u136 u137 u138 u139 u140 u141 u142 u143 u144 u145 u146 u147 u148 u149 u150 u151 u152 u153 u154 u155 u156 u157 u158 u159 u160 u161 u162 u163 u164 u165 u166 u167 u168 u169 u170 u171 u172 u173 u174 u175 u176 u177 u178 u179 u180 u181 u182 u183 u184 u185 : Value) (v0 v1 v2 v3 : Value) (rd : Rd) (w2 w3 : World)
 (HWE : Aside0 (sc.Env W)) (HP : Aside0 (CN s k)) (HLEN : Aside0 ((h :: tl).length ≤ 65536))
 (HCW : Aside0 (∀ (W' : World), Below w2.heap.size w2 W' → ∀ (j : Nat) (y_ : ByteArray), (h :: tl)[j]? = some y_ → W'.cell? ⟨g2, j, none⟩ = some (.string y_)))
 (HCC2 : Aside0 ((h :: tl).length ≤ c2)) (HK4 : Aside0 (k < 4096)) (HYS : Aside0 (∀ y ∈ h :: tl, y.size ≤ 65536))
 (hl2 : (tl.length : Int) > n → more = true) (HLO : Aside0 (lineOf (h :: tl) s = match rd tl s with | none => (261, none) | some s' => (0, some s'))) (HSEL : Aside0 (selOf (h :: tl) = some (n, more, rd))) (hl1 : n ≤ (tl.length : Int))
 (HPM : Aside0 (PM W w3 w1.heap.size (.slice (some ⟨g, o, none⟩) L.length c_) v0 v1 v2 v3 L s)) (HB3 : Aside0 (Below w2.heap.size w2 w3))
 (hh : h = wLabel) (hn0 : n = 1) (hm0 : more = false) (hr0 : rd = rdLabel) :
 Code.wp Tryz.prog swC (SwQ t w W w1 g o c_ L k x g2 c2 h tl n more s u3 u4 u5) ({ tmps := #[.string t, undef, .pointer (some ⟨w.heap.size, 0, none⟩), u3, u4, u5, .slice (some ⟨g, o, none⟩) L.length c_, .pointer (some ⟨w1.heap.size, 0, none⟩), v3, .int .i64 (k : Int), .string x, .slice (some ⟨g2, 0, none⟩) (tl.length + 1) c2, .int .i64 (n + 1), .bool more, .bool true, .bool true, u16, u17, u18, u19, u20, .string t, .slice (some ⟨g, o, none⟩) L.length c_, .string t, .int .i64 (t.size : Int), .bool (decide ((65536 : Int) < (t.size : Int))), .bool (decide ((65536 : Int) < (t.size : Int))), .slice (some ⟨g, o, none⟩) L.length c_, .int .i64 (L.length : Int), .bool (decide ((4096 : Int) < (L.length : Int))), .bool (decide ((65536 : Int) < (t.size : Int)) || decide ((4096 : Int) < (L.length : Int))), undef, .slice (some ⟨g, o, none⟩) L.length c_, .int .i64 (L.length : Int), .int .i64 (k : Int), .bool true, u36, u37, u38, u39, u40, u41, u42, u43, u44, u45, u46, u47, u48, u49, u50, u51, u52, u53, u54, u55, u56, u57, u58, u59, u60, u61, u62, u63, u64, u65, u66, u67, u68, u69, u70, u71, u72, u73, .bool false, u75, u76, u77, u78, u79, u80, u81, u82, u83, u84, u85, u86, u87, u88, u89, u90, u91, u92, u93, u94, u95, u96, u97, u98, u99, u100, u101, u102, u103, u104, u105, u106, u107, u108, u109, u110, u111, u112, u113, u114, u115, u116, u117, u118, u119, u120, u121, u122, u123, u124, u125, u126, u127, u128, u129, u130, u131, u132, u133, u134, u135, u136, u137, u138, u139, u140, u141, u142, u143, u144, u145, u146, u147, u148, u149, u150, u151, u152, u153, u154, u155, u156, u157, u158, u159, u160, u161, u162, u163, u164, u165, u166, u167, u168, u169, u170, u171, u172, u173, u174, u175, u176, u177, u178, u179, u180, u181, u182, u183, u184, u185, undef, undef], defers := [] } : Act) w3 := by
 subst hh hn0 hm0 hr0
 have hch := HCW.out w3 HB3.out 0 _ rfl
 dsimp only [swC, pl, pr, Tryz.f23, Option.getD]
 obtain ⟨x1, rfl⟩ := len1 tl (by have hne : ¬ ((tl.length : Int) > 1) := fun e => Bool.false_ne_true (hl2 e); omega)
 clear hl1 hl2 HSEL
 have hc1 := HCW.out w3 HB3.out 1 x1 rfl
 go_wp2_with fail
 clear hc1 hch
 refine (rlab_c x1 (HYS.out x1 (by simp)) w3).mono ?_
 rintro e w4 ⟨rfl, hb4⟩
 replace HPM := am_ (HPM.out.below hb4)
 clear hb4
 have HCL := am_ (show (s.1.length + 1) * 8 ≤ 140737488355328 from by have := (cnt_le s).1; have := HP.out.cnt; have := HK4.out; omega)
 have c0 := wld.cell_of (o := 0) (v := v0) HPM.out.cbk rfl
 go_upto_region 39 with (at_builtin; refine Kd.R_append (Kd.int .u64) (w0 := W) W.heap.size rfl (.tmp 119) (.tmp 121) 22 68 (.int .u64 0) 8 rfl Tryz.underlying22 info68 rfl (by decide) (by omega) v0 s.1 (refLab x1.data.toList).1 [.int .u64 (refLab x1.data.toList).1] TT_ (fun _ => False) rfl rfl ?aP (fun _ hk => hk.elim) ?aF ?aO ?aB ?aS ?aL ?_; (case aP => exact rfl); (case aF => exact (fun _ _ => trivial)); (case aO => exact HPM.out.rows.r0); (case aB => exact HPM.out.bW); (case aS => exact HPM.out.bW.size); (case aL => exact HCL.out); intro v9 w9 ho hb hg hat; obtain ⟨A9, n9, c9, rfl⟩ := R_sliceM ho; have hc9 := grown_blk HPM.out.cbk (R_typ HPM.out.rows.r0) (by decide) hg; have q9 := wld.cell_of (o := 0) (v := v0) hc9 rfl; have f9 := blk_frozen hc9 0; replace HPM := am_ (HPM.out.put0 HWE.out ho hb hg); clear ho hb hg hat hc9 c0)
 clear q9 f9
 generalize World.setCell w9 _ _ = w10 at HPM ⊢
 cases hlb : sc.labelOf x1 with
 | none =>
  have hlo2 : rdLabel [x1] s = none := by simp [rdLabel, hlb]
  have HRE := am_ (show _ = ((261 : Int), (none : Option Stt)) from HLO.out.trans (by rw [hlo2]))
  have hsm : (none : Option Nat).isSome = false := rfl
  clear hlb hlo2
  go_wp2_with fail
  (try simp only [Exit.inBlock, Exit.then])
  refine ⟨rfl, ?_⟩
  (repeat apply Exists.intro)
  refine ⟨?rel, rfl⟩
  case rel => exact ⟨_, _, _, _, HPM.out, by rw [HRE.out]; rfl, fun s2 h => by rw [HRE.out] at h; cases h⟩
 | some nn =>
  have hlo2 : rdLabel [x1] s = some (s.1 ++ [(nn : Int)], s.2.1, s.2.2.1, s.2.2.2) := by simp [rdLabel, hlb]
  have hsm : (some nn).isSome = true := rfl
  rw [(refLab_eq x1).2 nn hlb] at HPM
  clear hlb
  have HRE := am_ (show lineOf (wLabel :: [x1]) s = (0, some (s.1 ++ [(nn : Int)], s.2.1, s.2.2.1, s.2.2.2)) by rw [HLO.out, hlo2])
  go_wp2_with fail
  (try simp only [Exit.inBlock, Exit.then])
  refine ⟨rfl, ?_⟩
  (repeat apply Exists.intro)
  refine ⟨?rel, rfl⟩
  case rel => exact ⟨_, _, _, _, HPM.out, by rw [HRE.out]; rfl, fun s2 h => by rw [HRE.out] at h; exact Option.some.inj h⟩
theorem sw_session (t : ByteArray) (w W w1 : World) (g o c_ : Nat) (L : List ByteArray) (k : Nat) (x : ByteArray) (g2 c2 : Nat) (h : ByteArray) (tl : List ByteArray) (n : Int) (more : Bool) (s : Stt) (u3 u4 u5 u16 u17 u18 u19 u20 u36 u37 u38 u39 u40 u41 u42 u43 u44 u45 u46 u47 u48 u49 u50 u51 u52 u53 u54 u55 u56 u57 u58 u59 u60 u61 u62 u63 u64 u65 u66 u67 u68 u69 u70 u71 u72 u73 u74 u75 u76 u77 u78 u79 u80 u81 u82 u83 u84 u85 u86 u87 u88 u89 u90 u91 u92 u93 u94 u95 u96 u97 u98 u99 u100 u101 u102 u103 u104 u105 u106 u107 u108 u109 u110 u111 u112 u113 u114 u115 u116 u117 u118 u119 u120 u121 u122 u123 u124 u125 u126 u127 u128 u129 u130 u131 u132 u133 u134 u135 u136 u137 u138 u139 u140 u141 u142 u143 u144 u145 u146 u147 u148 u149 u150 u151 u152 u153 u154 u155 u156 u157 u158 u159 u160 u161 u162 u163 u164 u165 u166 u167 u168 u169 u170 u171 u172 u173 u174 u175 u176 u177 u178 u179 u180 u181 u182 u183 u184 u185 : Value) (v0 v1 v2 v3 : Value) (rd : Rd) (w2 w3 : World)
 (HWE : Aside0 (sc.Env W)) (HP : Aside0 (CN s k)) (HLEN : Aside0 ((h :: tl).length ≤ 65536))
 (HCW : Aside0 (∀ (W' : World), Below w2.heap.size w2 W' → ∀ (j : Nat) (y_ : ByteArray), (h :: tl)[j]? = some y_ → W'.cell? ⟨g2, j, none⟩ = some (.string y_)))
 (HCC2 : Aside0 ((h :: tl).length ≤ c2)) (HK4 : Aside0 (k < 4096)) (HYS : Aside0 (∀ y ∈ h :: tl, y.size ≤ 65536))
 (hl2 : (tl.length : Int) > n → more = true) (HLO : Aside0 (lineOf (h :: tl) s = match rd tl s with | none => (261, none) | some s' => (0, some s'))) (HSEL : Aside0 (selOf (h :: tl) = some (n, more, rd))) (hl1 : n ≤ (tl.length : Int))
 (HPM : Aside0 (PM W w3 w1.heap.size (.slice (some ⟨g, o, none⟩) L.length c_) v0 v1 v2 v3 L s)) (HB3 : Aside0 (Below w2.heap.size w2 w3))
 (hh : h = wSession) (hn0 : n = 1) (hm0 : more = false) (hr0 : rd = rdSession) :
 Code.wp Tryz.prog swC (SwQ t w W w1 g o c_ L k x g2 c2 h tl n more s u3 u4 u5) ({ tmps := #[.string t, undef, .pointer (some ⟨w.heap.size, 0, none⟩), u3, u4, u5, .slice (some ⟨g, o, none⟩) L.length c_, .pointer (some ⟨w1.heap.size, 0, none⟩), v3, .int .i64 (k : Int), .string x, .slice (some ⟨g2, 0, none⟩) (tl.length + 1) c2, .int .i64 (n + 1), .bool more, .bool true, .bool true, u16, u17, u18, u19, u20, .string t, .slice (some ⟨g, o, none⟩) L.length c_, .string t, .int .i64 (t.size : Int), .bool (decide ((65536 : Int) < (t.size : Int))), .bool (decide ((65536 : Int) < (t.size : Int))), .slice (some ⟨g, o, none⟩) L.length c_, .int .i64 (L.length : Int), .bool (decide ((4096 : Int) < (L.length : Int))), .bool (decide ((65536 : Int) < (t.size : Int)) || decide ((4096 : Int) < (L.length : Int))), undef, .slice (some ⟨g, o, none⟩) L.length c_, .int .i64 (L.length : Int), .int .i64 (k : Int), .bool true, u36, u37, u38, u39, u40, u41, u42, u43, u44, u45, u46, u47, u48, u49, u50, u51, u52, u53, u54, u55, u56, u57, u58, u59, u60, u61, u62, u63, u64, u65, u66, u67, u68, u69, u70, u71, u72, u73, .bool false, u75, u76, u77, u78, u79, u80, u81, u82, u83, u84, u85, u86, u87, u88, u89, u90, u91, u92, u93, u94, u95, u96, u97, u98, u99, u100, u101, u102, u103, u104, u105, u106, u107, u108, u109, u110, u111, u112, u113, u114, u115, u116, u117, u118, u119, u120, u121, u122, u123, u124, u125, u126, u127, u128, u129, u130, u131, u132, u133, u134, u135, u136, u137, u138, u139, u140, u141, u142, u143, u144, u145, u146, u147, u148, u149, u150, u151, u152, u153, u154, u155, u156, u157, u158, u159, u160, u161, u162, u163, u164, u165, u166, u167, u168, u169, u170, u171, u172, u173, u174, u175, u176, u177, u178, u179, u180, u181, u182, u183, u184, u185, undef, undef], defers := [] } : Act) w3 := by
 subst hh hn0 hm0 hr0
 have hch := HCW.out w3 HB3.out 0 _ rfl
 dsimp only [swC, pl, pr, Tryz.f23, Option.getD]
 obtain ⟨x1, rfl⟩ := len1 tl (by have hne : ¬ ((tl.length : Int) > 1) := fun e => Bool.false_ne_true (hl2 e); omega)
 clear hl1 hl2 HSEL
 have hc1 := HCW.out w3 HB3.out 1 x1 rfl
 go_wp2_with fail
 clear hc1 hch
 refine (rnum_c x1 (HYS.out x1 (by simp)) w3).mono ?_
 rintro e w4 ⟨rfl, hb4⟩
 replace HPM := am_ (HPM.out.below hb4)
 clear hb4
 have HCL := am_ (show (s.2.2.1.length + 1) * 8 ≤ 140737488355328 from by have := (cnt_le s).2.2.1; have := HP.out.cnt; have := HK4.out; omega)
 have c0 := wld.cell_of (o := 2) (v := v2) HPM.out.cbk rfl
 go_upto_region 39 with (at_builtin; refine Kd.R_append (Kd.int .i64) (w0 := W) W.heap.size rfl (.tmp 164) (.tmp 166) 24 3 (.int .i64 0) 8 rfl Tryz.underlying24 info3 rfl (by decide) (by omega) v2 s.2.2.1 (refNum x1.data.toList).1 [.int .i64 (refNum x1.data.toList).1] TT_ (fun _ => False) rfl rfl ?aP (fun _ hk => hk.elim) ?aF ?aO ?aB ?aS ?aL ?_; (case aP => exact rfl); (case aF => exact (fun _ _ => trivial)); (case aO => exact HPM.out.rows.r2); (case aB => exact HPM.out.bW); (case aS => exact HPM.out.bW.size); (case aL => exact HCL.out); intro v9 w9 ho hb hg hat; obtain ⟨A9, n9, c9, rfl⟩ := R_sliceM ho; have hc9 := grown_blk HPM.out.cbk (R_typ HPM.out.rows.r2) (by decide) hg; have q9 := wld.cell_of (o := 2) (v := v2) hc9 rfl; have f9 := blk_frozen hc9 2; replace HPM := am_ (HPM.out.put2 HWE.out ho hb hg); clear ho hb hg hat hc9 c0)
 clear q9 f9
 generalize World.setCell w9 _ _ = w10 at HPM ⊢
 cases hlb : sc.numOf x1 with
 | none =>
  have hlo2 : rdSession [x1] s = none := by simp [rdSession, hlb]
  have HRE := am_ (show _ = ((261 : Int), (none : Option Stt)) from HLO.out.trans (by rw [hlo2]))
  have hsm : (none : Option Int).isSome = false := rfl
  clear hlb hlo2
  go_wp2_with fail
  (try simp only [Exit.inBlock, Exit.then])
  refine ⟨rfl, ?_⟩
  (repeat apply Exists.intro)
  refine ⟨?rel, rfl⟩
  case rel => exact ⟨_, _, _, _, HPM.out, by rw [HRE.out]; rfl, fun s2 h => by rw [HRE.out] at h; cases h⟩
 | some nn =>
  have hlo2 : rdSession [x1] s = some (s.1, s.2.1, s.2.2.1 ++ [nn], s.2.2.2) := by simp [rdSession, hlb]
  have hsm : (some nn).isSome = true := rfl
  rw [(refNum_eq x1).2 nn hlb] at HPM
  clear hlb
  have HRE := am_ (show lineOf (wSession :: [x1]) s = (0, some (s.1, s.2.1, s.2.2.1 ++ [nn], s.2.2.2)) by rw [HLO.out, hlo2])
  go_wp2_with fail
  (try simp only [Exit.inBlock, Exit.then])
  refine ⟨rfl, ?_⟩
  (repeat apply Exists.intro)
  refine ⟨?rel, rfl⟩
  case rel => exact ⟨_, _, _, _, HPM.out, by rw [HRE.out]; rfl, fun s2 h => by rw [HRE.out] at h; exact Option.some.inj h⟩
theorem sw_account (t : ByteArray) (w W w1 : World) (g o c_ : Nat) (L : List ByteArray) (k : Nat) (x : ByteArray) (g2 c2 : Nat) (h : ByteArray) (tl : List ByteArray) (n : Int) (more : Bool) (s : Stt) (u3 u4 u5 u16 u17 u18 u19 u20 u36 u37 u38 u39 u40 u41 u42 u43 u44 u45 u46 u47 u48 u49 u50 u51 u52 u53 u54 u55 u56 u57 u58 u59 u60 u61 u62 u63 u64 u65 u66 u67 u68 u69 u70 u71 u72 u73 u74 u75 u76 u77 u78 u79 u80 u81 u82 u83 u84 u85 u86 u87 u88 u89 u90 u91 u92 u93 u94 u95 u96 u97 u98 u99 u100 u101 u102 u103 u104 u105 u106 u107 u108 u109 u110 u111 u112 u113 u114 u115 u116 u117 u118 u119 u120 u121 u122 u123 u124 u125 u126 u127 u128 u129 u130 u131 u132 u133 u134 u135 u136 u137 u138 u139 u140 u141 u142 u143 u144 u145 u146 u147 u148 u149 u150 u151 u152 u153 u154 u155 u156 u157 u158 u159 u160 u161 u162 u163 u164 u165 u166 u167 u168 u169 u170 u171 u172 u173 u174 u175 u176 u177 u178 u179 u180 u181 u182 u183 u184 u185 : Value) (v0 v1 v2 v3 : Value) (rd : Rd) (w2 w3 : World)
 (HWE : Aside0 (sc.Env W)) (HP : Aside0 (CN s k)) (HLEN : Aside0 ((h :: tl).length ≤ 65536))
 (HCW : Aside0 (∀ (W' : World), Below w2.heap.size w2 W' → ∀ (j : Nat) (y_ : ByteArray), (h :: tl)[j]? = some y_ → W'.cell? ⟨g2, j, none⟩ = some (.string y_)))
 (HCC2 : Aside0 ((h :: tl).length ≤ c2)) (HK4 : Aside0 (k < 4096)) (HYS : Aside0 (∀ y ∈ h :: tl, y.size ≤ 65536))
 (hl2 : (tl.length : Int) > n → more = true) (HLO : Aside0 (lineOf (h :: tl) s = match rd tl s with | none => (261, none) | some s' => (0, some s'))) (HSEL : Aside0 (selOf (h :: tl) = some (n, more, rd))) (hl1 : n ≤ (tl.length : Int))
 (HPM : Aside0 (PM W w3 w1.heap.size (.slice (some ⟨g, o, none⟩) L.length c_) v0 v1 v2 v3 L s)) (HB3 : Aside0 (Below w2.heap.size w2 w3))
 (hh : h = wAccount) (hn0 : n = 5) (hm0 : more = false) (hr0 : rd = rdAccount) :
 Code.wp Tryz.prog swC (SwQ t w W w1 g o c_ L k x g2 c2 h tl n more s u3 u4 u5) ({ tmps := #[.string t, undef, .pointer (some ⟨w.heap.size, 0, none⟩), u3, u4, u5, .slice (some ⟨g, o, none⟩) L.length c_, .pointer (some ⟨w1.heap.size, 0, none⟩), v3, .int .i64 (k : Int), .string x, .slice (some ⟨g2, 0, none⟩) (tl.length + 1) c2, .int .i64 (n + 1), .bool more, .bool true, .bool true, u16, u17, u18, u19, u20, .string t, .slice (some ⟨g, o, none⟩) L.length c_, .string t, .int .i64 (t.size : Int), .bool (decide ((65536 : Int) < (t.size : Int))), .bool (decide ((65536 : Int) < (t.size : Int))), .slice (some ⟨g, o, none⟩) L.length c_, .int .i64 (L.length : Int), .bool (decide ((4096 : Int) < (L.length : Int))), .bool (decide ((65536 : Int) < (t.size : Int)) || decide ((4096 : Int) < (L.length : Int))), undef, .slice (some ⟨g, o, none⟩) L.length c_, .int .i64 (L.length : Int), .int .i64 (k : Int), .bool true, u36, u37, u38, u39, u40, u41, u42, u43, u44, u45, u46, u47, u48, u49, u50, u51, u52, u53, u54, u55, u56, u57, u58, u59, u60, u61, u62, u63, u64, u65, u66, u67, u68, u69, u70, u71, u72, u73, .bool false, u75, u76, u77, u78, u79, u80, u81, u82, u83, u84, u85, u86, u87, u88, u89, u90, u91, u92, u93, u94, u95, u96, u97, u98, u99, u100, u101, u102, u103, u104, u105, u106, u107, u108, u109, u110, u111, u112, u113, u114, u115, u116, u117, u118, u119, u120, u121, u122, u123, u124, u125, u126, u127, u128, u129, u130, u131, u132, u133, u134, u135, u136, u137, u138, u139, u140, u141, u142, u143, u144, u145, u146, u147, u148, u149, u150, u151, u152, u153, u154, u155, u156, u157, u158, u159, u160, u161, u162, u163, u164, u165, u166, u167, u168, u169, u170, u171, u172, u173, u174, u175, u176, u177, u178, u179, u180, u181, u182, u183, u184, u185, undef, undef], defers := [] } : Act) w3 := by
 subst hh hn0 hm0 hr0
 have hch := HCW.out w3 HB3.out 0 _ rfl
 dsimp only [swC, pl, pr, Tryz.f23, Option.getD]
 obtain ⟨x1, x2, x3, x4, x5, rfl⟩ := len5 tl (by have hne : ¬ ((tl.length : Int) > 5) := fun e => Bool.false_ne_true (hl2 e); omega)
 clear hl1 hl2 HSEL
 have hcc : [wAccount, x1, x2, x3, x4, x5].length ≤ c2 := HCC2.out
 have hcc6 : 6 ≤ c2 := hcc
 clear hcc
 go_wp2_with fail
 clear hch
 have hC := part_C (HCW.out _ HB3.out) (by simp) 1 [x1, x2, x3, x4, x5] (by intro j p_ hj; rw [Nat.add_comm]; exact hj) (by simp)
 refine (rnums_c [x1, x2, x3, x4, x5] (by intro y hy; exact HYS.out y (List.mem_cons_of_mem _ hy)) (by simp) (some ⟨g2, 1, none⟩) (c2 - 1) w3 hC (by simp; omega)).mono ?_
 clear hC hcc6
 rintro e w4 ⟨he, hb4⟩
 rw [nums5] at he
 replace HPM := am_ (HPM.out.below hb4)
 have HW3 := am_ (Nat.le_trans HPM.out.bW.size (Nat.le_refl _))
 clear hb4 HW3
 cases hac : accOf x1 x2 x3 x4 x5 with
 | none =>
  rw [hac] at he
  obtain ⟨v, rfl, hr⟩ := he
  obtain ⟨An, nn, cn, rfl⟩ := R_sliceM hr
  have hlo2 : rdAccount [x1, x2, x3, x4, x5] s = none := by simp [rdAccount, hac]
  have HRE := am_ (show _ = ((261 : Int), (none : Option Stt)) from HLO.out.trans (by rw [hlo2]))
  clear hac hlo2 hr
  go_wp2_with fail
  (try simp only [Exit.inBlock, Exit.then])
  refine ⟨rfl, ?_⟩
  (repeat apply Exists.intro)
  refine ⟨?rel, rfl⟩
  case rel => exact ⟨_, _, _, _, HPM.out, by rw [HRE.out]; rfl, fun s2 h => by rw [HRE.out] at h; cases h⟩
 | some acc =>
  rw [hac] at he
  obtain ⟨v, rfl, hr⟩ := he
  obtain ⟨y0, y1, y2, y3, y4⟩ := acc
  obtain ⟨gn, cn, gcs, rfl, hG, hy0, hy1, hy2, hy3, hy4⟩ := five_cells hr
  have HG := am_ hG
  have HY0 := am_ hy0
  have HY1 := am_ hy1
  have HY2 := am_ hy2
  have HY3 := am_ hy3
  have HY4 := am_ hy4
  have hlo2 : rdAccount [x1, x2, x3, x4, x5] s = some (s.1, s.2.1 ++ [⟨y0, y1, y2, y3, y4⟩], s.2.2.1, s.2.2.2) := by simp [rdAccount, hac]
  have HLO3 := am_ hlo2
  clear hac hr hG hlo2 hy0 hy1 hy2 hy3 hy4
  have HNE := am_ (show some gn ≠ v1.ownBlock from fun e => by
   obtain ⟨cells, hc⟩ := R_typ HPM.out.rows.r1 _ e.symm
   rw [HG.out] at hc
   cases hc)
  have HCL := am_ (show (s.2.1.length + 1) * 40 ≤ 140737488355328 from by have := (cnt_le s).2.1; have := HP.out.cnt; have := HK4.out; omega)
  go_upto_region 30 with (fail)
  refine start_ (n := 22) (S := fun w' => w'.cell? ⟨w1.heap.size, 1, none⟩ = some v1 ∧ w'.cell? ⟨gn, 0, none⟩ = some (.int .i64 y0) ∧ w'.cell? ⟨gn, 1, none⟩ = some (.int .i64 y1) ∧ w'.cell? ⟨gn, 2, none⟩ = some (.int .i64 y2) ∧ w'.cell? ⟨gn, 3, none⟩ = some (.int .i64 y3) ∧ w'.cell? ⟨gn, 4, none⟩ = some (.int .i64 y4)) (ds := [21]) (bs_ 22 0) (by kernel_rfl) rfl rfl ⟨(blk_cell HPM.out.cbk 1).trans rfl, (blk_cell HG.out 0).trans HY0.out, (blk_cell HG.out 1).trans HY1.out, (blk_cell HG.out 2).trans HY2.out, (blk_cell HG.out 3).trans HY3.out, (blk_cell HG.out 4).trans HY4.out⟩ (fun hHeld => ?_)
  replace HPM := am_ HPM.out.drew; replace HG := am_ (d2_ HG.out); generalize w4.drew = w5 at HPM HG hHeld ⊢
  refine pure_ (i := 0) (N := some 133) (v := ?_) (a' := ?_) (bs_ 22 1) rfl rfl (by kernel_rfl) (fun _ _ _ h => by cases (And.left h)) (Or.inl ⟨by rfl, ?_⟩) ?_ ?_
  rotate_left
  · intro w'
    go_simp
    with_reducible rfl
  rotate_left
  · simp only [Act.put, aS, aZ, aC, i64_w, i32_w]
    rfl
  refine pure_ (i := 2) (N := some 135) (v := ?_) (a' := ?_) (bs_ 22 5) rfl rfl (by kernel_rfl) (fun _ _ _ h => by cases (And.left h)) (Or.inl ⟨by rfl, ?_⟩) ?_ ?_
  rotate_left
  · intro w'
    go_simp
    with_reducible rfl
  rotate_left
  · simp only [Act.put, aS, aZ, aC, i64_w, i32_w]
    rfl
  refine pure_ (i := 3) (N := some 136) (v := ?_) (a' := ?_) (bs_ 22 13) rfl rfl (by kernel_rfl) (fun _ _ _ h => by cases (And.left h)) (Or.inl ⟨by rfl, ?_⟩) ?_ ?_
  rotate_left
  · intro w'
    go_simp
    with_reducible rfl
  rotate_left
  · simp only [Act.put, aS, aZ, aC, i64_w, i32_w]
    rfl
  refine pure_ (i := 5) (N := some 138) (v := ?_) (a' := ?_) (bs_ 22 45) rfl rfl (by kernel_rfl) (fun _ _ _ h => by cases (And.left h)) (Or.inl ⟨by rfl, ?_⟩) ?_ ?_
  rotate_left
  · intro w'
    go_simp
    with_reducible rfl
  rotate_left
  · simp only [Act.put, aS, aZ, aC, i64_w, i32_w]
    rfl
  refine pure_ (i := 6) (N := some 139) (v := ?_) (a' := ?_) (bs_ 22 109) rfl rfl (by kernel_rfl) (fun _ _ _ h => by cases (And.left h)) (Or.inl ⟨by rfl, ?_⟩) ?_ ?_
  rotate_left
  · intro w'
    go_simp
    with_reducible rfl
  rotate_left
  · simp only [Act.put, aS, aZ, aC, i64_w, i32_w]
    rfl
  refine pure_ (i := 8) (N := some 141) (v := ?_) (a' := ?_) (bs_ 22 365) rfl rfl (by kernel_rfl) (fun _ _ _ h => by cases (And.left h)) (Or.inl ⟨by rfl, ?_⟩) ?_ ?_
  rotate_left
  · intro w'
    go_simp
    with_reducible rfl
  rotate_left
  · simp only [Act.put, aS, aZ, aC, i64_w, i32_w]
    rfl
  refine pure_ (i := 9) (N := some 142) (v := ?_) (a' := ?_) (bs_ 22 877) rfl rfl (by kernel_rfl) (fun _ _ _ h => by cases (And.left h)) (Or.inl ⟨by rfl, ?_⟩) ?_ ?_
  rotate_left
  · intro w'
    go_simp
    with_reducible rfl
  rotate_left
  · simp only [Act.put, aS, aZ, aC, i64_w, i32_w]
    rfl
  refine pure_ (i := 11) (N := some 144) (v := ?_) (a' := ?_) (bs_ 22 2925) rfl rfl (by kernel_rfl) (fun _ _ _ h => by cases (And.left h)) (Or.inl ⟨by rfl, ?_⟩) ?_ ?_
  rotate_left
  · intro w'
    go_simp
    with_reducible rfl
  rotate_left
  · simp only [Act.put, aS, aZ, aC, i64_w, i32_w]
    rfl
  refine pure_ (i := 12) (N := some 145) (v := ?_) (a' := ?_) (bs_ 22 7021) rfl rfl (by kernel_rfl) (fun _ _ _ h => by cases (And.left h)) (Or.inl ⟨by rfl, ?_⟩) ?_ ?_
  rotate_left
  · intro w'
    go_simp
    with_reducible rfl
  rotate_left
  · simp only [Act.put, aS, aZ, aC, i64_w, i32_w]
    rfl
  refine pure_ (i := 14) (N := some 147) (v := ?_) (a' := ?_) (bs_ 22 23405) rfl rfl (by kernel_rfl) (fun _ _ _ h => by cases (And.left h)) (Or.inl ⟨by rfl, ?_⟩) ?_ ?_
  rotate_left
  · intro w'
    go_simp
    with_reducible rfl
  rotate_left
  · simp only [Act.put, aS, aZ, aC, i64_w, i32_w]
    rfl
  refine pure_ (i := 15) (N := some 148) (v := ?_) (a' := ?_) (bs_ 22 56173) rfl rfl (by kernel_rfl) (fun _ _ _ h => by cases (And.left h)) (Or.inl ⟨by rfl, ?_⟩) ?_ ?_
  rotate_left
  · intro w'
    go_simp
    with_reducible rfl
  rotate_left
  · simp only [Act.put, aS, aZ, aC, i64_w, i32_w]
    rfl
  refine take_ (i := 1) (N := some 134) (v := ?_) (a' := ?_) (bs_ 22 56175) rfl rfl (by kernel_rfl) (fun _ _ _ h => by cases (And.left h)) (Or.inl ⟨by rfl, ?_⟩) hHeld ?_ ?_
  rotate_left
  · rintro w' ⟨s0, s1, s2, s3, s4, s5⟩
    go_simp
    with_reducible rfl
  rotate_left
  · simp only [Act.put, aS, aZ, aC, i64_w, i32_w]
    rfl
  refine take_ (i := 4) (N := some 137) (v := ?_) (a' := ?_) (bs_ 22 56191) rfl rfl (by kernel_rfl) (fun _ _ _ h => by cases (And.left h)) (Or.inl ⟨by rfl, ?_⟩) hHeld ?_ ?_
  rotate_left
  · rintro w' ⟨s0, s1, s2, s3, s4, s5⟩
    go_simp
    with_reducible rfl
  rotate_left
  · simp only [Act.put, aS, aZ, aC, i64_w, i32_w]
    rfl
  refine take_ (i := 7) (N := some 140) (v := ?_) (a' := ?_) (bs_ 22 56319) rfl rfl (by kernel_rfl) (fun _ _ _ h => by cases (And.left h)) (Or.inl ⟨by rfl, ?_⟩) hHeld ?_ ?_
  rotate_left
  · rintro w' ⟨s0, s1, s2, s3, s4, s5⟩
    go_simp
    with_reducible rfl
  rotate_left
  · simp only [Act.put, aS, aZ, aC, i64_w, i32_w]
    rfl
  refine take_ (i := 10) (N := some 143) (v := ?_) (a' := ?_) (bs_ 22 57343) rfl rfl (by kernel_rfl) (fun _ _ _ h => by cases (And.left h)) (Or.inl ⟨by rfl, ?_⟩) hHeld ?_ ?_
  rotate_left
  · rintro w' ⟨s0, s1, s2, s3, s4, s5⟩
    go_simp
    with_reducible rfl
  rotate_left
  · simp only [Act.put, aS, aZ, aC, i64_w, i32_w]
    rfl
  refine take_ (i := 13) (N := some 146) (v := ?_) (a' := ?_) (bs_ 22 65535) rfl rfl (by kernel_rfl) (fun _ _ _ h => by cases (And.left h)) (Or.inl ⟨by rfl, ?_⟩) hHeld ?_ ?_
  rotate_left
  · rintro w' ⟨s0, s1, s2, s3, s4, s5⟩
    go_simp
    with_reducible rfl
  rotate_left
  · simp only [Act.put, aS, aZ, aC, i64_w, i32_w]
    rfl
  refine take_ (i := 16) (N := some 149) (v := ?_) (a' := ?_) (bs_ 22 131071) rfl rfl (by kernel_rfl) (fun _ _ _ h => by cases (And.left h)) (Or.inl ⟨by rfl, ?_⟩) hHeld ?_ ?_
  rotate_left
  · rintro w' ⟨s0, s1, s2, s3, s4, s5⟩
    go_simp
    with_reducible rfl
  rotate_left
  · simp only [Act.put, aS, aZ, aC, i64_w, i32_w]
    rfl
  refine pure_ (i := 17) (N := some 150) (v := ?_) (a' := ?_) (bs_ 22 262143) rfl rfl (by kernel_rfl) (fun _ _ _ h => by cases (And.left h)) (Or.inl ⟨by rfl, ?_⟩) ?_ ?_
  rotate_left
  · intro w'
    go_simp
    with_reducible rfl
  rotate_left
  · simp only [Act.put, aS, aZ, aC, i64_w, i32_w]
    rfl
  refine oA_ 18 151 (bs_ 22 524287) (fun K hK => ?_)
  refine vA_ ?_
  refine hK.out _ _ ⟨wld.cellA ((blk_cell HPM.out.cbk 1).trans rfl) _, wld.cellA ((blk_cell HG.out 0).trans HY0.out) _, wld.cellA ((blk_cell HG.out 1).trans HY1.out) _, wld.cellA ((blk_cell HG.out 2).trans HY2.out) _, wld.cellA ((blk_cell HG.out 3).trans HY3.out) _, wld.cellA ((blk_cell HG.out 4).trans HY4.out) _⟩ (fun hHeld => ?_)
  clear hK K
  refine nA_ ?_
  refine oA_ 19 152 (bs_ 22 1048575) (fun K hK => ?_)
  refine Kd.R_append_step k70 (w0 := W) W.heap.size (by rfl) (.tmp 134) (.tmp 151) 23 70 (.agg #[(.int .i64 0), (.int .i64 0), (.int .i64 0), (.int .i64 0), (.int .i64 0)]) 40 rfl Tryz.underlying23 info70 rfl (by decide) (by omega) v1 s.2.1 (⟨y0, y1, y2, y3, y4⟩ : S70) [.int .i64 y0, .int .i64 y1, .int .i64 y2, .int .i64 y3, .int .i64 y4] TT_ (fun _ => False) rfl rfl ?aP (fun _ hk => hk.elim) ?aF ?aO ?aB ?aS ?aL ?_
  (case aP => exact k70_mkM _ _ _ (⟨y0, y1, y2, y3, y4⟩ : S70))
  (case aF => exact (fun _ _ => trivial))
  (case aO => exact HPM.out.rows.r1)
  (case aB => exact HPM.out.bW)
  (case aS => exact HPM.out.bW.size)
  (case aL => exact HCL.out)
  intro v9 w9 ho hb hg hat
  obtain ⟨A9, n9, c9, rfl⟩ := R_sliceM ho
  have hfz := blk_frozen (grown_blk HPM.out.cbk (R_typ HPM.out.rows.r1) (by decide) hg) 1
  refine hK.out _ _ ⟨(blk_cell (grown_blk HPM.out.cbk (R_typ HPM.out.rows.r1) (by decide) hg) 1).trans rfl, (blk_cell (blk_grown HG.out hg HNE.out) 0).trans HY0.out, (blk_cell (blk_grown HG.out hg HNE.out) 1).trans HY1.out, (blk_cell (blk_grown HG.out hg HNE.out) 2).trans HY2.out, (blk_cell (blk_grown HG.out hg HNE.out) 3).trans HY3.out, (blk_cell (blk_grown HG.out hg HNE.out) 4).trans HY4.out⟩ (fun hHeld => ?_)
  clear hK K
  refine nA_ ?_
  refine pure_ (i := 20) (N := some 153) (v := ?_) (a' := ?_) (bs_ 22 2097151) rfl rfl (by kernel_rfl) (fun _ _ _ h => by cases (And.left h)) (Or.inl ⟨by rfl, ?_⟩) ?_ ?_
  rotate_left
  · intro w'
    go_simp
    with_reducible rfl
  rotate_left
  · simp only [Act.put, aS, aZ, aC, i64_w, i32_w]
    rfl
  refine last_ (i := 21) (N := none) (bs_ 22 4194303) rfl rfl (by kernel_rfl) (by decide) (fun K hK => ?_)
  refine skip_ (w1 := ?_) (by rfl) rfl ?_ ?_
  rotate_left
  · go_simp
    rfl
  refine hK.out _ _ ?_
  clear hK K
  refine done_ (by kernel_rfl) ?_
  replace HPM := am_ (HPM.out.put1 HWE.out ho hb hg)
  clear ho hb hg hat hfz HG HNE
  generalize World.setCell w9 _ _ = w10 at HPM ⊢
  have HRE := am_ (show lineOf (wAccount :: [x1, x2, x3, x4, x5]) s = (0, some (s.1, s.2.1 ++ [⟨y0, y1, y2, y3, y4⟩], s.2.2.1, s.2.2.2)) by rw [HLO.out, HLO3.out])
  go_wp2_with fail
  (try simp only [Exit.inBlock, Exit.then])
  refine ⟨rfl, ?_⟩
  (repeat apply Exists.intro)
  refine ⟨?rel, rfl⟩
  case rel => exact ⟨_, _, _, _, HPM.out, by rw [HRE.out]; rfl, fun s2 h => by rw [HRE.out] at h; exact Option.some.inj h⟩
theorem sw_plain (t : ByteArray) (w W w1 : World) (g o c_ : Nat) (L : List ByteArray) (k : Nat) (x : ByteArray) (g2 c2 : Nat) (h : ByteArray) (tl : List ByteArray) (n : Int) (more : Bool) (s : Stt) (u3 u4 u5 u16 u17 u18 u19 u20 u36 u37 u38 u39 u40 u41 u42 u43 u44 u45 u46 u47 u48 u49 u50 u51 u52 u53 u54 u55 u56 u57 u58 u59 u60 u61 u62 u63 u64 u65 u66 u67 u68 u69 u70 u71 u72 u73 u74 u75 u76 u77 u78 u79 u80 u81 u82 u83 u84 u85 u86 u87 u88 u89 u90 u91 u92 u93 u94 u95 u96 u97 u98 u99 u100 u101 u102 u103 u104 u105 u106 u107 u108 u109 u110 u111 u112 u113 u114 u115 u116 u117 u118 u119 u120 u121 u122 u123 u124 u125 u126 u127 u128 u129 u130 u131 u132 u133 u134 u135 u136 u137 u138 u139 u140 u141 u142 u143 u144 u145 u146 u147 u148 u149 u150 u151 u152 u153 u154 u155 u156 u157 u158 u159 u160 u161 u162 u163 u164 u165 u166 u167 u168 u169 u170 u171 u172 u173 u174 u175 u176 u177 u178 u179 u180 u181 u182 u183 u184 u185 : Value) (v0 v1 v2 v3 : Value) (rd : Rd) (w2 w3 : World)
 (HWE : Aside0 (sc.Env W)) (HP : Aside0 (CN s k)) (HLEN : Aside0 ((h :: tl).length ≤ 65536))
 (HCW : Aside0 (∀ (W' : World), Below w2.heap.size w2 W' → ∀ (j : Nat) (y_ : ByteArray), (h :: tl)[j]? = some y_ → W'.cell? ⟨g2, j, none⟩ = some (.string y_)))
 (HCC2 : Aside0 ((h :: tl).length ≤ c2)) (HK4 : Aside0 (k < 4096)) (HYS : Aside0 (∀ y ∈ h :: tl, y.size ≤ 65536))
 (hl2 : (tl.length : Int) > n → more = true) (HLO : Aside0 (lineOf (h :: tl) s = match rd tl s with | none => (261, none) | some s' => (0, some s'))) (HSEL : Aside0 (selOf (h :: tl) = some (n, more, rd))) (hl1 : n ≤ (tl.length : Int))
 (HPM : Aside0 (PM W w3 w1.heap.size (.slice (some ⟨g, o, none⟩) L.length c_) v0 v1 v2 v3 L s)) (HB3 : Aside0 (Below w2.heap.size w2 w3))
 (kd : Int) (hmap : cloisterref26_map4.f h = some kd) (hq1 : (h.toList == [108, 97, 98, 101, 108]) = false) (hq2 : (h.toList == [97, 99, 99, 111, 117, 110, 116]) = false) (hq3 : (h.toList == [115, 101, 115, 115, 105, 111, 110]) = false) (hq4 : (h.toList == [97, 115, 107]) = false) (hn0 : n = 0) (hm0 : more = true) (hr0 : rd = rdEvent kd false) :
 Code.wp Tryz.prog swC (SwQ t w W w1 g o c_ L k x g2 c2 h tl n more s u3 u4 u5) ({ tmps := #[.string t, undef, .pointer (some ⟨w.heap.size, 0, none⟩), u3, u4, u5, .slice (some ⟨g, o, none⟩) L.length c_, .pointer (some ⟨w1.heap.size, 0, none⟩), v3, .int .i64 (k : Int), .string x, .slice (some ⟨g2, 0, none⟩) (tl.length + 1) c2, .int .i64 (n + 1), .bool more, .bool true, .bool true, u16, u17, u18, u19, u20, .string t, .slice (some ⟨g, o, none⟩) L.length c_, .string t, .int .i64 (t.size : Int), .bool (decide ((65536 : Int) < (t.size : Int))), .bool (decide ((65536 : Int) < (t.size : Int))), .slice (some ⟨g, o, none⟩) L.length c_, .int .i64 (L.length : Int), .bool (decide ((4096 : Int) < (L.length : Int))), .bool (decide ((65536 : Int) < (t.size : Int)) || decide ((4096 : Int) < (L.length : Int))), undef, .slice (some ⟨g, o, none⟩) L.length c_, .int .i64 (L.length : Int), .int .i64 (k : Int), .bool true, u36, u37, u38, u39, u40, u41, u42, u43, u44, u45, u46, u47, u48, u49, u50, u51, u52, u53, u54, u55, u56, u57, u58, u59, u60, u61, u62, u63, u64, u65, u66, u67, u68, u69, u70, u71, u72, u73, .bool false, u75, u76, u77, u78, u79, u80, u81, u82, u83, u84, u85, u86, u87, u88, u89, u90, u91, u92, u93, u94, u95, u96, u97, u98, u99, u100, u101, u102, u103, u104, u105, u106, u107, u108, u109, u110, u111, u112, u113, u114, u115, u116, u117, u118, u119, u120, u121, u122, u123, u124, u125, u126, u127, u128, u129, u130, u131, u132, u133, u134, u135, u136, u137, u138, u139, u140, u141, u142, u143, u144, u145, u146, u147, u148, u149, u150, u151, u152, u153, u154, u155, u156, u157, u158, u159, u160, u161, u162, u163, u164, u165, u166, u167, u168, u169, u170, u171, u172, u173, u174, u175, u176, u177, u178, u179, u180, u181, u182, u183, u184, u185, undef, undef], defers := [] } : Act) w3 := by
 subst hn0 hm0 hr0
 have HMAP := am_ hmap
 clear hmap
 have hch := HCW.out w3 HB3.out 0 _ rfl
 dsimp only [swC, pl, pr, Tryz.f23, Option.getD]
 clear hl1 hl2 HSEL
 by_cases ho0 : tl = []
 · subst ho0
   have hq : c2 = 1 ∨ 2 ≤ c2 := by have := HCC2.out; simp at this; omega
   rcases hq with rfl | ho2
   have ho2 : True := trivial
   all_goals (
    have hcc : 1 ≤ _ := HCC2.out
    go_wp2_with fail
    clear hch
    refine (cloisterref26_map4.calls h kd w3 HMAP.out).mono ?_
    rintro e w4 ⟨rfl, hd⟩
    replace HPM := am_ (HPM.out.below hd.below)
    have HB4 := am_ (below_step HB3.out hd.below)
    clear hd
    have HES := am_ (ES.new w4)
    go_wp2_with (refine wpL_row rfl 52 (.tmp 20) (.tmp 85) rfl w4.heap.size (#[.int .i64 kd, .int .i64 0, .int .i64 0, .int .i64 0, .int .i64 0, .int .i64 0, .string ⟨#[]⟩, .string ⟨#[]⟩, .slice none 0 0, .int .i64 0, .int .i64 0, .slice none 0 0]) rfl rfl 52 Z52 HES.out.eb size52 rfl (by simp [Value.oneCell']) ?_; replace HES := am_ (HES.out.row (#[.int .i64 kd, .int .i64 0, .int .i64 0, .int .i64 0, .int .i64 0, .int .i64 0, .string ⟨#[]⟩, .string ⟨#[]⟩, .slice none 0 0, .int .i64 0, .int .i64 0, .slice none 0 0])); generalize World.setRow _ _ _ = wZ at HES ⊢)
    refine (rstrikes_c ([] : List ByteArray) (by intro y hy; exact HYS.out y (List.mem_cons_of_mem _ hy)) (by have := HLEN.out; simp at this ⊢; try omega) _ _ wZ ?hC ?hc).mono ?_
    case hC => first | exact none_C _ (Nat.le_refl _) | exact part_C (HCW.out _ (below_step HB4.out HES.out.b)) (by have := HLEN.out; simp at this ⊢; try omega) 1 ([] : List ByteArray) (by intro j p_ hj; rw [Nat.add_comm]; exact hj) (by have := HLEN.out; simp at this ⊢; try omega)
    case hc => first | exact Nat.zero_le _ | omega
    clear hcc ho2
    rintro e w6 ⟨⟨v, rfl, hr⟩, hb6⟩
    obtain ⟨A11, n11, c11, rfl⟩ := R_sliceM hr
    have HS1 := am_ (Kd.R_lower hr (show w4.heap.size ≤ wZ.heap.size from HES.out.b.size))
    replace HES := am_ (HES.out.below hb6)
    clear hr hb6
    have q11 := (blk_cell HES.out.eb 11).trans rfl
    have f11 := blk_frozen HES.out.eb 11
    go_upto_region 21 with (fail)
    have HS := am_ (Kd.R_set HS1.out HES.out.eb (by decide) 11 (.slice A11 n11 c11))
    replace HES := am_ (HES.out.put 11 (.slice A11 n11 c11) (c' := #[.int .i64 kd, .int .i64 0, .int .i64 0, .int .i64 0, .int .i64 0, .int .i64 0, .string ⟨#[]⟩, .string ⟨#[]⟩, .slice none 0 0, .int .i64 0, .int .i64 0, .slice A11 n11 c11]) rfl)
    clear HS1 q11 f11
    generalize World.setCell w6 _ _ = wc at HES HS ⊢
    obtain ⟨e0, e1, e2, e3, e4, e5, e6, e7, e8, e9, e10, e11⟩ := c12_ HES.out.eb
    have HNV := am_ (show ∀ k_, v3.ownBlock = some k_ → ¬ w4.heap.size ≤ k_ from fun k_ e => by
     obtain ⟨cells, hc⟩ := HPM.out.rows.r3.typ _ e
     exact Nat.not_le.2 (blk_lt hc))
    have HPW := am_ (HPM.out.below HES.out.b)
    have HX := am_ (show k52o.M wc W.heap.size (fun k_ => w4.heap.size ≤ k_) ((evAt kd 0 ((strikesOf ([] : List ByteArray)).getD [])), ((none, 0) : Option Addr × Nat)) [.int .i64 kd, .int .i64 0, .int .i64 0, .int .i64 0, .int .i64 0, .int .i64 0, .string ⟨#[]⟩, .string ⟨#[]⟩, .slice none 0 0, .int .i64 0, .int .i64 0, .slice A11 n11 c11] from k52o_mkM wc W.heap.size (fun k_ => w4.heap.size ≤ k_) ((evAt kd 0 ((strikesOf ([] : List ByteArray)).getD [])), ((none, 0) : Option Addr × Nat)) (Kd.R_lower (Kd.R_mono (Kd.R_bound HS.out) (fun k_ hk => hk.2.1)) HPM.out.bW.size))
    have HV := am_ (show VR wc W.heap.size ((evAt kd 0 ((strikesOf ([] : List ByteArray)).getD [])), ((none, 0) : Option Addr × Nat)) from VR.nil _ _ _ rfl)
    obtain ⟨o3, ho3⟩ := HPW.out.rows.r3
    have HO := am_ ho3
    have HCL := am_ (show (o3.length + 1) * 144 ≤ 140737488355328 from by have h1 := congrArg List.length ho3.m; rw [List.length_map] at h1; have := (cnt_le s).2.2.2; have := HP.out.cnt; have := HK4.out; omega)
    clear ho3
    go_upto_region 39 with (at_builtin; refine Kd.R_append k52o (w0 := W) W.heap.size rfl (.tmp 105) (.tmp 107) 27 52 (.agg Z52) 144 rfl Tryz.underlying27 info52 rfl (by decide) (by omega) v3 o3 ((evAt kd 0 ((strikesOf ([] : List ByteArray)).getD [])), ((none, 0) : Option Addr × Nat)) [.int .i64 kd, .int .i64 0, .int .i64 0, .int .i64 0, .int .i64 0, .int .i64 0, .string ⟨#[]⟩, .string ⟨#[]⟩, .slice none 0 0, .int .i64 0, .int .i64 0, .slice A11 n11 c11] TT_ (fun k_ => w4.heap.size ≤ k_) rfl rfl ?aP (fun k_ hk => ⟨trivial, fun e => HNV.out k_ e.symm hk⟩) ?aF ?aO ?aB ?aS ?aL ?_; (case aP => exact HX.out); (case aF => exact (fun _ _ => trivial)); (case aO => exact HO.out.r); (case aB => exact HPW.out.bW); (case aS => exact HPW.out.bW.size); (case aL => exact HCL.out); intro v9 w9 ho hb hg hat; obtain ⟨A9, n9, c9, rfl⟩ := R_sliceM ho; replace HPM := am_ (HPW.out.put3 HWE.out (HO.out.snoc hg ho HV.out) hb hg); clear ho hb hg hat)
    clear e0 e1 e2 e3 e4 e5 e6 e7 e8 e9 e10 e11 HNV HPW HX HV HO HCL HES
    clear HS
    cases hst : strikesOf ([] : List ByteArray) with
    | none =>
     have hlo2 : rdEvent kd false ([] : List ByteArray) s = none := by unfold rdEvent evOf; rw [if_neg (by decide), hst]; rfl
     have HRE := am_ (show _ = ((261 : Int), (none : Option Stt)) from HLO.out.trans (by rw [hlo2]))
     have hsm : (none : Option (List (List S66))).isSome = false := rfl
     clear hst hlo2
     go_wp2_with fail
     (try simp only [Exit.inBlock, Exit.then])
     refine ⟨rfl, ?_⟩
     (repeat apply Exists.intro)
     refine ⟨?rel, rfl⟩
     case rel => exact ⟨_, _, _, _, HPM.out, by rw [HRE.out]; rfl, fun s2 h => by rw [HRE.out] at h; cases h⟩
    | some st =>
     have hlo2 : rdEvent kd false ([] : List ByteArray) s = some (s.1, s.2.1, s.2.2.1, s.2.2.2 ++ [evAt kd 0 st]) := by unfold rdEvent evOf; rw [if_neg (by decide), hst]; rfl
     have hsm : (some st).isSome = true := rfl
     rw [hst] at HPM
     clear hst
     have HRE := am_ (show lineOf (h :: ([] : List ByteArray)) s = (0, some (s.1, s.2.1, s.2.2.1, s.2.2.2 ++ [evAt kd 0 st])) by rw [HLO.out, hlo2])
     go_wp2_with fail
     (try simp only [Exit.inBlock, Exit.then])
     refine ⟨rfl, ?_⟩
     (repeat apply Exists.intro)
     refine ⟨?rel, rfl⟩
     case rel => exact ⟨_, _, _, _, HPM.out, by rw [HRE.out]; rfl, fun s2 h => by rw [HRE.out] at h; exact Option.some.inj h⟩)
 have ho1 : 1 ≤ tl.length := List.length_pos_iff.2 ho0
 have ho2 : 2 ≤ c2 := by have := HCC2.out; rw [List.length_cons] at this; omega
 clear ho0
 have hcc : tl.length + 1 ≤ _ := HCC2.out
 go_wp2_with fail
 clear hch
 refine (cloisterref26_map4.calls h kd w3 HMAP.out).mono ?_
 rintro e w4 ⟨rfl, hd⟩
 replace HPM := am_ (HPM.out.below hd.below)
 have HB4 := am_ (below_step HB3.out hd.below)
 clear hd
 have HES := am_ (ES.new w4)
 go_wp2_with (refine wpL_row rfl 52 (.tmp 20) (.tmp 85) rfl w4.heap.size (#[.int .i64 kd, .int .i64 0, .int .i64 0, .int .i64 0, .int .i64 0, .int .i64 0, .string ⟨#[]⟩, .string ⟨#[]⟩, .slice none 0 0, .int .i64 0, .int .i64 0, .slice none 0 0]) rfl rfl 52 Z52 HES.out.eb size52 rfl (by simp [Value.oneCell']) ?_; replace HES := am_ (HES.out.row (#[.int .i64 kd, .int .i64 0, .int .i64 0, .int .i64 0, .int .i64 0, .int .i64 0, .string ⟨#[]⟩, .string ⟨#[]⟩, .slice none 0 0, .int .i64 0, .int .i64 0, .slice none 0 0])); generalize World.setRow _ _ _ = wZ at HES ⊢)
 refine (rstrikes_c tl (by intro y hy; exact HYS.out y (List.mem_cons_of_mem _ hy)) (by have := HLEN.out; simp at this ⊢; try omega) _ _ wZ ?hC ?hc).mono ?_
 case hC => first | exact none_C _ (Nat.le_refl _) | exact part_C (HCW.out _ (below_step HB4.out HES.out.b)) (by have := HLEN.out; simp at this ⊢; try omega) 1 tl (by intro j p_ hj; rw [Nat.add_comm]; exact hj) (by have := HLEN.out; simp at this ⊢; try omega)
 case hc => first | exact Nat.zero_le _ | omega
 clear hcc ho2
 rintro e w6 ⟨⟨v, rfl, hr⟩, hb6⟩
 obtain ⟨A11, n11, c11, rfl⟩ := R_sliceM hr
 have HS1 := am_ (Kd.R_lower hr (show w4.heap.size ≤ wZ.heap.size from HES.out.b.size))
 replace HES := am_ (HES.out.below hb6)
 clear hr hb6
 have q11 := (blk_cell HES.out.eb 11).trans rfl
 have f11 := blk_frozen HES.out.eb 11
 go_upto_region 21 with (fail)
 have HS := am_ (Kd.R_set HS1.out HES.out.eb (by decide) 11 (.slice A11 n11 c11))
 replace HES := am_ (HES.out.put 11 (.slice A11 n11 c11) (c' := #[.int .i64 kd, .int .i64 0, .int .i64 0, .int .i64 0, .int .i64 0, .int .i64 0, .string ⟨#[]⟩, .string ⟨#[]⟩, .slice none 0 0, .int .i64 0, .int .i64 0, .slice A11 n11 c11]) rfl)
 clear HS1 q11 f11
 generalize World.setCell w6 _ _ = wc at HES HS ⊢
 obtain ⟨e0, e1, e2, e3, e4, e5, e6, e7, e8, e9, e10, e11⟩ := c12_ HES.out.eb
 have HNV := am_ (show ∀ k_, v3.ownBlock = some k_ → ¬ w4.heap.size ≤ k_ from fun k_ e => by
  obtain ⟨cells, hc⟩ := HPM.out.rows.r3.typ _ e
  exact Nat.not_le.2 (blk_lt hc))
 have HPW := am_ (HPM.out.below HES.out.b)
 have HX := am_ (show k52o.M wc W.heap.size (fun k_ => w4.heap.size ≤ k_) ((evAt kd 0 ((strikesOf tl).getD [])), ((none, 0) : Option Addr × Nat)) [.int .i64 kd, .int .i64 0, .int .i64 0, .int .i64 0, .int .i64 0, .int .i64 0, .string ⟨#[]⟩, .string ⟨#[]⟩, .slice none 0 0, .int .i64 0, .int .i64 0, .slice A11 n11 c11] from k52o_mkM wc W.heap.size (fun k_ => w4.heap.size ≤ k_) ((evAt kd 0 ((strikesOf tl).getD [])), ((none, 0) : Option Addr × Nat)) (Kd.R_lower (Kd.R_mono (Kd.R_bound HS.out) (fun k_ hk => hk.2.1)) HPM.out.bW.size))
 have HV := am_ (show VR wc W.heap.size ((evAt kd 0 ((strikesOf tl).getD [])), ((none, 0) : Option Addr × Nat)) from VR.nil _ _ _ rfl)
 obtain ⟨o3, ho3⟩ := HPW.out.rows.r3
 have HO := am_ ho3
 have HCL := am_ (show (o3.length + 1) * 144 ≤ 140737488355328 from by have h1 := congrArg List.length ho3.m; rw [List.length_map] at h1; have := (cnt_le s).2.2.2; have := HP.out.cnt; have := HK4.out; omega)
 clear ho3
 go_upto_region 39 with (at_builtin; refine Kd.R_append k52o (w0 := W) W.heap.size rfl (.tmp 105) (.tmp 107) 27 52 (.agg Z52) 144 rfl Tryz.underlying27 info52 rfl (by decide) (by omega) v3 o3 ((evAt kd 0 ((strikesOf tl).getD [])), ((none, 0) : Option Addr × Nat)) [.int .i64 kd, .int .i64 0, .int .i64 0, .int .i64 0, .int .i64 0, .int .i64 0, .string ⟨#[]⟩, .string ⟨#[]⟩, .slice none 0 0, .int .i64 0, .int .i64 0, .slice A11 n11 c11] TT_ (fun k_ => w4.heap.size ≤ k_) rfl rfl ?aP (fun k_ hk => ⟨trivial, fun e => HNV.out k_ e.symm hk⟩) ?aF ?aO ?aB ?aS ?aL ?_; (case aP => exact HX.out); (case aF => exact (fun _ _ => trivial)); (case aO => exact HO.out.r); (case aB => exact HPW.out.bW); (case aS => exact HPW.out.bW.size); (case aL => exact HCL.out); intro v9 w9 ho hb hg hat; obtain ⟨A9, n9, c9, rfl⟩ := R_sliceM ho; replace HPM := am_ (HPW.out.put3 HWE.out (HO.out.snoc hg ho HV.out) hb hg); clear ho hb hg hat)
 clear e0 e1 e2 e3 e4 e5 e6 e7 e8 e9 e10 e11 HNV HPW HX HV HO HCL HES
 clear HS
 cases hst : strikesOf tl with
 | none =>
  have hlo2 : rdEvent kd false tl s = none := by unfold rdEvent evOf; rw [if_neg (by decide), hst]; rfl
  have HRE := am_ (show _ = ((261 : Int), (none : Option Stt)) from HLO.out.trans (by rw [hlo2]))
  have hsm : (none : Option (List (List S66))).isSome = false := rfl
  clear hst hlo2
  go_wp2_with fail
  (try simp only [Exit.inBlock, Exit.then])
  refine ⟨rfl, ?_⟩
  (repeat apply Exists.intro)
  refine ⟨?rel, rfl⟩
  case rel => exact ⟨_, _, _, _, HPM.out, by rw [HRE.out]; rfl, fun s2 h => by rw [HRE.out] at h; cases h⟩
 | some st =>
  have hlo2 : rdEvent kd false tl s = some (s.1, s.2.1, s.2.2.1, s.2.2.2 ++ [evAt kd 0 st]) := by unfold rdEvent evOf; rw [if_neg (by decide), hst]; rfl
  have hsm : (some st).isSome = true := rfl
  rw [hst] at HPM
  clear hst
  have HRE := am_ (show lineOf (h :: tl) s = (0, some (s.1, s.2.1, s.2.2.1, s.2.2.2 ++ [evAt kd 0 st])) by rw [HLO.out, hlo2])
  go_wp2_with fail
  (try simp only [Exit.inBlock, Exit.then])
  refine ⟨rfl, ?_⟩
  (repeat apply Exists.intro)
  refine ⟨?rel, rfl⟩
  case rel => exact ⟨_, _, _, _, HPM.out, by rw [HRE.out]; rfl, fun s2 h => by rw [HRE.out] at h; exact Option.some.inj h⟩
theorem sw_placed (t : ByteArray) (w W w1 : World) (g o c_ : Nat) (L : List ByteArray) (k : Nat) (x : ByteArray) (g2 c2 : Nat) (h : ByteArray) (tl : List ByteArray) (n : Int) (more : Bool) (s : Stt) (u3 u4 u5 u16 u17 u18 u19 u20 u36 u37 u38 u39 u40 u41 u42 u43 u44 u45 u46 u47 u48 u49 u50 u51 u52 u53 u54 u55 u56 u57 u58 u59 u60 u61 u62 u63 u64 u65 u66 u67 u68 u69 u70 u71 u72 u73 u74 u75 u76 u77 u78 u79 u80 u81 u82 u83 u84 u85 u86 u87 u88 u89 u90 u91 u92 u93 u94 u95 u96 u97 u98 u99 u100 u101 u102 u103 u104 u105 u106 u107 u108 u109 u110 u111 u112 u113 u114 u115 u116 u117 u118 u119 u120 u121 u122 u123 u124 u125 u126 u127 u128 u129 u130 u131 u132 u133 u134 u135 u136 u137 u138 u139 u140 u141 u142 u143 u144 u145 u146 u147 u148 u149 u150 u151 u152 u153 u154 u155 u156 u157 u158 u159 u160 u161 u162 u163 u164 u165 u166 u167 u168 u169 u170 u171 u172 u173 u174 u175 u176 u177 u178 u179 u180 u181 u182 u183 u184 u185 : Value) (v0 v1 v2 v3 : Value) (rd : Rd) (w2 w3 : World)
 (HWE : Aside0 (sc.Env W)) (HP : Aside0 (CN s k)) (HLEN : Aside0 ((h :: tl).length ≤ 65536))
 (HCW : Aside0 (∀ (W' : World), Below w2.heap.size w2 W' → ∀ (j : Nat) (y_ : ByteArray), (h :: tl)[j]? = some y_ → W'.cell? ⟨g2, j, none⟩ = some (.string y_)))
 (HCC2 : Aside0 ((h :: tl).length ≤ c2)) (HK4 : Aside0 (k < 4096)) (HYS : Aside0 (∀ y ∈ h :: tl, y.size ≤ 65536))
 (hl2 : (tl.length : Int) > n → more = true) (HLO : Aside0 (lineOf (h :: tl) s = match rd tl s with | none => (261, none) | some s' => (0, some s'))) (HSEL : Aside0 (selOf (h :: tl) = some (n, more, rd))) (hl1 : n ≤ (tl.length : Int))
 (HPM : Aside0 (PM W w3 w1.heap.size (.slice (some ⟨g, o, none⟩) L.length c_) v0 v1 v2 v3 L s)) (HB3 : Aside0 (Below w2.heap.size w2 w3))
 (kd : Int) (hmap : cloisterref26_map4.f h = some kd) (hq1 : (h.toList == [108, 97, 98, 101, 108]) = false) (hq2 : (h.toList == [97, 99, 99, 111, 117, 110, 116]) = false) (hq3 : (h.toList == [115, 101, 115, 115, 105, 111, 110]) = false) (hq4 : (h.toList == [97, 115, 107]) = false) (hn0 : n = 1) (hm0 : more = true) (hr0 : rd = rdEvent kd true) :
 Code.wp Tryz.prog swC (SwQ t w W w1 g o c_ L k x g2 c2 h tl n more s u3 u4 u5) ({ tmps := #[.string t, undef, .pointer (some ⟨w.heap.size, 0, none⟩), u3, u4, u5, .slice (some ⟨g, o, none⟩) L.length c_, .pointer (some ⟨w1.heap.size, 0, none⟩), v3, .int .i64 (k : Int), .string x, .slice (some ⟨g2, 0, none⟩) (tl.length + 1) c2, .int .i64 (n + 1), .bool more, .bool true, .bool true, u16, u17, u18, u19, u20, .string t, .slice (some ⟨g, o, none⟩) L.length c_, .string t, .int .i64 (t.size : Int), .bool (decide ((65536 : Int) < (t.size : Int))), .bool (decide ((65536 : Int) < (t.size : Int))), .slice (some ⟨g, o, none⟩) L.length c_, .int .i64 (L.length : Int), .bool (decide ((4096 : Int) < (L.length : Int))), .bool (decide ((65536 : Int) < (t.size : Int)) || decide ((4096 : Int) < (L.length : Int))), undef, .slice (some ⟨g, o, none⟩) L.length c_, .int .i64 (L.length : Int), .int .i64 (k : Int), .bool true, u36, u37, u38, u39, u40, u41, u42, u43, u44, u45, u46, u47, u48, u49, u50, u51, u52, u53, u54, u55, u56, u57, u58, u59, u60, u61, u62, u63, u64, u65, u66, u67, u68, u69, u70, u71, u72, u73, .bool false, u75, u76, u77, u78, u79, u80, u81, u82, u83, u84, u85, u86, u87, u88, u89, u90, u91, u92, u93, u94, u95, u96, u97, u98, u99, u100, u101, u102, u103, u104, u105, u106, u107, u108, u109, u110, u111, u112, u113, u114, u115, u116, u117, u118, u119, u120, u121, u122, u123, u124, u125, u126, u127, u128, u129, u130, u131, u132, u133, u134, u135, u136, u137, u138, u139, u140, u141, u142, u143, u144, u145, u146, u147, u148, u149, u150, u151, u152, u153, u154, u155, u156, u157, u158, u159, u160, u161, u162, u163, u164, u165, u166, u167, u168, u169, u170, u171, u172, u173, u174, u175, u176, u177, u178, u179, u180, u181, u182, u183, u184, u185, undef, undef], defers := [] } : Act) w3 := by
 subst hn0 hm0 hr0
 have HMAP := am_ hmap
 clear hmap
 have hch := HCW.out w3 HB3.out 0 _ rfl
 dsimp only [swC, pl, pr, Tryz.f23, Option.getD]
 obtain ⟨p, r, rfl⟩ : ∃ a b, tl = a :: b := by
  rcases tl with _ | ⟨a, b⟩
  · simp at hl1
  exact ⟨a, b, rfl⟩
 clear hl1 hl2 HSEL
 by_cases ho0 : r = []
 · subst ho0
   have hq : c2 = 2 ∨ 3 ≤ c2 := by have := HCC2.out; simp at this; omega
   rcases hq with rfl | ho2
   have ho2 : True := trivial
   all_goals (
    have hcc : 2 ≤ _ := HCC2.out
    go_wp2_with fail
    clear hch
    refine (cloisterref26_map4.calls h kd w3 HMAP.out).mono ?_
    rintro e w4 ⟨rfl, hd⟩
    replace HPM := am_ (HPM.out.below hd.below)
    have HB4 := am_ (below_step HB3.out hd.below)
    clear hd
    have HES := am_ (ES.new w4)
    go_wp2_with (refine wpL_row rfl 52 (.tmp 20) (.tmp 85) rfl w4.heap.size (#[.int .i64 kd, .int .i64 0, .int .i64 0, .int .i64 0, .int .i64 0, .int .i64 0, .string ⟨#[]⟩, .string ⟨#[]⟩, .slice none 0 0, .int .i64 0, .int .i64 0, .slice none 0 0]) rfl rfl 52 Z52 HES.out.eb size52 rfl (by simp [Value.oneCell']) ?_; replace HES := am_ (HES.out.row (#[.int .i64 kd, .int .i64 0, .int .i64 0, .int .i64 0, .int .i64 0, .int .i64 0, .string ⟨#[]⟩, .string ⟨#[]⟩, .slice none 0 0, .int .i64 0, .int .i64 0, .slice none 0 0])); generalize World.setRow _ _ _ = wZ at HES ⊢; have hc1 := HCW.out wZ (below_step HB4.out HES.out.b) 1 p rfl)
    clear hc1
    refine (rnum_c p (HYS.out p (by simp)) wZ).mono ?_
    rintro e w5 ⟨rfl, hb5⟩
    replace HES := am_ (HES.out.below hb5)
    clear hb5
    have q10 := (blk_cell HES.out.eb 10).trans rfl
    have f10 := blk_frozen HES.out.eb 10
    go_upto_region 19 with (fail)
    replace HES := am_ (HES.out.put 10 (.int .i64 (refNum p.data.toList).1) (c' := #[.int .i64 kd, .int .i64 0, .int .i64 0, .int .i64 0, .int .i64 0, .int .i64 0, .string ⟨#[]⟩, .string ⟨#[]⟩, .slice none 0 0, .int .i64 0, .int .i64 (refNum p.data.toList).1, .slice none 0 0]) rfl)
    clear q10 f10
    cases hnp : sc.numOf p with
    | none =>
     generalize World.setCell w5 _ _ = wc at HES ⊢
     have hlo2 : rdEvent kd true (p :: ([] : List ByteArray)) s = none := by unfold rdEvent evOf; rw [if_pos rfl]; simp only [hnp]; rfl
     have HRE := am_ (show _ = ((261 : Int), (none : Option Stt)) from HLO.out.trans (by rw [hlo2]))
     have hsm : (none : Option Int).isSome = false := rfl
     clear hnp hlo2
     go_upto_region 21 with (fail)
     obtain ⟨e0, e1, e2, e3, e4, e5, e6, e7, e8, e9, e10, e11⟩ := c12_ HES.out.eb
     have HNV := am_ (show ∀ k_, v3.ownBlock = some k_ → ¬ w4.heap.size ≤ k_ from fun k_ e => by
      obtain ⟨cells, hc⟩ := HPM.out.rows.r3.typ _ e
      exact Nat.not_le.2 (blk_lt hc))
     have HPW := am_ (HPM.out.below HES.out.b)
     have HX := am_ (show k52o.M wc W.heap.size (fun k_ => w4.heap.size ≤ k_) ((evAt kd (refNum p.data.toList).1 []), ((none, 0) : Option Addr × Nat)) [.int .i64 kd, .int .i64 0, .int .i64 0, .int .i64 0, .int .i64 0, .int .i64 0, .string ⟨#[]⟩, .string ⟨#[]⟩, .slice none 0 0, .int .i64 0, .int .i64 (refNum p.data.toList).1, .slice none 0 0] from k52o_mkM wc W.heap.size (fun k_ => w4.heap.size ≤ k_) ((evAt kd (refNum p.data.toList).1 []), ((none, 0) : Option Addr × Nat)) (Kd.R_nil _ _ _ _ _))
     have HV := am_ (show VR wc W.heap.size ((evAt kd (refNum p.data.toList).1 []), ((none, 0) : Option Addr × Nat)) from VR.nil _ _ _ rfl)
     obtain ⟨o3, ho3⟩ := HPW.out.rows.r3
     have HO := am_ ho3
     have HCL := am_ (show (o3.length + 1) * 144 ≤ 140737488355328 from by have h1 := congrArg List.length ho3.m; rw [List.length_map] at h1; have := (cnt_le s).2.2.2; have := HP.out.cnt; have := HK4.out; omega)
     clear ho3
     go_upto_region 39 with (at_builtin; refine Kd.R_append k52o (w0 := W) W.heap.size rfl (.tmp 105) (.tmp 107) 27 52 (.agg Z52) 144 rfl Tryz.underlying27 info52 rfl (by decide) (by omega) v3 o3 ((evAt kd (refNum p.data.toList).1 []), ((none, 0) : Option Addr × Nat)) [.int .i64 kd, .int .i64 0, .int .i64 0, .int .i64 0, .int .i64 0, .int .i64 0, .string ⟨#[]⟩, .string ⟨#[]⟩, .slice none 0 0, .int .i64 0, .int .i64 (refNum p.data.toList).1, .slice none 0 0] TT_ (fun k_ => w4.heap.size ≤ k_) rfl rfl ?aP (fun k_ hk => ⟨trivial, fun e => HNV.out k_ e.symm hk⟩) ?aF ?aO ?aB ?aS ?aL ?_; (case aP => exact HX.out); (case aF => exact (fun _ _ => trivial)); (case aO => exact HO.out.r); (case aB => exact HPW.out.bW); (case aS => exact HPW.out.bW.size); (case aL => exact HCL.out); intro v9 w9 ho hb hg hat; obtain ⟨A9, n9, c9, rfl⟩ := R_sliceM ho; replace HPM := am_ (HPW.out.put3 HWE.out (HO.out.snoc hg ho HV.out) hb hg); clear ho hb hg hat)
     clear e0 e1 e2 e3 e4 e5 e6 e7 e8 e9 e10 e11 HNV HPW HX HV HO HCL HES
     go_wp2_with fail
     (try simp only [Exit.inBlock, Exit.then])
     refine ⟨rfl, ?_⟩
     (repeat apply Exists.intro)
     refine ⟨?rel, rfl⟩
     case rel => exact ⟨_, _, _, _, HPM.out, by rw [HRE.out]; rfl, fun s2 h => by rw [HRE.out] at h; cases h⟩
    | some nn =>
     rw [(refNum_eq p).2 nn hnp] at HES ⊢
     generalize World.setCell w5 _ _ = wZ2 at HES ⊢
     have hsm : (some nn).isSome = true := rfl
     have HNP := am_ hnp
     clear hnp
     go_wp2_with fail
     refine (rstrikes_c ([] : List ByteArray) (by intro y hy; exact HYS.out y (List.mem_cons_of_mem _ (List.mem_cons_of_mem _ hy))) (by have := HLEN.out; simp at this ⊢; try omega) _ _ wZ2 ?hC ?hc).mono ?_
     case hC => first | exact none_C _ (Nat.le_refl _) | exact part_C (HCW.out _ (below_step HB4.out HES.out.b)) (by have := HLEN.out; simp at this ⊢; try omega) 2 ([] : List ByteArray) (by intro j p_ hj; rw [Nat.add_comm]; exact hj) (by have := HLEN.out; simp at this ⊢; try omega)
     case hc => first | exact Nat.zero_le _ | omega
     clear hcc ho2
     rintro e w6 ⟨⟨v, rfl, hr⟩, hb6⟩
     obtain ⟨A11, n11, c11, rfl⟩ := R_sliceM hr
     have HS1 := am_ (Kd.R_lower hr (show w4.heap.size ≤ wZ2.heap.size from HES.out.b.size))
     replace HES := am_ (HES.out.below hb6)
     clear hr hb6
     have q11 := (blk_cell HES.out.eb 11).trans rfl
     have f11 := blk_frozen HES.out.eb 11
     go_upto_region 21 with (fail)
     have HS := am_ (Kd.R_set HS1.out HES.out.eb (by decide) 11 (.slice A11 n11 c11))
     replace HES := am_ (HES.out.put 11 (.slice A11 n11 c11) (c' := #[.int .i64 kd, .int .i64 0, .int .i64 0, .int .i64 0, .int .i64 0, .int .i64 0, .string ⟨#[]⟩, .string ⟨#[]⟩, .slice none 0 0, .int .i64 0, .int .i64 nn, .slice A11 n11 c11]) rfl)
     clear HS1 q11 f11
     generalize World.setCell w6 _ _ = wc at HES HS ⊢
     obtain ⟨e0, e1, e2, e3, e4, e5, e6, e7, e8, e9, e10, e11⟩ := c12_ HES.out.eb
     have HNV := am_ (show ∀ k_, v3.ownBlock = some k_ → ¬ w4.heap.size ≤ k_ from fun k_ e => by
      obtain ⟨cells, hc⟩ := HPM.out.rows.r3.typ _ e
      exact Nat.not_le.2 (blk_lt hc))
     have HPW := am_ (HPM.out.below HES.out.b)
     have HX := am_ (show k52o.M wc W.heap.size (fun k_ => w4.heap.size ≤ k_) ((evAt kd nn ((strikesOf ([] : List ByteArray)).getD [])), ((none, 0) : Option Addr × Nat)) [.int .i64 kd, .int .i64 0, .int .i64 0, .int .i64 0, .int .i64 0, .int .i64 0, .string ⟨#[]⟩, .string ⟨#[]⟩, .slice none 0 0, .int .i64 0, .int .i64 nn, .slice A11 n11 c11] from k52o_mkM wc W.heap.size (fun k_ => w4.heap.size ≤ k_) ((evAt kd nn ((strikesOf ([] : List ByteArray)).getD [])), ((none, 0) : Option Addr × Nat)) (Kd.R_lower (Kd.R_mono (Kd.R_bound HS.out) (fun k_ hk => hk.2.1)) HPM.out.bW.size))
     have HV := am_ (show VR wc W.heap.size ((evAt kd nn ((strikesOf ([] : List ByteArray)).getD [])), ((none, 0) : Option Addr × Nat)) from VR.nil _ _ _ rfl)
     obtain ⟨o3, ho3⟩ := HPW.out.rows.r3
     have HO := am_ ho3
     have HCL := am_ (show (o3.length + 1) * 144 ≤ 140737488355328 from by have h1 := congrArg List.length ho3.m; rw [List.length_map] at h1; have := (cnt_le s).2.2.2; have := HP.out.cnt; have := HK4.out; omega)
     clear ho3
     go_upto_region 39 with (at_builtin; refine Kd.R_append k52o (w0 := W) W.heap.size rfl (.tmp 105) (.tmp 107) 27 52 (.agg Z52) 144 rfl Tryz.underlying27 info52 rfl (by decide) (by omega) v3 o3 ((evAt kd nn ((strikesOf ([] : List ByteArray)).getD [])), ((none, 0) : Option Addr × Nat)) [.int .i64 kd, .int .i64 0, .int .i64 0, .int .i64 0, .int .i64 0, .int .i64 0, .string ⟨#[]⟩, .string ⟨#[]⟩, .slice none 0 0, .int .i64 0, .int .i64 nn, .slice A11 n11 c11] TT_ (fun k_ => w4.heap.size ≤ k_) rfl rfl ?aP (fun k_ hk => ⟨trivial, fun e => HNV.out k_ e.symm hk⟩) ?aF ?aO ?aB ?aS ?aL ?_; (case aP => exact HX.out); (case aF => exact (fun _ _ => trivial)); (case aO => exact HO.out.r); (case aB => exact HPW.out.bW); (case aS => exact HPW.out.bW.size); (case aL => exact HCL.out); intro v9 w9 ho hb hg hat; obtain ⟨A9, n9, c9, rfl⟩ := R_sliceM ho; replace HPM := am_ (HPW.out.put3 HWE.out (HO.out.snoc hg ho HV.out) hb hg); clear ho hb hg hat)
     clear e0 e1 e2 e3 e4 e5 e6 e7 e8 e9 e10 e11 HNV HPW HX HV HO HCL HES
     clear HS hsm
     cases hst : strikesOf ([] : List ByteArray) with
     | none =>
      have hlo2 : rdEvent kd true (p :: ([] : List ByteArray)) s = none := by unfold rdEvent evOf; rw [if_pos rfl]; simp only [HNP.out, hst]; rfl
      have HRE := am_ (show _ = ((261 : Int), (none : Option Stt)) from HLO.out.trans (by rw [hlo2]))
      have hsm : (none : Option (List (List S66))).isSome = false := rfl
      clear hst hlo2
      go_wp2_with fail
      (try simp only [Exit.inBlock, Exit.then])
      refine ⟨rfl, ?_⟩
      (repeat apply Exists.intro)
      refine ⟨?rel, rfl⟩
      case rel => exact ⟨_, _, _, _, HPM.out, by rw [HRE.out]; rfl, fun s2 h => by rw [HRE.out] at h; cases h⟩
     | some st =>
      have hlo2 : rdEvent kd true (p :: ([] : List ByteArray)) s = some (s.1, s.2.1, s.2.2.1, s.2.2.2 ++ [evAt kd nn st]) := by unfold rdEvent evOf; rw [if_pos rfl]; simp only [HNP.out, hst]; rfl
      have hsm : (some st).isSome = true := rfl
      rw [hst] at HPM
      clear hst
      have HRE := am_ (show lineOf (h :: p :: ([] : List ByteArray)) s = (0, some (s.1, s.2.1, s.2.2.1, s.2.2.2 ++ [evAt kd nn st])) by rw [HLO.out, hlo2])
      go_wp2_with fail
      (try simp only [Exit.inBlock, Exit.then])
      refine ⟨rfl, ?_⟩
      (repeat apply Exists.intro)
      refine ⟨?rel, rfl⟩
      case rel => exact ⟨_, _, _, _, HPM.out, by rw [HRE.out]; rfl, fun s2 h => by rw [HRE.out] at h; exact Option.some.inj h⟩)
 have ho1 : 1 ≤ r.length := List.length_pos_iff.2 ho0
 have ho2 : 3 ≤ c2 := by have := HCC2.out; rw [List.length_cons, List.length_cons] at this; omega
 clear ho0
 have hcc : r.length + 1 + 1 ≤ _ := HCC2.out
 go_wp2_with fail
 clear hch
 refine (cloisterref26_map4.calls h kd w3 HMAP.out).mono ?_
 rintro e w4 ⟨rfl, hd⟩
 replace HPM := am_ (HPM.out.below hd.below)
 have HB4 := am_ (below_step HB3.out hd.below)
 clear hd
 have HES := am_ (ES.new w4)
 go_wp2_with (refine wpL_row rfl 52 (.tmp 20) (.tmp 85) rfl w4.heap.size (#[.int .i64 kd, .int .i64 0, .int .i64 0, .int .i64 0, .int .i64 0, .int .i64 0, .string ⟨#[]⟩, .string ⟨#[]⟩, .slice none 0 0, .int .i64 0, .int .i64 0, .slice none 0 0]) rfl rfl 52 Z52 HES.out.eb size52 rfl (by simp [Value.oneCell']) ?_; replace HES := am_ (HES.out.row (#[.int .i64 kd, .int .i64 0, .int .i64 0, .int .i64 0, .int .i64 0, .int .i64 0, .string ⟨#[]⟩, .string ⟨#[]⟩, .slice none 0 0, .int .i64 0, .int .i64 0, .slice none 0 0])); generalize World.setRow _ _ _ = wZ at HES ⊢; have hc1 := HCW.out wZ (below_step HB4.out HES.out.b) 1 p rfl)
 clear hc1
 refine (rnum_c p (HYS.out p (by simp)) wZ).mono ?_
 rintro e w5 ⟨rfl, hb5⟩
 replace HES := am_ (HES.out.below hb5)
 clear hb5
 have q10 := (blk_cell HES.out.eb 10).trans rfl
 have f10 := blk_frozen HES.out.eb 10
 go_upto_region 19 with (fail)
 replace HES := am_ (HES.out.put 10 (.int .i64 (refNum p.data.toList).1) (c' := #[.int .i64 kd, .int .i64 0, .int .i64 0, .int .i64 0, .int .i64 0, .int .i64 0, .string ⟨#[]⟩, .string ⟨#[]⟩, .slice none 0 0, .int .i64 0, .int .i64 (refNum p.data.toList).1, .slice none 0 0]) rfl)
 clear q10 f10
 cases hnp : sc.numOf p with
 | none =>
  generalize World.setCell w5 _ _ = wc at HES ⊢
  have hlo2 : rdEvent kd true (p :: r) s = none := by unfold rdEvent evOf; rw [if_pos rfl]; simp only [hnp]; rfl
  have HRE := am_ (show _ = ((261 : Int), (none : Option Stt)) from HLO.out.trans (by rw [hlo2]))
  have hsm : (none : Option Int).isSome = false := rfl
  clear hnp hlo2
  go_upto_region 21 with (fail)
  obtain ⟨e0, e1, e2, e3, e4, e5, e6, e7, e8, e9, e10, e11⟩ := c12_ HES.out.eb
  have HNV := am_ (show ∀ k_, v3.ownBlock = some k_ → ¬ w4.heap.size ≤ k_ from fun k_ e => by
   obtain ⟨cells, hc⟩ := HPM.out.rows.r3.typ _ e
   exact Nat.not_le.2 (blk_lt hc))
  have HPW := am_ (HPM.out.below HES.out.b)
  have HX := am_ (show k52o.M wc W.heap.size (fun k_ => w4.heap.size ≤ k_) ((evAt kd (refNum p.data.toList).1 []), ((none, 0) : Option Addr × Nat)) [.int .i64 kd, .int .i64 0, .int .i64 0, .int .i64 0, .int .i64 0, .int .i64 0, .string ⟨#[]⟩, .string ⟨#[]⟩, .slice none 0 0, .int .i64 0, .int .i64 (refNum p.data.toList).1, .slice none 0 0] from k52o_mkM wc W.heap.size (fun k_ => w4.heap.size ≤ k_) ((evAt kd (refNum p.data.toList).1 []), ((none, 0) : Option Addr × Nat)) (Kd.R_nil _ _ _ _ _))
  have HV := am_ (show VR wc W.heap.size ((evAt kd (refNum p.data.toList).1 []), ((none, 0) : Option Addr × Nat)) from VR.nil _ _ _ rfl)
  obtain ⟨o3, ho3⟩ := HPW.out.rows.r3
  have HO := am_ ho3
  have HCL := am_ (show (o3.length + 1) * 144 ≤ 140737488355328 from by have h1 := congrArg List.length ho3.m; rw [List.length_map] at h1; have := (cnt_le s).2.2.2; have := HP.out.cnt; have := HK4.out; omega)
  clear ho3
  go_upto_region 39 with (at_builtin; refine Kd.R_append k52o (w0 := W) W.heap.size rfl (.tmp 105) (.tmp 107) 27 52 (.agg Z52) 144 rfl Tryz.underlying27 info52 rfl (by decide) (by omega) v3 o3 ((evAt kd (refNum p.data.toList).1 []), ((none, 0) : Option Addr × Nat)) [.int .i64 kd, .int .i64 0, .int .i64 0, .int .i64 0, .int .i64 0, .int .i64 0, .string ⟨#[]⟩, .string ⟨#[]⟩, .slice none 0 0, .int .i64 0, .int .i64 (refNum p.data.toList).1, .slice none 0 0] TT_ (fun k_ => w4.heap.size ≤ k_) rfl rfl ?aP (fun k_ hk => ⟨trivial, fun e => HNV.out k_ e.symm hk⟩) ?aF ?aO ?aB ?aS ?aL ?_; (case aP => exact HX.out); (case aF => exact (fun _ _ => trivial)); (case aO => exact HO.out.r); (case aB => exact HPW.out.bW); (case aS => exact HPW.out.bW.size); (case aL => exact HCL.out); intro v9 w9 ho hb hg hat; obtain ⟨A9, n9, c9, rfl⟩ := R_sliceM ho; replace HPM := am_ (HPW.out.put3 HWE.out (HO.out.snoc hg ho HV.out) hb hg); clear ho hb hg hat)
  clear e0 e1 e2 e3 e4 e5 e6 e7 e8 e9 e10 e11 HNV HPW HX HV HO HCL HES
  go_wp2_with fail
  (try simp only [Exit.inBlock, Exit.then])
  refine ⟨rfl, ?_⟩
  (repeat apply Exists.intro)
  refine ⟨?rel, rfl⟩
  case rel => exact ⟨_, _, _, _, HPM.out, by rw [HRE.out]; rfl, fun s2 h => by rw [HRE.out] at h; cases h⟩
 | some nn =>
  rw [(refNum_eq p).2 nn hnp] at HES ⊢
  generalize World.setCell w5 _ _ = wZ2 at HES ⊢
  have hsm : (some nn).isSome = true := rfl
  have HNP := am_ hnp
  clear hnp
  go_wp2_with fail
  refine (rstrikes_c r (by intro y hy; exact HYS.out y (List.mem_cons_of_mem _ (List.mem_cons_of_mem _ hy))) (by have := HLEN.out; simp at this ⊢; try omega) _ _ wZ2 ?hC ?hc).mono ?_
  case hC => first | exact none_C _ (Nat.le_refl _) | exact part_C (HCW.out _ (below_step HB4.out HES.out.b)) (by have := HLEN.out; simp at this ⊢; try omega) 2 r (by intro j p_ hj; rw [Nat.add_comm]; exact hj) (by have := HLEN.out; simp at this ⊢; try omega)
  case hc => first | exact Nat.zero_le _ | omega
  clear hcc ho2
  rintro e w6 ⟨⟨v, rfl, hr⟩, hb6⟩
  obtain ⟨A11, n11, c11, rfl⟩ := R_sliceM hr
  have HS1 := am_ (Kd.R_lower hr (show w4.heap.size ≤ wZ2.heap.size from HES.out.b.size))
  replace HES := am_ (HES.out.below hb6)
  clear hr hb6
  have q11 := (blk_cell HES.out.eb 11).trans rfl
  have f11 := blk_frozen HES.out.eb 11
  go_upto_region 21 with (fail)
  have HS := am_ (Kd.R_set HS1.out HES.out.eb (by decide) 11 (.slice A11 n11 c11))
  replace HES := am_ (HES.out.put 11 (.slice A11 n11 c11) (c' := #[.int .i64 kd, .int .i64 0, .int .i64 0, .int .i64 0, .int .i64 0, .int .i64 0, .string ⟨#[]⟩, .string ⟨#[]⟩, .slice none 0 0, .int .i64 0, .int .i64 nn, .slice A11 n11 c11]) rfl)
  clear HS1 q11 f11
  generalize World.setCell w6 _ _ = wc at HES HS ⊢
  obtain ⟨e0, e1, e2, e3, e4, e5, e6, e7, e8, e9, e10, e11⟩ := c12_ HES.out.eb
  have HNV := am_ (show ∀ k_, v3.ownBlock = some k_ → ¬ w4.heap.size ≤ k_ from fun k_ e => by
   obtain ⟨cells, hc⟩ := HPM.out.rows.r3.typ _ e
   exact Nat.not_le.2 (blk_lt hc))
  have HPW := am_ (HPM.out.below HES.out.b)
  have HX := am_ (show k52o.M wc W.heap.size (fun k_ => w4.heap.size ≤ k_) ((evAt kd nn ((strikesOf r).getD [])), ((none, 0) : Option Addr × Nat)) [.int .i64 kd, .int .i64 0, .int .i64 0, .int .i64 0, .int .i64 0, .int .i64 0, .string ⟨#[]⟩, .string ⟨#[]⟩, .slice none 0 0, .int .i64 0, .int .i64 nn, .slice A11 n11 c11] from k52o_mkM wc W.heap.size (fun k_ => w4.heap.size ≤ k_) ((evAt kd nn ((strikesOf r).getD [])), ((none, 0) : Option Addr × Nat)) (Kd.R_lower (Kd.R_mono (Kd.R_bound HS.out) (fun k_ hk => hk.2.1)) HPM.out.bW.size))
  have HV := am_ (show VR wc W.heap.size ((evAt kd nn ((strikesOf r).getD [])), ((none, 0) : Option Addr × Nat)) from VR.nil _ _ _ rfl)
  obtain ⟨o3, ho3⟩ := HPW.out.rows.r3
  have HO := am_ ho3
  have HCL := am_ (show (o3.length + 1) * 144 ≤ 140737488355328 from by have h1 := congrArg List.length ho3.m; rw [List.length_map] at h1; have := (cnt_le s).2.2.2; have := HP.out.cnt; have := HK4.out; omega)
  clear ho3
  go_upto_region 39 with (at_builtin; refine Kd.R_append k52o (w0 := W) W.heap.size rfl (.tmp 105) (.tmp 107) 27 52 (.agg Z52) 144 rfl Tryz.underlying27 info52 rfl (by decide) (by omega) v3 o3 ((evAt kd nn ((strikesOf r).getD [])), ((none, 0) : Option Addr × Nat)) [.int .i64 kd, .int .i64 0, .int .i64 0, .int .i64 0, .int .i64 0, .int .i64 0, .string ⟨#[]⟩, .string ⟨#[]⟩, .slice none 0 0, .int .i64 0, .int .i64 nn, .slice A11 n11 c11] TT_ (fun k_ => w4.heap.size ≤ k_) rfl rfl ?aP (fun k_ hk => ⟨trivial, fun e => HNV.out k_ e.symm hk⟩) ?aF ?aO ?aB ?aS ?aL ?_; (case aP => exact HX.out); (case aF => exact (fun _ _ => trivial)); (case aO => exact HO.out.r); (case aB => exact HPW.out.bW); (case aS => exact HPW.out.bW.size); (case aL => exact HCL.out); intro v9 w9 ho hb hg hat; obtain ⟨A9, n9, c9, rfl⟩ := R_sliceM ho; replace HPM := am_ (HPW.out.put3 HWE.out (HO.out.snoc hg ho HV.out) hb hg); clear ho hb hg hat)
  clear e0 e1 e2 e3 e4 e5 e6 e7 e8 e9 e10 e11 HNV HPW HX HV HO HCL HES
  clear HS hsm
  cases hst : strikesOf r with
  | none =>
   have hlo2 : rdEvent kd true (p :: r) s = none := by unfold rdEvent evOf; rw [if_pos rfl]; simp only [HNP.out, hst]; rfl
   have HRE := am_ (show _ = ((261 : Int), (none : Option Stt)) from HLO.out.trans (by rw [hlo2]))
   have hsm : (none : Option (List (List S66))).isSome = false := rfl
   clear hst hlo2
   go_wp2_with fail
   (try simp only [Exit.inBlock, Exit.then])
   refine ⟨rfl, ?_⟩
   (repeat apply Exists.intro)
   refine ⟨?rel, rfl⟩
   case rel => exact ⟨_, _, _, _, HPM.out, by rw [HRE.out]; rfl, fun s2 h => by rw [HRE.out] at h; cases h⟩
  | some st =>
   have hlo2 : rdEvent kd true (p :: r) s = some (s.1, s.2.1, s.2.2.1, s.2.2.2 ++ [evAt kd nn st]) := by unfold rdEvent evOf; rw [if_pos rfl]; simp only [HNP.out, hst]; rfl
   have hsm : (some st).isSome = true := rfl
   rw [hst] at HPM
   clear hst
   have HRE := am_ (show lineOf (h :: p :: r) s = (0, some (s.1, s.2.1, s.2.2.1, s.2.2.2 ++ [evAt kd nn st])) by rw [HLO.out, hlo2])
   go_wp2_with fail
   (try simp only [Exit.inBlock, Exit.then])
   refine ⟨rfl, ?_⟩
   (repeat apply Exists.intro)
   refine ⟨?rel, rfl⟩
   case rel => exact ⟨_, _, _, _, HPM.out, by rw [HRE.out]; rfl, fun s2 h => by rw [HRE.out] at h; exact Option.some.inj h⟩
theorem sw_ask (t : ByteArray) (w W w1 : World) (g o c_ : Nat) (L : List ByteArray) (k : Nat) (x : ByteArray) (g2 c2 : Nat) (h : ByteArray) (tl : List ByteArray) (n : Int) (more : Bool) (s : Stt) (u3 u4 u5 u16 u17 u18 u19 u20 u36 u37 u38 u39 u40 u41 u42 u43 u44 u45 u46 u47 u48 u49 u50 u51 u52 u53 u54 u55 u56 u57 u58 u59 u60 u61 u62 u63 u64 u65 u66 u67 u68 u69 u70 u71 u72 u73 u74 u75 u76 u77 u78 u79 u80 u81 u82 u83 u84 u85 u86 u87 u88 u89 u90 u91 u92 u93 u94 u95 u96 u97 u98 u99 u100 u101 u102 u103 u104 u105 u106 u107 u108 u109 u110 u111 u112 u113 u114 u115 u116 u117 u118 u119 u120 u121 u122 u123 u124 u125 u126 u127 u128 u129 u130 u131 u132 u133 u134 u135 u136 u137 u138 u139 u140 u141 u142 u143 u144 u145 u146 u147 u148 u149 u150 u151 u152 u153 u154 u155 u156 u157 u158 u159 u160 u161 u162 u163 u164 u165 u166 u167 u168 u169 u170 u171 u172 u173 u174 u175 u176 u177 u178 u179 u180 u181 u182 u183 u184 u185 : Value) (v0 v1 v2 v3 : Value) (rd : Rd) (w2 w3 : World)
 (HWE : Aside0 (sc.Env W)) (HP : Aside0 (CN s k)) (HLEN : Aside0 ((h :: tl).length ≤ 65536))
 (HCW : Aside0 (∀ (W' : World), Below w2.heap.size w2 W' → ∀ (j : Nat) (y_ : ByteArray), (h :: tl)[j]? = some y_ → W'.cell? ⟨g2, j, none⟩ = some (.string y_)))
 (HCC2 : Aside0 ((h :: tl).length ≤ c2)) (HK4 : Aside0 (k < 4096)) (HYS : Aside0 (∀ y ∈ h :: tl, y.size ≤ 65536))
 (hl2 : (tl.length : Int) > n → more = true) (HLO : Aside0 (lineOf (h :: tl) s = match rd tl s with | none => (261, none) | some s' => (0, some s'))) (HSEL : Aside0 (selOf (h :: tl) = some (n, more, rd))) (hl1 : n ≤ (tl.length : Int))
 (HPM : Aside0 (PM W w3 w1.heap.size (.slice (some ⟨g, o, none⟩) L.length c_) v0 v1 v2 v3 L s)) (HB3 : Aside0 (Below w2.heap.size w2 w3))
 (hh : h = wAsk) (hm0 : more = false) (h2l : 2 < (h :: tl).length) (hask : askOf ((h :: tl).getD 2 ⟨#[]⟩) = some (n, false, rd)) :
 Code.wp Tryz.prog swC (SwQ t w W w1 g o c_ L k x g2 c2 h tl n more s u3 u4 u5) ({ tmps := #[.string t, undef, .pointer (some ⟨w.heap.size, 0, none⟩), u3, u4, u5, .slice (some ⟨g, o, none⟩) L.length c_, .pointer (some ⟨w1.heap.size, 0, none⟩), v3, .int .i64 (k : Int), .string x, .slice (some ⟨g2, 0, none⟩) (tl.length + 1) c2, .int .i64 (n + 1), .bool more, .bool true, .bool true, u16, u17, u18, u19, u20, .string t, .slice (some ⟨g, o, none⟩) L.length c_, .string t, .int .i64 (t.size : Int), .bool (decide ((65536 : Int) < (t.size : Int))), .bool (decide ((65536 : Int) < (t.size : Int))), .slice (some ⟨g, o, none⟩) L.length c_, .int .i64 (L.length : Int), .bool (decide ((4096 : Int) < (L.length : Int))), .bool (decide ((65536 : Int) < (t.size : Int)) || decide ((4096 : Int) < (L.length : Int))), undef, .slice (some ⟨g, o, none⟩) L.length c_, .int .i64 (L.length : Int), .int .i64 (k : Int), .bool true, u36, u37, u38, u39, u40, u41, u42, u43, u44, u45, u46, u47, u48, u49, u50, u51, u52, u53, u54, u55, u56, u57, u58, u59, u60, u61, u62, u63, u64, u65, u66, u67, u68, u69, u70, u71, u72, u73, .bool false, u75, u76, u77, u78, u79, u80, u81, u82, u83, u84, u85, u86, u87, u88, u89, u90, u91, u92, u93, u94, u95, u96, u97, u98, u99, u100, u101, u102, u103, u104, u105, u106, u107, u108, u109, u110, u111, u112, u113, u114, u115, u116, u117, u118, u119, u120, u121, u122, u123, u124, u125, u126, u127, u128, u129, u130, u131, u132, u133, u134, u135, u136, u137, u138, u139, u140, u141, u142, u143, u144, u145, u146, u147, u148, u149, u150, u151, u152, u153, u154, u155, u156, u157, u158, u159, u160, u161, u162, u163, u164, u165, u166, u167, u168, u169, u170, u171, u172, u173, u174, u175, u176, u177, u178, u179, u180, u181, u182, u183, u184, u185, undef, undef], defers := [] } : Act) w3 := by
 subst hh hm0
 have hch := HCW.out w3 HB3.out 0 _ rfl
 dsimp only [swC, pl, pr, Tryz.f23, Option.getD]
 have hl3 : ((wAsk :: tl).length : Int) = n + 1 := by
  have hne : ¬ ((tl.length : Int) > n) := fun e => Bool.false_ne_true (hl2 e)
  rw [List.length_cons]
  omega
 have HES := am_ (ES.new w3)
 obtain ⟨oo, hrd, hcall⟩ := rask_c g2 c2 (wAsk :: tl) (w3.alloc (.cells Z52 52)) (HPM.out.env.below (b1_ (Below.refl _ _) _)) (fun j y hj => HCW.out _ (b1_ HB3.out _) j y hj) HYS.out HCC2.out n rd hask hl3
 have HRD := am_ (show rd tl s = oo.map (addEv s) from hrd s)
 have HCALL := am_ hcall
 have hb2' : ¬ (tl.length : Int) + 1 < n + 1 := by omega
 have hb3' : ¬ n + 1 < (tl.length : Int) + 1 := by rw [List.length_cons] at hl3; omega
 clear hl1 hl2 hl3 h2l hask hrd hcall HSEL
 go_wp2_with fail
 clear hch hb2' hb3'
 refine HCALL.out.mono ?_
 clear HCALL
 rintro e w4 ⟨he, hb4⟩
 replace HES := am_ (HES.out.below hb4)
 cases oo with
 | none =>
  obtain rfl : e = .returned (.tuple #[.agg Z52, .bool false]) := he
  clear hb4
  have HRE := am_ (show _ = ((261 : Int), (none : Option Stt)) from HLO.out.trans (by rw [show rd tl s = none from HRD.out]))
  go_upto_region 38 with (refine wpL_row rfl 52 (.tmp 19) (.tmp 174) rfl w3.heap.size (#[.int .i64 0, .int .i64 0, .int .i64 0, .int .i64 0, .int .i64 0, .int .i64 0, .string ⟨#[]⟩, .string ⟨#[]⟩, .slice none 0 0, .int .i64 0, .int .i64 0, .slice none 0 0]) rfl rfl 52 Z52 HES.out.eb size52 rfl (by simp [Value.oneCell']) ?_; replace HES := am_ (HES.out.row (#[.int .i64 0, .int .i64 0, .int .i64 0, .int .i64 0, .int .i64 0, .int .i64 0, .string ⟨#[]⟩, .string ⟨#[]⟩, .slice none 0 0, .int .i64 0, .int .i64 0, .slice none 0 0])); generalize World.setRow _ _ _ = wc at HES ⊢)
  obtain ⟨e0, e1, e2, e3, e4, e5, e6, e7, e8, e9, e10, e11⟩ := c12_ HES.out.eb
  have HNV := am_ (show ∀ k_, v3.ownBlock = some k_ → ¬ w3.heap.size ≤ k_ from fun k_ e => by
   obtain ⟨cells, hc⟩ := HPM.out.rows.r3.typ _ e
   exact Nat.not_le.2 (blk_lt hc))
  have HPW := am_ (HPM.out.below HES.out.b)
  have HX := am_ (show k52o.M wc W.heap.size (fun k_ => w3.heap.size ≤ k_) ((⟨0, 0, z49, 0, []⟩ : S52), ((none, 0) : Option Addr × Nat)) [.int .i64 0, .int .i64 0, .int .i64 0, .int .i64 0, .int .i64 0, .int .i64 0, .string ⟨#[]⟩, .string ⟨#[]⟩, .slice none 0 0, .int .i64 0, .int .i64 0, .slice none 0 0] from k52o_mkM wc W.heap.size (fun k_ => w3.heap.size ≤ k_) ((⟨0, 0, z49, 0, []⟩ : S52), ((none, 0) : Option Addr × Nat)) (Kd.R_nil _ _ _ _ _))
  have HV := am_ (show VR wc W.heap.size ((⟨0, 0, z49, 0, []⟩ : S52), ((none, 0) : Option Addr × Nat)) from VR.nil _ _ _ rfl)
  obtain ⟨o3, ho3⟩ := HPW.out.rows.r3
  have HO := am_ ho3
  have HCL := am_ (show (o3.length + 1) * 144 ≤ 140737488355328 from by have h1 := congrArg List.length ho3.m; rw [List.length_map] at h1; have := (cnt_le s).2.2.2; have := HP.out.cnt; have := HK4.out; omega)
  clear ho3
  go_upto_region 39 with (at_builtin; refine Kd.R_append k52o (w0 := W) W.heap.size rfl (.tmp 176) (.tmp 178) 27 52 (.agg Z52) 144 rfl Tryz.underlying27 info52 rfl (by decide) (by omega) v3 o3 ((⟨0, 0, z49, 0, []⟩ : S52), ((none, 0) : Option Addr × Nat)) [.int .i64 0, .int .i64 0, .int .i64 0, .int .i64 0, .int .i64 0, .int .i64 0, .string ⟨#[]⟩, .string ⟨#[]⟩, .slice none 0 0, .int .i64 0, .int .i64 0, .slice none 0 0] TT_ (fun k_ => w3.heap.size ≤ k_) rfl rfl ?aP (fun k_ hk => ⟨trivial, fun e => HNV.out k_ e.symm hk⟩) ?aF ?aO ?aB ?aS ?aL ?_; (case aP => exact HX.out); (case aF => exact (fun _ _ => trivial)); (case aO => exact HO.out.r); (case aB => exact HPW.out.bW); (case aS => exact HPW.out.bW.size); (case aL => exact HCL.out); intro v9 w9 ho hb hg hat; obtain ⟨A9, n9, c9, rfl⟩ := R_sliceM ho; replace HPM := am_ (HPW.out.put3 HWE.out (HO.out.snoc hg ho HV.out) hb hg); clear ho hb hg hat)
  clear e0 e1 e2 e3 e4 e5 e6 e7 e8 e9 e10 e11 HNV HPW HX HV HO HCL HES
  go_wp2_with fail
  (try simp only [Exit.inBlock, Exit.then])
  refine ⟨rfl, ?_⟩
  (repeat apply Exists.intro)
  refine ⟨?rel, rfl⟩
  case rel => exact ⟨_, _, _, _, HPM.out, by rw [HRE.out]; rfl, fun s2 h => by rw [HRE.out] at h; cases h⟩
 | some x_ =>
  obtain ⟨Av, cv, rfl, hvr, h3, h4⟩ := he
  have HVR := am_ (VR0.of (base' := W.heap.size) hvr (Nat.le_trans HPM.out.bW.size (by simp)))
  obtain ⟨f0, f1, ⟨k0, ⟨l1, l2⟩, pl, key, to_, vs, lim⟩, f3, f4⟩ := x_
  obtain rfl : f3 = 0 := h3
  obtain rfl : f4 = [] := h4
  clear hb4 hvr
  obtain ⟨nv, hnv⟩ : ∃ m, vs.length = m := ⟨_, rfl⟩
  have HNVL := am_ hnv
  rw [hnv]
  clear hnv
  go_upto_region 38 with (refine wpL_row rfl 52 (.tmp 19) (.tmp 174) rfl w3.heap.size (#[.int .i64 f0, .int .i64 f1, .int .i64 k0, .int .i64 l1, .int .i64 l2, .int .i64 pl, .string key, .string to_, .slice Av nv cv, .int .i64 lim, .int .i64 0, .slice none 0 0]) rfl rfl 52 Z52 HES.out.eb size52 rfl (by simp [Value.oneCell']) ?_; replace HVR := am_ (HVR.out.row HES.out (#[.int .i64 f0, .int .i64 f1, .int .i64 k0, .int .i64 l1, .int .i64 l2, .int .i64 pl, .string key, .string to_, .slice Av nv cv, .int .i64 lim, .int .i64 0, .slice none 0 0])); replace HES := am_ (HES.out.row (#[.int .i64 f0, .int .i64 f1, .int .i64 k0, .int .i64 l1, .int .i64 l2, .int .i64 pl, .string key, .string to_, .slice Av nv cv, .int .i64 lim, .int .i64 0, .slice none 0 0])); generalize World.setRow _ _ _ = wc at HES HVR ⊢)
  have hnv := HNVL.out
  subst hnv
  clear HNVL
  obtain ⟨e0, e1, e2, e3, e4, e5, e6, e7, e8, e9, e10, e11⟩ := c12_ HES.out.eb
  have HNV := am_ (show ∀ k_, v3.ownBlock = some k_ → ¬ w3.heap.size ≤ k_ from fun k_ e => by
   obtain ⟨cells, hc⟩ := HPM.out.rows.r3.typ _ e
   exact Nat.not_le.2 (blk_lt hc))
  have HPW := am_ (HPM.out.below HES.out.b)
  have HX := am_ (show k52o.M wc W.heap.size (fun k_ => w3.heap.size ≤ k_) ((⟨f0, f1, ⟨k0, ⟨l1, l2⟩, pl, key, to_, vs, lim⟩, 0, []⟩ : S52), ((Av, cv) : Option Addr × Nat)) [.int .i64 f0, .int .i64 f1, .int .i64 k0, .int .i64 l1, .int .i64 l2, .int .i64 pl, .string key, .string to_, .slice Av vs.length cv, .int .i64 lim, .int .i64 0, .slice none 0 0] from k52o_mkM wc W.heap.size (fun k_ => w3.heap.size ≤ k_) ((⟨f0, f1, ⟨k0, ⟨l1, l2⟩, pl, key, to_, vs, lim⟩, 0, []⟩ : S52), ((Av, cv) : Option Addr × Nat)) (Kd.R_nil _ _ _ _ _))
  have HV := am_ (show VR wc W.heap.size ((⟨f0, f1, ⟨k0, ⟨l1, l2⟩, pl, key, to_, vs, lim⟩, 0, []⟩ : S52), ((Av, cv) : Option Addr × Nat)) from HVR.out)
  obtain ⟨o3, ho3⟩ := HPW.out.rows.r3
  have HO := am_ ho3
  have HCL := am_ (show (o3.length + 1) * 144 ≤ 140737488355328 from by have h1 := congrArg List.length ho3.m; rw [List.length_map] at h1; have := (cnt_le s).2.2.2; have := HP.out.cnt; have := HK4.out; omega)
  clear ho3
  go_upto_region 39 with (at_builtin; refine Kd.R_append k52o (w0 := W) W.heap.size rfl (.tmp 176) (.tmp 178) 27 52 (.agg Z52) 144 rfl Tryz.underlying27 info52 rfl (by decide) (by omega) v3 o3 ((⟨f0, f1, ⟨k0, ⟨l1, l2⟩, pl, key, to_, vs, lim⟩, 0, []⟩ : S52), ((Av, cv) : Option Addr × Nat)) [.int .i64 f0, .int .i64 f1, .int .i64 k0, .int .i64 l1, .int .i64 l2, .int .i64 pl, .string key, .string to_, .slice Av vs.length cv, .int .i64 lim, .int .i64 0, .slice none 0 0] TT_ (fun k_ => w3.heap.size ≤ k_) rfl rfl ?aP (fun k_ hk => ⟨trivial, fun e => HNV.out k_ e.symm hk⟩) ?aF ?aO ?aB ?aS ?aL ?_; (case aP => exact HX.out); (case aF => exact (fun _ _ => trivial)); (case aO => exact HO.out.r); (case aB => exact HPW.out.bW); (case aS => exact HPW.out.bW.size); (case aL => exact HCL.out); intro v9 w9 ho hb hg hat; obtain ⟨A9, n9, c9, rfl⟩ := R_sliceM ho; replace HPM := am_ (HPW.out.put3 HWE.out (HO.out.snoc hg ho HV.out) hb hg); clear ho hb hg hat)
  clear e0 e1 e2 e3 e4 e5 e6 e7 e8 e9 e10 e11 HNV HPW HX HV HO HCL HES
  clear HVR
  have HRE := am_ (show lineOf (wAsk :: tl) s = (0, some (s.1, s.2.1, s.2.2.1, s.2.2.2 ++ [(⟨f0, f1, ⟨k0, ⟨l1, l2⟩, pl, key, to_, vs, lim⟩, 0, []⟩ : S52)])) by rw [HLO.out, show rd tl s = some (addEv s _) from HRD.out]; rfl)
  go_wp2_with fail
  (try simp only [Exit.inBlock, Exit.then])
  refine ⟨rfl, ?_⟩
  (repeat apply Exists.intro)
  refine ⟨?rel, rfl⟩
  case rel => exact ⟨_, _, _, _, HPM.out, by rw [HRE.out]; rfl, fun s2 h => by rw [HRE.out] at h; exact Option.some.inj h⟩
end Go.Proofs.YtndbbgihpoiojaaGreatDoor.Q
namespace Go.Proofs.YtndbbgihpoiojaaGreatDoor.Q
open Go.RowKit Go.Proofs.YtndbbgihpoiojaaGreatDoorW.PrintWords Go.Proofs.YtndbbgihpoiojaaGreatDoorW.PrintLast
open Go.Proofs.YtndbbgihpoiojaaGreatDoor.it
open Go.Proofs.YtndbbgihpoiojaaGreatDoor.it
theorem rparse_main (t : ByteArray) (w : World) (hE : sc.Env w) (ht : t.size ≤ 65536) (hn : (linesT t).length ≤ 4096) : Calls Tryz.prog 23 #[.string t] w fun e w' => ParseOut w w' (parseL 0 (linesT t) S0_) e := by
 have HT := am_ ht
 have HE := am_ hE
 have HR0 := am_ (fun W => cloisterref26_Lines.calls (t.size + 1) t _ W (rlines_f t (by omega)))
 have HSZ := am_ (fun x hx => Nat.le_trans (linesT_size t x hx) ht)
 clear hE
 generalize linesT t = L at *
 go_enter Tryz.func23, Tryz.ntmps23
 go_wp2_with fail
 obtain ⟨W, hW⟩ : ∃ W, w.alloc (.cells nil3 26) = W := ⟨_, rfl⟩
 have hWx := wld.alloc_same w (.cells nil3 26)
 have hWb := b1_ (Below.refl w.heap.size w) (.cells nil3 26)
 have hWs : W.heap.size = w.heap.size + 1 := by rw [← hW]; simp
 rw [hW] at hWx hWb ⊢
 have HWX := am_ hWx
 have HWB := am_ hWb
 have HWS0 := am_ hWs
 have HWE := am_ (HE.out.below hWb)
 clear hWx hWb hWs hW
 refine (HR0.out W).mono ?_
 rintro e w1 ⟨v, rfl, hr, hb⟩
 obtain ⟨A, c_, rfl, hc⟩ := Kd.R_reads hr
 have HB := am_ hb
 have HR := am_ hr
 have hL1 : ¬ L.length > 4096 := by omega
 have hT1 : ¬ t.size > 65536 := by omega
 clear hb hr hc HR0
 go_upto_region 4 with (fail)
 clear hL1 hT1
 go_wp2_with fail
 have HREL0 := am_ (show PR2 W (w1.alloc (.cells nil3 26)) w1.heap.size (.slice A L.length c_) (.slice none 0 0) (.slice none 0 0) (.slice none 0 0) (.slice none 0 0) L 0 S0_ from ⟨Nat.zero_le _, wld.alloc_same _ _, HB.out.size, ⟨Kd.R_below HR.out (b1_ (Below.refl _ _) _), Kd.R_nil _ _ _ _ _, Kd.R_nil _ _ _ _ _, Kd.R_nil _ _ _ _ _, EvR.nil _ _⟩, rfl, Nat.le_refl _, b1_ HB.out _, HWE.out.below (b1_ HB.out _)⟩)
 go_loopw [8, 34] (fun vv i wr => ∃ (k : Nat) (v0 v1 v2 v3 : Value) (s : Stt), v3 = vv ∧ i = .int .i64 k ∧ PR2 W wr w1.heap.size (.slice A L.length c_) v0 v1 v2 v3 L k s) (fun _ i _ => L.length - (intOf i).toNat)
 case atStart => exact ⟨0, _, _, _, _, _, rfl, rfl, HREL0.out⟩
 case round =>
  clear HREL0
  obtain ⟨k, v0, v1, v2, v3, s, rfl, rfl, hP⟩ := hrel
  have HP := am_ hP
  have hkl := hP.hk
  clear hP
  by_cases hlt : k < L.length
  · obtain ⟨x, hx⟩ : ∃ x, L[k]? = some x := ⟨L[k], List.getElem?_eq_getElem hlt⟩
    have hxm := List.mem_of_getElem? hx
    have hxs := HSZ.out x hxm
    obtain ⟨A', c', hA', hc', hC'⟩ := Kd.R_reads HP.out.rows.l
    injection hA' with e1 e3 e2
    subst e1 e2
    clear e3
    obtain ⟨g, o, hA, hg, hcell⟩ := strings_at hC' (by intro e; rw [e] at hlt; simp at hlt)
    subst hA
    have hcx := hcell k x hx
    have hdrop : L.drop k = x :: L.drop (k + 1) := by
     obtain ⟨h1, rfl⟩ := List.getElem?_eq_some_iff.1 hx
     exact List.drop_eq_getElem_cons h1
    have HD := am_ hdrop
    have HW := am_ (cloisterref26_Words.calls (2 * x.size + 3) x _ wr (rwords_f x (by omega)))
    have HXS := am_ hxs
    have HN := am_ hn
    clear hcell hxm hdrop hxs hx hn ht hc' hC' hg
    go_wp2_with fail
    refine HW.out.mono ?_
    rintro e w2 ⟨v, rfl, hr2, hb2⟩
    have HB2 := am_ hb2
    have HR2 := am_ hr2
    clear hb2 hr2 HW hcx
    have HLEN := am_ (Nat.le_trans (words_len x) HXS.out)
    have HWS := am_ (fun y hy => words_size x y hy)
    have HPL := am_ (show parseL k (x :: L.drop (k + 1)) s = if skips (wordsS x) then parseL (k + 1) (L.drop (k + 1)) s else match lineOf (wordsS x) s with
     | (_, some s') => parseL (k + 1) (L.drop (k + 1)) s'
     | (c, none) => (((k : Int) + 1, c), none) from rfl)
    generalize wordsS x = ws at *
    have HPM := am_ (show PM W w2 w1.heap.size (.slice (some ⟨g, o, none⟩) L.length c_) v0 v1 v2 v3 L s from PM.below ⟨HP.out.cbk, HP.out.ge, HP.out.rows, HP.out.bW, HP.out.env⟩ HB2.out)
    have HFS := am_ (fun (hsk : skips ws = true) => (⟨hlt, HPM.out.cbk, HPM.out.ge, HPM.out.rows, by rw [HP.out.rest, HD.out, HPL.out, hsk, if_pos rfl], Nat.le_succ_of_le HP.out.cnt, HPM.out.bW, HPM.out.env⟩ : PR2 W w2 w1.heap.size (.slice (some ⟨g, o, none⟩) L.length c_) v0 v1 v2 v3 L (k + 1) s))
    cases ws with
    | nil =>
     obtain ⟨A2, c2, rfl⟩ := Kd.R_slice HR2.out
     go_wp2_with fail
     go_roundw
     case rel => first | exact ⟨k + 1, _, _, _, _, _, rfl, by go_num, HFS.out rfl⟩ | ((repeat apply Exists.intro); exact ⟨⟨k + 1, _, _, _, _, _, rfl, by go_num, HFS.out rfl⟩, rfl⟩)
     case measure => simp [intOf]; omega
    | cons h tl =>
     obtain ⟨g2, c2, rfl⟩ := ownsRow_succ (Kd.own_of_R HR2.out)
     obtain ⟨A2, c2', hA2, hcc2, hC2⟩ := Kd.R_reads HR2.out
     injection hA2 with e1 e3 e2
     subst e1 e2
     clear e3
     have hh1 := (HWS.out h (List.mem_cons_self ..)).2
     obtain ⟨gg, oo, hAA, hgg, hcell2⟩ := strings_at hC2 (by simp)
     cases hAA
     have HCW := am_ (fun (W' : World) (hb : Below w2.heap.size w2 W') (j : Nat) (y_ : ByteArray) (hj : (h :: tl)[j]? = some y_) => (keep_ hb (by have := hcell2 j y_ hj; rwa [Nat.zero_add] at this) : W'.cell? ⟨g2, j, none⟩ = some (.string y_)))
     have hch := HCW.out w2 (Below.refl _ _) 0 h rfl
     have HC2 := am_ hC2
     have HCC2 := am_ hcc2
     clear hcell2 hC2 hcc2 hgg
     have hh2 : 0 < h.size := hh1
     have hsk := skips_eq h tl hh2
     have HSK := am_ hsk
     clear hsk
     by_cases hq : ((h[0].toNat : Int) == 35) = true
     · have HQ := am_ (hsk_of HSK.out hq)
       go_wp2_with fail
       go_roundw
       case rel => first | exact ⟨k + 1, _, _, _, _, _, rfl, by go_num, HFS.out HQ.out⟩ | ((repeat apply Exists.intro); exact ⟨⟨k + 1, _, _, _, _, _, rfl, by go_num, HFS.out HQ.out⟩, rfl⟩)
       case measure => simp [intOf]; omega
     have hq' : ((h[0].toNat : Int) == 35) = false := by simpa using hq
     have HQ := am_ (hsk_of HSK.out hq')
     clear hq
     have hcnt : k < 4096 := Nat.lt_of_lt_of_le hlt HN.out
     have HK4 := am_ hcnt
     have HTL := am_ (show tl.length ≤ 65536 by have := HLEN.out; rw [List.length_cons] at this; omega)
     have HYS := am_ (fun y hy => (Nat.le_trans (HWS.out y hy).1 HXS.out : y.size ≤ 65536))
     clear HFS HSK hcnt
     go_upto_region 11 with (fail)
     clear hq' hch
     rcases lk6 h tl s with ⟨n, more, is_, hc, hb, hlo⟩ | ⟨n, more, rd, hsel, hc, hl1, hl2, hlo⟩
     · have HCT := am_ (show cloisterref26_count.f 12 (h :: tl) = some (n, more, is_) by rw [rcount_f h tl 12 (Nat.le_refl _) (by have := HTL.out; omega), hc])
       have HBC := am_ hb
       have HLO := am_ hlo
       clear hc hb hlo
       go_wp2_with fail
       refine (cloisterref26_count.calls 12 (some ⟨g2, 0, none⟩) c2 (h :: tl) n more is_ w2 HC2.out HCC2.out HCT.out).mono ?_
       rintro e w3 ⟨rfl, hb3⟩
       replace HPM := am_ (HPM.out.below hb3)
       clear hb3
       have HRES := am_ (show parseL 0 L S0_ = (((k : Int) + 1, 260), none) by rw [HP.out.rest, HD.out, HPL.out, HQ.out, if_neg (by decide), HLO.out])
       rcases HBC.out with hb | ⟨hb, hb2⟩ | ⟨hb, hb2, hb3, hb4⟩
       · subst hb
         have hrb := (HPM.out.bW.block w.heap.size (by have := HWS0.out; omega)).trans HWX.out
         have HBF := am_ (HWB.out.trans (HPM.out.bW.mono HWB.out.size))
         have hr0 := wld.cell_of (o := 0) (v := .slice none 0 0) hrb rfl
         have hr1 := wld.cell_of (o := 1) (v := .slice none 0 0) hrb rfl
         have hr2 := wld.cell_of (o := 2) (v := .slice none 0 0) hrb rfl
         have hf0 := wld.free_of (o := 0) hrb
         have hf1 := wld.free_of (o := 1) hrb
         have hf2 := wld.free_of (o := 2) hrb
         clear hrb
         go_wp2_with fail
         (try rw [Exit.noGoto_ret])
         refine bodyPost_ret (v := .tuple #[.agg nil3, .slice none 0 0, .int .i64 ((k : Int) + 1), .int .i64 260]) (by simp [results, Tryz.results23, go_sem, hr0, hr1, hr2]) rfl ?_
         rw [HRES.out]
         exact ⟨_, _, _, _, rfl, ⟨_, Nat.le_refl _, Rows4.nil _ _⟩, below3 HBF.out (Nat.le_refl _) _ _ _⟩
       · subst hb
         have hb2' : (tl.length : Int) + 1 < n := by rw [List.length_cons] at hb2; omega
         have hrb := (HPM.out.bW.block w.heap.size (by have := HWS0.out; omega)).trans HWX.out
         have HBF := am_ (HWB.out.trans (HPM.out.bW.mono HWB.out.size))
         have hr0 := wld.cell_of (o := 0) (v := .slice none 0 0) hrb rfl
         have hr1 := wld.cell_of (o := 1) (v := .slice none 0 0) hrb rfl
         have hr2 := wld.cell_of (o := 2) (v := .slice none 0 0) hrb rfl
         have hf0 := wld.free_of (o := 0) hrb
         have hf1 := wld.free_of (o := 1) hrb
         have hf2 := wld.free_of (o := 2) hrb
         clear hrb
         go_wp2_with fail
         (try rw [Exit.noGoto_ret])
         refine bodyPost_ret (v := .tuple #[.agg nil3, .slice none 0 0, .int .i64 ((k : Int) + 1), .int .i64 260]) (by simp [results, Tryz.results23, go_sem, hr0, hr1, hr2]) rfl ?_
         rw [HRES.out]
         exact ⟨_, _, _, _, rfl, ⟨_, Nat.le_refl _, Rows4.nil _ _⟩, below3 HBF.out (Nat.le_refl _) _ _ _⟩
       subst hb hb4
       have hb2' : ¬ (tl.length : Int) + 1 < n := by rw [List.length_cons] at hb2; omega
       have hb3' : n < (tl.length : Int) + 1 := by rw [List.length_cons] at hb3; omega
       have hrb := (HPM.out.bW.block w.heap.size (by have := HWS0.out; omega)).trans HWX.out
       have HBF := am_ (HWB.out.trans (HPM.out.bW.mono HWB.out.size))
       have hr0 := wld.cell_of (o := 0) (v := .slice none 0 0) hrb rfl
       have hr1 := wld.cell_of (o := 1) (v := .slice none 0 0) hrb rfl
       have hr2 := wld.cell_of (o := 2) (v := .slice none 0 0) hrb rfl
       have hf0 := wld.free_of (o := 0) hrb
       have hf1 := wld.free_of (o := 1) hrb
       have hf2 := wld.free_of (o := 2) hrb
       clear hrb
       go_wp2_with fail
       (try rw [Exit.noGoto_ret])
       refine bodyPost_ret (v := .tuple #[.agg nil3, .slice none 0 0, .int .i64 ((k : Int) + 1), .int .i64 260]) (by simp [results, Tryz.results23, go_sem, hr0, hr1, hr2]) rfl ?_
       rw [HRES.out]
       exact ⟨_, _, _, _, rfl, ⟨_, Nat.le_refl _, Rows4.nil _ _⟩, below3 HBF.out (Nat.le_refl _) _ _ _⟩
     have HCT := am_ (show cloisterref26_count.f 12 (h :: tl) = some (n + 1, more, true) by rw [rcount_f h tl 12 (Nat.le_refl _) (by have := HTL.out; omega), hc])
     have HLO := am_ hlo
     have HSEL := am_ hsel
     clear hc hlo hsel
     go_wp2_with fail
     refine (cloisterref26_count.calls 12 (some ⟨g2, 0, none⟩) c2 (h :: tl) (n + 1) more true w2 HC2.out HCC2.out HCT.out).mono ?_
     rintro e w3 ⟨rfl, hb3⟩
     replace HPM := am_ (HPM.out.below hb3)
     have HB3 := am_ hb3
     clear hb3 HCT
     go_upto_region 12 with (fail)
     go_cut [74] from 36 to 185 (fun s74 wc => s74 = .bool false ∧ wc = w3)
     case first =>
      have h12 : ¬ (tl.length : Int) + 1 < n + 1 := by omega
      by_cases hgt : (tl.length : Int) + 1 > n + 1
      · obtain rfl : more = true := hl2 (by omega)
        go_wp2_with fail
        go_meet
        case rel => exact ⟨rfl, rfl⟩
      go_wp2_with fail
      go_meet
      case rel => exact ⟨rfl, rfl⟩
     case rest =>
      obtain ⟨rfl, rfl⟩ := hcut
      have hch := HCW.out wc HB3.out 0 h rfl
      go_upto_region 14 with (fail)
      iterate 8 go_step
      go_cut [8, 15] from 36 to 185 (fun s8 s15 wd => MR W wd w1.heap.size (.slice (some ⟨g, o, none⟩) L.length c_) s8 s15 L (lineOf (h :: tl) s))
      case first J_ K_ hJ_ hK_ =>
       have hcn : Aside0 (CN s k) := am_ ⟨HP.out.cnt⟩
       have HSC := am_ (sel_cases HSEL.out)
       refine wp_mono (Q := SwQ t w W w1 g o c_ L k x g2 c2 h tl n more s u3 u4 u5) ?_ ?_
       · rcases HSC.out with ⟨hh, hn0, hm0, hr0⟩ | ⟨hh, hn0, hm0, hr0⟩ | ⟨hh, hn0, hm0, hr0⟩ | ⟨hh, hn0, hm0, hr0⟩ | ⟨hh, hn0, hm0, hr0⟩ | ⟨hh, hn0, hm0, hr0⟩ | ⟨hh, hn0, hm0, hr0⟩ | ⟨hh, h2l, hm0, hask⟩
         · apply sw_label (rd := rd) (w2 := w2) <;> assumption
         · apply sw_account (rd := rd) (w2 := w2) <;> assumption
         · apply sw_session (rd := rd) (w2 := w2) <;> assumption
         · subst hh; apply sw_plain (rd := rd) (w2 := w2) (kd := 2) <;> first | assumption | exact map4_2 | kernel_rfl | (simp (decide := true) only [tsl])
         · subst hh; apply sw_placed (rd := rd) (w2 := w2) (kd := 3) <;> first | assumption | exact map4_3 | kernel_rfl | (simp (decide := true) only [tsl])
         · subst hh; apply sw_placed (rd := rd) (w2 := w2) (kd := 4) <;> first | assumption | exact map4_4 | kernel_rfl | (simp (decide := true) only [tsl])
         · subst hh; apply sw_plain (rd := rd) (w2 := w2) (kd := 5) <;> first | assumption | exact map4_5 | kernel_rfl | (simp (decide := true) only [tsl])
         apply sw_ask (rd := rd) (w2 := w2) <;> assumption
       rintro e a' w' ⟨rfl, hq⟩
       exact hK_ _ _ (Met.intro (hJ_ _ _ hq))
      case rest =>
       rename_i wd
       clear hch
       obtain ⟨a8, b8, c8, s', hPM, rfl, hS⟩ := hcut
       replace HPM := am_ hPM
       have HS_ := am_ hS
       clear hPM hS hl1 hl2 HSEL
       rcases lineOf_cases (h :: tl) s with ⟨s2, hlo, hc2⟩ | hlo | hlo
       · have hss := HS_.out s2 (by rw [hlo])
         subst hss
         rw [hlo]
         have HLO2 := am_ hlo
         have HC2_ := am_ hc2
         clear hlo hc2 HS_
         have HFIN := am_ (⟨hlt, HPM.out.cbk, HPM.out.ge, HPM.out.rows, by rw [HP.out.rest, HD.out, HPL.out, HQ.out, if_neg (by decide), HLO2.out], by rw [HC2_.out]; exact Nat.succ_le_succ HP.out.cnt, HPM.out.bW, HPM.out.env⟩ : PR2 W wc w1.heap.size (.slice (some ⟨g, o, none⟩) L.length c_) a8 b8 c8 _ L (k + 1) s')
         go_wp2_with fail
         go_roundw
         case rel => first | exact ⟨k + 1, _, _, _, _, _, rfl, by go_num, HFIN.out⟩ | ((repeat apply Exists.intro); exact ⟨⟨k + 1, _, _, _, _, _, rfl, by go_num, HFIN.out⟩, rfl⟩)
         case measure => simp [intOf]; omega
       · rw [hlo]
         have HLO3 := am_ hlo
         clear hlo HS_
         exfalso
         have h9 := HLO3.out.symm.trans HLO.out
         cases hrd : rd tl s <;> rw [hrd] at h9 <;> simp at h9
       rw [hlo]
       have HLO3 := am_ hlo
       clear hlo HS_
       have HRES := am_ (show parseL 0 L S0_ = (((k : Int) + 1, 261), none) by rw [HP.out.rest, HD.out, HPL.out, HQ.out, if_neg (by decide), HLO3.out])
       have hrb := (HPM.out.bW.block w.heap.size (by have := HWS0.out; omega)).trans HWX.out
       have HBF := am_ (HWB.out.trans (HPM.out.bW.mono HWB.out.size))
       have hr0 := wld.cell_of (o := 0) (v := .slice none 0 0) hrb rfl
       have hr1 := wld.cell_of (o := 1) (v := .slice none 0 0) hrb rfl
       have hr2 := wld.cell_of (o := 2) (v := .slice none 0 0) hrb rfl
       have hf0 := wld.free_of (o := 0) hrb
       have hf1 := wld.free_of (o := 1) hrb
       have hf2 := wld.free_of (o := 2) hrb
       clear hrb
       go_wp2_with fail
       (try rw [Exit.noGoto_ret])
       refine bodyPost_ret (v := .tuple #[.agg nil3, .slice none 0 0, .int .i64 ((k : Int) + 1), .int .i64 261]) (by simp [results, Tryz.results23, go_sem, hr0, hr1, hr2]) rfl ?_
       rw [HRES.out]
       exact ⟨_, _, _, _, rfl, ⟨_, Nat.le_refl _, Rows4.nil _ _⟩, below3 HBF.out (Nat.le_refl _) _ _ _⟩
  have hkL : k = L.length := by omega
  subst hkL
  have hrb := (HP.out.bW.block w.heap.size (by have := HWS0.out; omega)).trans HWX.out
  have HBF := am_ (HWB.out.trans (HP.out.bW.mono HWB.out.size))
  have HRES := am_ (show parseL 0 L S0_ = ((0, 0), some s) by rw [HP.out.rest, List.drop_length]; rfl)
  obtain ⟨A0, n0, c0, rfl⟩ := R_sliceM HP.out.rows.r0
  obtain ⟨A1, n1, c1, rfl⟩ := R_sliceM HP.out.rows.r1
  obtain ⟨A2, n2, c2, rfl⟩ := R_sliceM HP.out.rows.r2
  obtain ⟨o3, ho3⟩ := HP.out.rows.r3
  obtain ⟨A3, n3, c3, rfl⟩ := R_sliceM ho3.r
  have hr0 := wld.cell_of (o := 0) (v := .slice none 0 0) hrb rfl
  have hr1 := wld.cell_of (o := 1) (v := .slice none 0 0) hrb rfl
  have hr2 := wld.cell_of (o := 2) (v := .slice none 0 0) hrb rfl
  have hf0 := wld.free_of (o := 0) hrb
  have hf1 := wld.free_of (o := 1) hrb
  have hf2 := wld.free_of (o := 2) hrb
  have hd0 := wld.cell_of (o := 0) HP.out.cbk rfl
  have hd1 := wld.cell_of (o := 1) HP.out.cbk rfl
  have hd2 := wld.cell_of (o := 2) HP.out.cbk rfl
  have HNE := am_ (show w1.heap.size ≠ w.heap.size by have := HWS0.out; have := HB.out.size; omega)
  have HRB := am_ hrb
  clear ho3 hrb hlt hkl
  have hkk : ¬ ((L.length : Int) < L.length) := by omega
  go_wp2_with fail
  (try rw [Exit.noGoto_ret])
  refine bodyPost_ret (v := .tuple #[.agg #[.slice A0 n0 c0, .slice A1 n1 c1, .slice A2 n2 c2], .slice A3 n3 c3, .int .i64 0, .int .i64 0]) (by simp [results, Tryz.results23, go_sem, hr0, hr1, hr2]) rfl ?_
  rw [HRES.out]
  have hr5 := HP.out.rows.keep HRB.out other26' (keep3 wr w.heap.size (.slice A0 n0 c0) (.slice A1 n1 c1) (.slice A2 n2 c2))
  exact ⟨_, _, _, _, rfl, ⟨W.heap.size, by have := HWS0.out; omega, ⟨hr5.r0, hr5.r1, hr5.r2, hr5.r3⟩⟩, below3 HBF.out (Nat.le_refl _) _ _ _⟩
end Go.Proofs.YtndbbgihpoiojaaGreatDoor.Q
namespace Go.Proofs.YtndbbgihpoiojaaGreatDoor.Q
open Go.RowKit Go.Proofs.YtndbbgihpoiojaaGreatDoorW.PrintWords Go.Proofs.YtndbbgihpoiojaaGreatDoorW.PrintLast Go.Proofs.YtndbbgihpoiojaaGreatDoorW.PrintMore
attribute [local go_sem] max2_int min2_int max_two min_two max_three min_three max_four min_four   -- for this text's walks alone
def tell_T1 : Bool × List (List Nat × List Nat) := (true, [([], []), ([0], [0]), ([1], [1]), ([], []), ([3], [3]), ([4, 2], [4]), ([], []), ([6], [6]), ([7, 5], [7]), ([2, 5, 8], [2, 5, 8]), ([9, 8, 0, 1, 2, 3, 4, 5, 6, 7, 8, 9], [9])])
def tell_B1 : List Nat := [0, 1, 3, 0, 8, 31, 0, 64, 255, 511, 1023]
theorem tell_tab1 : rtab .any (opsOf Tryz.f18 1) = tell_T1 := by kernel_rfl
theorem tell_bits1 : waitsOk tell_T1.2 tell_B1 = true := by kernel_rfl
theorem tell_fx (w : World) (hE : sc.Env w) :
 Calls Tryz.prog 18 #[.agg #[.int .i64 3, .int .i64 0, .int .i64 0, .int .i64 0, .int .i64 0, .bool false, .slice none 0 0, .slice none 0 0, .bool true, .int .i64 0]] w fun e w' => e = .returned (.string ⟨#[115, 108, 111, 116, 32, 51, 32, 115, 101, 115, 115, 105, 111, 110, 32, 48, 32, 99, 111, 100, 101, 32, 48, 32, 109, 111, 114, 101]⟩) ∧ Below w.heap.size w w' := by
 have hu41 := Tryz.underlying41
 have hu37 := Tryz.underlying37
 have hu62 := Tryz.underlying62
 have HE := am_ hE
 clear hE
 have HB := am_ (Below.refl w.heap.size w)
 have A2 := am_ (show script_number.f 3 = some ⟨#[51]⟩ by kernel_rfl)
 have A3 := am_ (show script_number.f 0 = some ⟨#[48]⟩ by kernel_rfl)
 have A4 := am_ (show script_number.f 0 = some ⟨#[48]⟩ by kernel_rfl)
 obtain ⟨y148, hy148⟩ : ∃ y_ : List ByteArray, y_ = (([(⟨#[115, 108, 111, 116]⟩ : ByteArray), (⟨#[51]⟩ : ByteArray), (⟨#[115, 101, 115, 115, 105, 111, 110]⟩ : ByteArray), (⟨#[48]⟩ : ByteArray), (⟨#[99, 111, 100, 101]⟩ : ByteArray), (⟨#[48]⟩ : ByteArray)] : List ByteArray)) := ⟨_, rfl⟩
 have Ny148 := am_ hy148
 clear hy148
 go_enter Tryz.func18, Tryz.ntmps18
 try go_wp2_with (first | ((with_reducible refine gate_dst (N := 1) rfl ?_); refine box_event ?hg (N := 1) ?hd (cs := #[.int .i64 3, .int .i64 0, .int .i64 0, .int .i64 0, .int .i64 0, .bool false, .slice none 0 0, .slice none 0 0, .bool true, .int .i64 0]) (t := 41) ?hr ?_; (case hd => rfl); (case hg => rfl); (case hr => first | (go_simp; done) | (go_simp; rfl)); intro gb144 hg w6 hbox hb; have BK144 := am_ (hbox); have GW144 := am_ ((by rw [hg]; exact (below_size (cb_ HB)) : w.heap.size ≤ gb144)); have GE144 := am_ ((by rw [hg]; exact (below_size (cb_ HB)) : w.heap.size ≤ gb144)); replace HB := am_ (below_step (cb_ HB) hb); clear hb hbox hg))
 replace BK144 := am_ (d2_ BK144.out)
 replace HB := am_ (b3_ HB.out)
 refine start_ (n := 11) (S := fun w' => w'.cell? ⟨gb144, 0, none⟩ = some (.int .i64 3) ∧ w'.cell? ⟨gb144, 1, none⟩ = some (.int .i64 0) ∧ w'.cell? ⟨gb144, 2, none⟩ = some (.int .i64 0) ∧ w'.cell? ⟨gb144, 3, none⟩ = some (.int .i64 0) ∧ w'.cell? ⟨gb144, 4, none⟩ = some (.int .i64 0) ∧ w'.cell? ⟨gb144, 5, none⟩ = some (.bool false) ∧ w'.cell? ⟨gb144, 6, none⟩ = some (.slice none 0 0) ∧ w'.cell? ⟨gb144, 7, none⟩ = some (.slice none 0 0) ∧ w'.cell? ⟨gb144, 8, none⟩ = some (.bool true) ∧ w'.cell? ⟨gb144, 9, none⟩ = some (.int .i64 0)) (ds := []) (bs_ 11 0) (by kernel_rfl) rfl rfl (c10_ BK144.out) (fun hHeld => ?_); refine with_tabW tell_tab1 tell_bits1 (fun HT_ HW_ => ?_)
 generalize w6.drew = w7 at BK144 HB hHeld ⊢
 refine pB_ HT_ 0 6 (bs_ 11 1) ?_
 refine pB_ HT_ 3 9 (bs_ 11 9) ?_
 refine pB_ HT_ 6 12 (bs_ 11 73) ?_
 refine tB_ HT_ HW_ hHeld 1 7 (bs_ 11 75) ?_
 refine tB_ HT_ HW_ hHeld 4 10 (bs_ 11 91) ?_
 refine tB_ HT_ HW_ hHeld 7 13 (bs_ 11 219) ?_
 refine oB_ HT_ 2 8 (bs_ 11 223) (fun K hK => ?_)
 refine goes_ Tryz.func33 (by kernel_rfl) rfl #[.int .i64 3] (by rfl) rfl rfl ha_ ?_
 with_reducible refine (script_number.calls 3 (⟨#[51]⟩ : ByteArray) _ ?side1 A2.out).mono ?_
 (case side1 => exact sc.Env.below HE.out (cb_ HB))
 rintro e w8 ⟨rfl, hb⟩
 refine ⟨_, rfl, ?_⟩
 replace BK144 := am_ (blk_below (cd_ BK144) hb)
 replace HB := am_ (below_step (cb_ HB) hb)
 (try clear hb)
 (try clear hk)
 refine hK.out _ _ (c10_ BK144.out) (fun hHeld => ?_)
 clear hK K
 refine nA_ ?_
 refine oB_ HT_ 5 11 (bs_ 11 255) (fun K hK => ?_)
 refine goes_ Tryz.func33 (by kernel_rfl) rfl #[.int .i64 0] (by rfl) rfl rfl ha_ ?_
 with_reducible refine (script_number.calls 0 (⟨#[48]⟩ : ByteArray) _ ?side1 A3.out).mono ?_
 (case side1 => exact sc.Env.below HE.out (cb_ HB))
 rintro e w9 ⟨rfl, hb⟩
 refine ⟨_, rfl, ?_⟩
 replace BK144 := am_ (blk_below (cd_ BK144) hb)
 replace HB := am_ (below_step (cb_ HB) hb)
 (try clear hb)
 (try clear hk)
 refine hK.out _ _ (c10_ BK144.out) (fun hHeld => ?_)
 clear hK K
 refine nA_ ?_
 refine oB_ HT_ 8 14 (bs_ 11 511) (fun K hK => ?_)
 refine goes_ Tryz.func33 (by kernel_rfl) rfl #[.int .i64 0] (by rfl) rfl rfl ha_ ?_
 with_reducible refine (script_number.calls 0 (⟨#[48]⟩ : ByteArray) _ ?side1 A4.out).mono ?_
 (case side1 => exact sc.Env.below HE.out (cb_ HB))
 rintro e w10 ⟨rfl, hb⟩
 refine ⟨_, rfl, ?_⟩
 replace BK144 := am_ (blk_below (cd_ BK144) hb)
 replace HB := am_ (below_step (cb_ HB) hb)
 (try clear hb)
 (try clear hk)
 refine hK.out _ _ (c10_ BK144.out) (fun hHeld => ?_)
 clear hK K
 refine nA_ ?_
 refine oB_ HT_ 9 15 (bs_ 11 1023) (fun K hK => ?_)
 refine Kd.R_lit_step Kd.string _ 9 ?hg (N := 15) ?hd (xs := ([(⟨#[115, 108, 111, 116]⟩ : ByteArray), (⟨#[51]⟩ : ByteArray), (⟨#[115, 101, 115, 115, 105, 111, 110]⟩ : ByteArray), (⟨#[48]⟩ : ByteArray), (⟨#[99, 111, 100, 101]⟩ : ByteArray), (⟨#[48]⟩ : ByteArray)] : List ByteArray)) (inner := [.string (⟨#[115, 108, 111, 116]⟩ : ByteArray), .string (⟨#[51]⟩ : ByteArray), .string (⟨#[115, 101, 115, 115, 105, 111, 110]⟩ : ByteArray), .string (⟨#[48]⟩ : ByteArray), .string (⟨#[99, 111, 100, 101]⟩ : ByteArray), .string (⟨#[48]⟩ : ByteArray)]) (ok := fun _ => True) (okp := fun _ => True) ?hr ?hp (fun _ hk => hk) trivial (Below.refl _ _) (Nat.le_refl _) (by simp) ?_; (case hd => rfl); (case hg => rfl); (case hr => first | (go_simp; done) | (go_simp; rfl)); (case hp => exact (Reps.one (show Kd.M Kd.string _ _ _ (⟨#[115, 108, 111, 116]⟩ : ByteArray) [.string (⟨#[115, 108, 111, 116]⟩ : ByteArray)] from rfl) (Reps.one (show Kd.M Kd.string _ _ _ (⟨#[51]⟩ : ByteArray) [.string (⟨#[51]⟩ : ByteArray)] from rfl) (Reps.one (show Kd.M Kd.string _ _ _ (⟨#[115, 101, 115, 115, 105, 111, 110]⟩ : ByteArray) [.string (⟨#[115, 101, 115, 115, 105, 111, 110]⟩ : ByteArray)] from rfl) (Reps.one (show Kd.M Kd.string _ _ _ (⟨#[48]⟩ : ByteArray) [.string (⟨#[48]⟩ : ByteArray)] from rfl) (Reps.one (show Kd.M Kd.string _ _ _ (⟨#[99, 111, 100, 101]⟩ : ByteArray) [.string (⟨#[99, 111, 100, 101]⟩ : ByteArray)] from rfl) (Reps.one (show Kd.M Kd.string _ _ _ (⟨#[48]⟩ : ByteArray) [.string (⟨#[48]⟩ : ByteArray)] from rfl) (Reps.none _ _))))))))
 intro v149 w11 ho12 hb hg_ hnew_
 clear hg_ hnew_
 (first | rw [← Ny148.out] at ho12 | (simp only [Int.reduceToNat] at ho12; rw [← Ny148.out] at ho12))
 have HO150 := am_ (Kd.R_lower ho12 (below_size (cb_ HB)))
 replace BK144 := am_ (blk_below (cd_ BK144) hb)
 replace HB := am_ (below_step (cb_ HB) hb)
 clear hb ho12
 refine hK.out _ _ (c10_ BK144.out) (fun hHeld => ?_)
 clear hK K
 refine nA_ ?_
 refine pB_ HT_ 10 3 (bs_ 11 2047) ?_
 refine done_ (done_of HT_.out (by kernel_rfl)) ?_
 have hcz13_0 : w11.cell? ⟨gb144, 0, none⟩ = some (.int .i64 3) := (blk_cell BK144.out 0).trans rfl
 have hcz13_1 : w11.cell? ⟨gb144, 1, none⟩ = some (.int .i64 0) := (blk_cell BK144.out 1).trans rfl
 have hcz13_2 : w11.cell? ⟨gb144, 2, none⟩ = some (.int .i64 0) := (blk_cell BK144.out 2).trans rfl
 have hcz13_3 : w11.cell? ⟨gb144, 3, none⟩ = some (.int .i64 0) := (blk_cell BK144.out 3).trans rfl
 have hcz13_4 : w11.cell? ⟨gb144, 4, none⟩ = some (.int .i64 0) := (blk_cell BK144.out 4).trans rfl
 have hcz13_5 : w11.cell? ⟨gb144, 5, none⟩ = some (.bool false) := (blk_cell BK144.out 5).trans rfl
 have hcz13_6 : w11.cell? ⟨gb144, 6, none⟩ = some (.slice none 0 0) := (blk_cell BK144.out 6).trans rfl
 have hcz13_7 : w11.cell? ⟨gb144, 7, none⟩ = some (.slice none 0 0) := (blk_cell BK144.out 7).trans rfl
 have hcz13_8 : w11.cell? ⟨gb144, 8, none⟩ = some (.bool true) := (blk_cell BK144.out 8).trans rfl
 have hcz13_9 : w11.cell? ⟨gb144, 9, none⟩ = some (.int .i64 0) := (blk_cell BK144.out 9).trans rfl
 have hfz13_0 := blk_frozen BK144.out 0
 have hfz13_1 := blk_frozen BK144.out 1
 have hfz13_2 := blk_frozen BK144.out 2
 have hfz13_3 := blk_frozen BK144.out 3
 have hfz13_4 := blk_frozen BK144.out 4
 have hfz13_5 := blk_frozen BK144.out 5
 have hfz13_6 := blk_frozen BK144.out 6
 have hfz13_7 := blk_frozen BK144.out 7
 have hfz13_8 := blk_frozen BK144.out 8
 have hfz13_9 := blk_frozen BK144.out 9
 clear hHeld hfz13_0 hfz13_1 hfz13_2 hfz13_3 hfz13_4 hfz13_5 hfz13_6 hfz13_7 hfz13_8 hfz13_9
 have HL := am_ (show y148.length < 8796093022208 by rw [Ny148.out]; decide)
 go_wp2
 go_loop [3, 61] (fun u v => u = v149 ∧ v = .int .i64 0) (fun _ _ => 0)
 case atStart => exact ⟨rfl, rfl⟩
 case round =>
  obtain ⟨rfl, rfl⟩ := hrel
  go_wp2_with (first | ((with_reducible refine gate_builtin (b := .append) (xs := #[.tmp 78, .tmp 79]) rfl ?_); at_builtin; refine Kd.R_append Kd.string (w0 := w) w.heap.size rfl (.tmp 78) (.tmp 79) 71 9 (.string ⟨#[]⟩) 16 rfl Tryz.underlying71 info9 rfl (by decide) (by omega) _ y148 (⟨#[109, 111, 114, 101]⟩ : ByteArray) [.string (⟨#[109, 111, 114, 101]⟩ : ByteArray)] (fun _ => True) (fun _ => False) rfl rfl ?aP (fun _ hk => hk.elim) ?aF ?aO ?aB ?aS ?aL ?_; (case aP => exact rfl); (case aB => exact HB.out); (case aF => exact (fun _ _ => trivial)); (case aO => exact HO150.out); (case aS => exact (below_size HB.out)); (case aL => have := HL.out; omega); intro v160 w12 ho hb hg hat; have BK2 := am_ (blk_grown BK144.out hg (Kd.R_ne HO150.out BK144.out (by decide))); have HB2 := am_ hb; have HO2 := am_ ho; have hcz9 : w12.cell? ⟨gb144, 9, none⟩ = some (.int .i64 0) := (blk_cell BK2.out 9).trans rfl; clear ho hb hg hat))
  obtain ⟨A160, c160, rfl, hc, hC⟩ := Kd.R_reads HO2.out
  have HJ := am_ (strings_Join.calls A160 c160 (y148 ++ [⟨#[109, 111, 114, 101]⟩]) ⟨#[32]⟩ ⟨#[115, 108, 111, 116, 32, 51, 32, 115, 101, 115, 115, 105, 111, 110, 32, 48, 32, 99, 111, 100, 101, 32, 48, 32, 109, 111, 114, 101]⟩ w12 hC hc (by rw [Ny148.out]; kernel_rfl))
  clear hC hc HL
  go_wp2_with fail
  refine HJ.out.mono ?_
  rintro e w13 ⟨rfl, hb13⟩
  have HB3 := am_ (below_step HB2.out hb13)
  clear hb13
  go_wp2
  go_ret
  exact ⟨rfl, HB3.out⟩
end Go.Proofs.YtndbbgihpoiojaaGreatDoor.Q
namespace Go.Proofs.YtndbbgihpoiojaaGreatDoor.Q
open Go.RowKit Go.Proofs.YtndbbgihpoiojaaGreatDoorW.PrintWords Go.Proofs.YtndbbgihpoiojaaGreatDoorW.PrintLast
abbrev fx1 : ByteArray := ⟨#[108, 97, 98, 101, 108, 32, 49, 10, 115, 101, 115, 115, 105, 111, 110, 32, 48, 10, 97, 115, 107, 32, 48, 32, 112, 117, 116, 32, 49, 32, 50, 32, 48, 32, 34, 107, 34, 32, 34, 118, 37, 50, 48, 119, 34, 10, 116, 105, 99, 107, 32, 47, 32, 50, 44, 57, 57, 44, 48, 32, 47, 10]⟩
abbrev fx2 : ByteArray := ⟨#[105, 100, 108, 101, 10, 116, 111, 99, 107]⟩
abbrev fe1 : S52 := ⟨1, 0, ⟨4, ⟨1, 2⟩, 0, ⟨#[107]⟩, ⟨#[]⟩, [118, 32, 119], 0⟩, 0, []⟩
abbrev fe2 : S52 := ⟨2, 0, z49, 0, [[⟨2, 99, 0⟩], []]⟩
theorem fx1_parse : parseS fx1 = ((0, 0), some ([1], [], [0], [fe1, fe2])) := by kernel_rfl
theorem fx2_parse : parseS fx2 = ((2, 260), none) := by kernel_rfl
theorem fx_quote : quoteB ⟨#[97, 32, 98]⟩ = ⟨#[34, 97, 37, 50, 48, 98, 34]⟩ := by kernel_rfl
theorem ev_cells {w : World} {base : Nat} {v : Value} {l3 : List S52} (h : EvR w base v l3) : ∃ g c, (v = .slice (some ⟨g, 0, none⟩) l3.length c ∨ (l3 = [] ∧ v = .slice none 0 0)) ∧
 ∀ (j : Nat) x, l3[j]? = some x → ∃ A8 c8 A11 c11, x.f2.f5.length ≤ c8 ∧ Kd.C (Kd.int .u8) w A8 x.f2.f5.length x.f2.f5 ∧ x.f4.length ≤ c11 ∧ (Kd.slice 66 k66).C w A11 x.f4.length x.f4 ∧
  ∀ i u, ([.int .i64 x.f0, .int .i64 x.f1, .int .i64 x.f2.f0, .int .i64 x.f2.f1.f0, .int .i64 x.f2.f1.f1, .int .i64 x.f2.f2, .string x.f2.f3, .string x.f2.f4, .slice A8 x.f2.f5.length c8, .int .i64 x.f2.f6, .int .i64 x.f3, .slice A11 x.f4.length c11] : List Value)[i]? = some u → w.cell? ⟨g, j * 12 + i, none⟩ = some u := by
 obtain ⟨o3, hr, hm, hb⟩ := h
 have hlen : o3.length = l3.length := by rw [← hm]; simp
 obtain ⟨A, c, rfl, hc, hC⟩ := Kd.R_reads hr
 obtain ⟨inner, hown⟩ := Kd.R_own hr
 rcases hown.2 with ⟨hv, hn⟩ | ⟨g, cap, cur, hv, _⟩
 · have h0 : l3 = [] := List.eq_nil_of_length_eq_zero (by omega)
   subst h0
   refine ⟨0, 0, .inr ⟨rfl, hv⟩, fun j x hx => by simp at hx⟩
 injection hv with e1 e2 e3
 subst e1 e3
 refine ⟨g, c, .inl (by rw [hlen]), fun j x hx => ?_⟩
 obtain ⟨p, hp, rfl⟩ : ∃ p, o3[j]? = some p ∧ p.1 = x := by
  rw [← hm, List.getElem?_map] at hx
  obtain ⟨p, hp, he⟩ := Option.map_eq_some_iff.1 hx
  exact ⟨p, hp, he⟩
 obtain ⟨b, o, cs, hA, hK, hcs⟩ := Cat_ hC hp (by decide)
 injection hA with hA
 injection hA with e4 e5
 subst e4 e5
 obtain ⟨A11, c11, rfl, h11, g11⟩ := k52o_open hK
 have hv := hb p (List.mem_of_getElem? hp)
 refine ⟨p.2.1, p.2.2, A11, c11, hv.1, Kd.F_now hv.2, h11, g11, fun i u hu => ?_⟩
 have := hcs i u hu
 rwa [Nat.zero_add] at this
theorem evs_C {w : World} {base : Nat} {v : Value} {l3 : List S52} (h : EvR w base v l3) : ∃ A c, v = .slice A l3.length c ∧ Kd.C k52 w A l3.length l3 := by
 obtain ⟨o3, hr, hm, hb⟩ := h
 have hlen : o3.length = l3.length := by rw [← hm]; simp
 obtain ⟨A, c, rfl, hc, hC⟩ := Kd.R_reads hr
 refine ⟨A, c, by rw [hlen], ?_⟩
 refine ⟨rfl, by rw [← hlen]; exact hC.2.1, fun h0 => ?_⟩
 obtain ⟨a, rfl, _⟩ := hC.2.2 (by omega)
 refine ⟨a, rfl, fun j p hj => ?_⟩
 obtain ⟨q, hq, rfl⟩ : ∃ q, o3[j]? = some q ∧ q.1 = p := by
  rw [← hm, List.getElem?_map] at hj
  obtain ⟨q, hq, he⟩ := Option.map_eq_some_iff.1 hj
  exact ⟨q, hq, he⟩
 obtain ⟨b, o, cs, hA, hK, hcs⟩ := Cat_ hC hq (by decide)
 injection hA with hA
 subst hA
 obtain ⟨A11, c11, rfl, h11, g11⟩ := k52o_open hK
 have hv := hb q (List.mem_of_getElem? hq)
 refine ⟨_, rfl, k52_mk _ q.1 hv.1 (Kd.F_now hv.2) h11 g11, fun i u hu => ?_⟩
 rw [addPlainQ]
 exact hcs i u hu
theorem rows_C {w : World} {base : Nat} {v0 v1 v2 v3 : Value} {s : Stt} (h : Rows4 w base v0 v1 v2 v3 s) : ∃ A0 c0 A1 c1 A2 c2 A3 c3, v0 = .slice A0 s.1.length c0 ∧ v1 = .slice A1 s.2.1.length c1 ∧ v2 = .slice A2 s.2.2.1.length c2 ∧ v3 = .slice A3 s.2.2.2.length c3 ∧
 Kd.C (Kd.int .u64) w A0 s.1.length s.1 ∧ Kd.C k70 w A1 s.2.1.length s.2.1 ∧ Kd.C (Kd.int .i64) w A2 s.2.2.1.length s.2.2.1 ∧ Kd.C k52 w A3 s.2.2.2.length s.2.2.2 := by
 obtain ⟨A0, c0, e0, _, h0⟩ := Kd.R_reads h.r0
 obtain ⟨A1, c1, e1, _, h1⟩ := Kd.R_reads h.r1
 obtain ⟨A2, c2, e2, _, h2⟩ := Kd.R_reads h.r2
 obtain ⟨A3, c3, e3, h3⟩ := evs_C h.r3
 exact ⟨A0, c0, A1, c1, A2, c2, A3, c3, e0, e1, e2, e3, h0, h1, h2, h3⟩
theorem rows_C4 {w : World} {base : Nat} {v0 v1 v2 v3 : Value} {l0 : List Int} {l1 : List S70} {l2 : List Int} {l3 : List S52} (h : Rows4 w base v0 v1 v2 v3 (l0, l1, l2, l3)) : ∃ A0 c0 A1 c1 A2 c2 A3 c3, v0 = .slice A0 l0.length c0 ∧ v1 = .slice A1 l1.length c1 ∧ v2 = .slice A2 l2.length c2 ∧ v3 = .slice A3 l3.length c3 ∧
 Kd.C (Kd.int .u64) w A0 l0.length l0 ∧ Kd.C k70 w A1 l1.length l1 ∧ Kd.C (Kd.int .i64) w A2 l2.length l2 ∧ Kd.C k52 w A3 l3.length l3 := rows_C h
end Go.Proofs.YtndbbgihpoiojaaGreatDoor.Q
