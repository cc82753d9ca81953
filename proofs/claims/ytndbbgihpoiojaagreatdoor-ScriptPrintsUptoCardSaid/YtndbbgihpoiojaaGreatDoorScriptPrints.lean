/- Script: the law ScriptPrints: its second form's card. Called with a config and events: true; they read as they did (where what it reads is of bulk at most 1048576). -/
import Derived.Test.YtndbbgihpoiojaaGreatDoorScriptPrints5
set_option linter.unusedVariables false
set_option linter.unusedSimpArgs false
set_option maxRecDepth 100000
set_option maxHeartbeats 8000000
namespace Go.Proofs.YtndbbgihpoiojaaGreatDoor.ev
open Go.RowKit Go.Lib
abbrev laidL : List (String × DataW Unit) := Rows.scriptQuotesRow.laid
theorem pow_eq : (Rows.laid_internal_strconv_uint64pow10 : DataW Unit) = tabData .u64 Lib.pow10Tab := by kernel_rfl
theorem acc_eq : (Rows.laid_unicode_utf8_acceptRanges : DataW Unit) = acceptData := by kernel_rfl
theorem first_eq : Rows.laid_unicode_utf8_first = firstData := Pinned.utf8First_eq
theorem nm0 : Tryz.prog.globalNamed "unicode/utf8.first" = some 0 := by kernel_rfl
theorem nm1 : Tryz.prog.globalNamed "unicode/utf8.acceptRanges" = some 1 := by kernel_rfl
theorem nm2 : Tryz.prog.globalNamed "internal/strconv.uint64pow10" = some 2 := by kernel_rfl
theorem nm6 : Tryz.prog.globalNamed "strconv.ErrSyntax" = some 6 := by kernel_rfl
theorem nm7 : Tryz.prog.globalNamed "strconv.ErrRange" = some 7 := by kernel_rfl
theorem ty2 : (Tryz.prog.globals[2]?).map (·.type) = some 163 := by kernel_rfl
theorem ty6 : (Tryz.prog.globals[6]?).map (·.type) = some 117 := by kernel_rfl
theorem ty7 : (Tryz.prog.globals[7]?).map (·.type) = some 117 := by kernel_rfl
theorem cells163 : Tryz.prog.cellsOf 163 = 20 := by kernel_rfl
theorem cellsU64 : Tryz.prog.cellsOf 67 = 1 := by kernel_rfl
theorem u8extra : U8Extra Tryz.prog Tryz.lays260_ren where
 n3 := nm0
 n4 := nm1
 y3 := by kernel_rfl
 y4 := by kernel_rfl
 c5 := by kernel_rfl
 c119 := by kernel_rfl
 c138 := by kernel_rfl
theorem iface_at {W : World} {n : String} {d : DataW Unit} {g : Nat} {nm : String} {d' : DataW Unit} (h : VarReads Tryz.prog W n d) (hd : d = .iface nm d') (hg : Tryz.prog.globalNamed n = some g) (ht : (Tryz.prog.globals[g]?).map (·.type) = some 117) : ∃ te pe, W.cell? ⟨g, 0, none⟩ = some (.iface te pe) := by
 subst hd
 obtain ⟨g', t, cs, fuel, p, hg', hty, hvar, hd⟩ := h
 obtain rfl := Option.some.inj (hg.symm.trans hg')
 obtain rfl := Option.some.inj (ht.symm.trans hty)
 obtain ⟨f1, u, v, hcs, _, _⟩ := iface_of_trod Tryz.underlying117 hd
 refine ⟨u, v, ?_⟩
 rw [World.var?_cell hg hvar 0, ← Array.getElem?_toList, hcs]
 rfl
theorem env_of {W : World} (hL : laidMet Tryz.prog laidL W) (hsh : W.ShapedOpen Tryz.prog) : sc.Env W where
 pow := by
  have h := Go.Lib.laidMet.reads hL (n := "internal/strconv.uint64pow10") (d := Rows.laid_internal_strconv_uint64pow10) (.tail _ (.tail _ (.head _)))
  rw [pow_eq] at h
  obtain ⟨g, t, cs, fuel, p, hg, hty, hvar, hd⟩ := h
  obtain rfl := Option.some.inj (nm2.symm.trans hg)
  obtain rfl := Option.some.inj (ty2.symm.trans hty)
  have hcs := cells_of_tab Tryz.underlying163 Tryz.underlying67 cellsU64 cells163 hd
  unfold TabIs
  rw [hvar, ← hcs]
 utf := by
  have h3 := Go.Lib.laidMet.reads hL (n := "unicode/utf8.first") (d := Rows.laid_unicode_utf8_first) (.tail _ (.tail _ (.tail _ (.tail _ (.tail _ (.tail _ (.head _)))))))
  have h4 := Go.Lib.laidMet.reads hL (n := "unicode/utf8.acceptRanges") (d := Rows.laid_unicode_utf8_acceptRanges) (.tail _ (.tail _ (.tail _ (.head _))))
  rw [first_eq] at h3
  rw [acc_eq] at h4
  exact utf8Tabs_of_readsT (U8Types.of260 Tryz.lays260) u8extra h3 h4
 max := Go.Proofs.cell_of_shapedOpen_int (zero := #[.int .i64 0]) (t := 3) hsh (of_decide_eq_true (by kernel_rfl)) (by kernel_rfl) rfl (by kernel_rfl) (by kernel_rfl) Tryz.underlying3
 syn := iface_at (Go.Lib.laidMet.reads hL (n := "strconv.ErrSyntax") (d := Rows.laid_strconv_ErrSyntax) (.tail _ (.tail _ (.tail _ (.tail _ (.tail _ (.head _))))))) rfl nm6 ty6
 rng := iface_at (Go.Lib.laidMet.reads hL (n := "strconv.ErrRange") (d := Rows.laid_strconv_ErrRange) (.tail _ (.tail _ (.tail _ (.tail _ (.head _)))))) rfl nm7 ty7
theorem own : ownKnob Tryz.prog.godebug = none := by kernel_rfl
abbrev synS : ByteArray := { data := #[105, 110, 118, 97, 108, 105, 100, 32, 115, 121, 110, 116, 97, 120] }
abbrev rngS : ByteArray := { data := #[118, 97, 108, 117, 101, 32, 111, 117, 116, 32, 111, 102, 32, 114, 97, 110, 103, 101] }
noncomputable def low : Nat := (World.holding Tryz.prog default ⟨#[], #[], []⟩).heap.size
def put (cs : Array Value) : Obj → Obj
 | .cells _ t frozen => .cells cs t frozen
 | o => o
def flat : DataW Unit → List Value
 | .agg l => l.flatMap fun d => match d with
  | .lit (.int k z) => [.int k z]
  | .agg m => m.flatMap fun d => match d with
   | .lit (.int k z) => [.int k z]
   | _ => []
  | _ => []
 | _ => []
noncomputable def laidWorld (os : Os) : World :=
 let w0 := World.holding Tryz.prog os ⟨#[.cells #[.string synS] 195, .cells #[.string rngS] 195], #[], []⟩
 { w0 with heap := (((((((w0.heap.modify 0 (put (flat firstData).toArray)).modify 1 (put (flat acceptData).toArray)).modify 2 (put (flat (tabData .u64 Lib.pow10Tab)).toArray)).modify 4 (put (flat Rows.laid_math_bits_deBruijn32tab).toArray)).modify 5 (put (flat Rows.laid_math_bits_deBruijn64tab).toArray)).modify 6 (put #[.iface 193 (.pointer (some ⟨low, 0, none⟩))])).modify 7 (put #[.iface 193 (.pointer (some ⟨low + 1, 0, none⟩))])) }
theorem laidWorld_met (os : Os) (args : Array Value) : laidMet Tryz.prog laidL ((laidWorld os).forCall (fun _ _ => 0) ⟨#[], args, []⟩).memory :=
 laidMet_of_run' 8 (by kernel_rfl) (by kernel_rfl)
theorem laidWorld_metH (os : Os) (args : Array Value) : laidMetH Tryz.prog laidL ((laidWorld os).forCall (fun _ _ => 0) ⟨#[], args, []⟩).memory := by
 rw [Go.MakeChecks.laidMetH_plain _ _ _ (by kernel_rfl)]
 exact laidWorld_met os args
end Go.Proofs.YtndbbgihpoiojaaGreatDoor.ev
namespace Go.Proofs.YtndbbgihpoiojaaGreatDoor.ev
open Go.RowKit Go.Lib Go.ChangeShapes Go.Proofs.YtndbbgihpoiojaaGreatDoorW.PrintWords Go.Proofs.YtndbbgihpoiojaaGreatDoor.Q
def Opens {α : Type} (d : Kd α) (t : TypeId) (wf : α → Prop) (wt : α → Nat) : Prop :=
 ∀ (H : Type) (enc : TypeId × Value → H) (w : World) (base : Nat) (sp : Nat → Bool) (held : Bool) (fuel : Nat) (cs : List Value) (x : DataW H × List MemPlace),
  DataW.trod enc Tryz.prog w base sp held fuel t cs = some x → ∃ a : α, d.K w a cs ∧ wf a ∧ wt a ≤ Rows.uptoBulk x.1
def InK (k : IntKind) (n : Int) : Prop := k.min ≤ n ∧ n ≤ k.max
theorem opens_int {t : TypeId} {k : IntKind} (ht : Tryz.prog.underlying t = some (.int k)) : Opens (Kd.int k) t (InK k) (fun _ => 1) := by
 intro H enc w base sp held fuel cs x h
 obtain ⟨n, rfl, rfl, hwf⟩ := DataW.trod_int ht h
 simp only [Lit.wf, Bool.and_eq_true, decide_eq_true_eq] at hwf
 exact ⟨n, rfl, hwf, by simp [Rows.uptoBulk]⟩
theorem opens_string {t : TypeId} (ht : Tryz.prog.underlying t = some .string) : Opens Kd.string t (fun _ => True) (fun s => s.size + 1) := by
 intro H enc w base sp held fuel cs x h
 obtain ⟨n, rfl, rfl, _⟩ := DataW.trod_string ht h
 refine ⟨n, rfl, trivial, ?_⟩
 simp only [Rows.uptoBulk]
 have : n.data.toList.length = n.size := Array.length_toList
 omega
theorem bulkAll_map {H β : Type} (l : List β) (f : β → DataW H) : Rows.uptoBulkAll (l.map f) = (l.map fun b => Rows.uptoBulk (f b)).sum := by
 induction l with
 | nil => simp [Rows.uptoBulkAll]
 | cons b l ih => simp [Rows.uptoBulkAll, ih]
theorem sum_le_sum {β : Type} {f g : β → Nat} (l : List β) (h : ∀ b ∈ l, f b ≤ g b) : (l.map f).sum ≤ (l.map g).sum := by
 induction l with
 | nil => simp
 | cons b l ih =>
  have h0 := h b (.head _)
  have h1 := ih (fun c hc => h c (.tail _ hc))
  simp only [List.map_cons, List.sum_cons]
  omega
theorem list_of' {β : Type} (n : Nat) (Pr : Nat → β → Prop) (h : ∀ i, i < n → ∃ b, Pr i b) : ∃ l : List β, l.length = n ∧ ∀ (i : Nat) (b : β), l[i]? = some b → Pr i b := by
 induction n with
 | zero => exact ⟨[], rfl, fun i b hb => by simp at hb⟩
 | succ n ih =>
  obtain ⟨l, hl, hp⟩ := ih (fun i hi => h i (by omega))
  obtain ⟨b, hb⟩ := h n (by omega)
  refine ⟨l ++ [b], by simp [hl], fun i c hc => ?_⟩
  by_cases hi : i < n
  · rw [List.getElem?_append_left (by omega)] at hc
    exact hp i c hc
  have hil : i < (l ++ [b]).length := (List.getElem?_eq_some_iff.1 hc).1
  have : i = n := by simp [hl] at hil; omega
  subst this
  rw [List.getElem?_append_right (by omega), hl] at hc
  simp at hc
  rw [← hc]
  exact hb
theorem sum_range {β : Type} (l : List β) (f : β → Nat) (g : Nat → Nat) (h : ∀ i b, l[i]? = some b → f b ≤ g i) : (l.map f).sum ≤ ((List.range l.length).map g).sum := by
 have e : l.map f = (List.range l.length).map fun i => match l[i]? with | some b => f b | none => 0 := by
  apply List.ext_getElem?
  intro i
  simp only [List.getElem?_map]
  by_cases hi : i < l.length
  · simp [hi]
  simp [hi]
 rw [e]
 apply sum_le_sum
 intro i hi
 simp only [List.mem_range] at hi
 rw [List.getElem?_eq_getElem hi]
 exact h i _ (List.getElem?_eq_getElem hi)
theorem opens_slice {α : Type} {d : Kd α} {t te : TypeId} {wf : α → Prop} {wt : α → Nat} (e : Nat) (ht : Tryz.prog.underlying t = some (.slice te)) (hs : Tryz.prog.cellsOf te = d.sz) (hd : Opens d te wf wt) :
 Opens (Kd.slice e d) t (fun xs => ∀ a ∈ xs, wf a) (fun xs => (xs.map wt).sum + 1) := by
 intro H enc w base sp held fuel cs x h
 rcases Go.Deep.open_slice ht h with ⟨rfl, rfl⟩ | ⟨a, len, cap, m, n, D, Pl, rfl, hb, hlc, hcap, hm, rfl, hx⟩
 · refine ⟨[], ⟨none, 0, rfl, Nat.le_refl _, rfl, by simp, fun h => absurd h (by simp)⟩, ?_, ?_⟩
   · intro a ha
     exact absurd ha List.not_mem_nil
   show 0 + 1 ≤ Rows.uptoBulk (DataW.nil (H := H))
   simp [Rows.uptoBulk]
 have hle : len ≤ m := by rw [hm]; split <;> omega
 obtain ⟨l, hl, hp⟩ := list_of' len (fun i b => ∃ c, c.length = d.sz ∧ d.K w b c ∧ (∀ j u, c[j]? = some u → w.cell? (a.add (i * d.sz + j)) = some u) ∧ wf b ∧ wt b ≤ Rows.uptoBulk (D i)) (fun i hi => by
  obtain ⟨cs', h1, h2⟩ := hx i (by omega)
  obtain ⟨b, k1, k2, k3⟩ := hd H enc w base sp held n cs' _ h2
  refine ⟨b, cs', d.K_len k1, k1, ?_, k2, k3⟩
  obtain ⟨_, hlen, hcell⟩ := World.cells?_some h1
  rw [hs] at hcell hlen
  intro j u hu
  have hj : j < cs'.length := (List.getElem?_eq_some_iff.1 hu).1
  have := hcell j (by omega)
  rw [add_add] at this
  exact this.trans hu)
 subst hl
 refine ⟨l, ⟨some a, cap, rfl, hlc, rfl, ?_, fun _ => ⟨a, rfl, fun j p hj => ?_⟩⟩, fun b hb => ?_, ?_⟩
 · unfold maxLen at hcap; omega
 · obtain ⟨c, h1, h2, h3, _⟩ := hp j p hj
   exact ⟨c, h1, h2, h3⟩
 · obtain ⟨i, hi, rfl⟩ := List.mem_iff_getElem.1 hb
   obtain ⟨c, _, _, _, h4, _⟩ := hp i _ (List.getElem?_eq_getElem hi)
   exact h4
 simp only [Rows.uptoBulk]
 rw [bulkAll_map]
 have := sum_range l wt (fun i => Rows.uptoBulk (D i)) (fun i b hb => by obtain ⟨c, _, _, _, _, h5⟩ := hp i b hb; exact h5)
 omega
theorem fld {H : Type} {enc : TypeId × Value → H} {w : World} {base n : Nat} {sp : Nat → Bool} {held : Bool} {fs : Array Field} {cs : List Value} {xs : List (DataW H × List MemPlace)}
 (hf : ∀ (i : Nat) (f : Field), fs[i]? = some f → DataW.trod enc Tryz.prog w base sp held n f.type ((cs.drop f.offset).take (Tryz.prog.cellsOf f.type)) = xs[i]?)
 (i off ty sz : Nat) (y : DataW H × List MemPlace) (hfi : (fs[i]?).map (fun f => (f.offset, f.type)) = some (off, ty)) (hsz : Tryz.prog.cellsOf ty = sz) (hx : xs[i]? = some y) :
 DataW.trod enc Tryz.prog w base sp held n ty ((cs.drop off).take sz) = some y := by
 obtain ⟨f, h1, h2⟩ := Option.map_eq_some_iff.1 hfi
 obtain ⟨rfl, rfl⟩ := Prod.mk.inj h2
 rw [← hsz, ← hx]
 exact hf i f h1
theorem opens37 : Opens k37 37 (fun p => InK .i64 p.f0 ∧ InK .i64 p.f1) (fun _ => 2) := by
 intro H enc w base sp held fuel cs x h
 obtain ⟨xs, n, rfl, rfl, hl, hxl, hf⟩ := DataW.trod_struct Tryz.underlying37 h
 rw [show Tryz.prog.cellsOf 37 = 2 by kernel_rfl] at hl
 match xs, hxl, cs, hl with
 | [y0, y1], _, [v0, v1], _ =>
  have g0 := fld hf 0 0 3 1 y0 rfl (by kernel_rfl) rfl
  have g1 := fld hf 1 1 3 1 y1 rfl (by kernel_rfl) rfl
  obtain ⟨a0, h0, q0, w0⟩ := opens_int Tryz.underlying3 H enc w base sp held n [v0] y0 g0
  obtain ⟨a1, h1, q1, w1⟩ := opens_int Tryz.underlying3 H enc w base sp held n [v1] y1 g1
  refine ⟨⟨a0, a1⟩, ⟨[v0], [v1], rfl, h0, h1⟩, ⟨q0, q1⟩, ?_⟩
  simp only [List.map_cons, List.map_nil, Rows.uptoBulk, Rows.uptoBulkAll] at w0 w1 ⊢
  omega
theorem opens66 : Opens k66 66 (fun p => InK .i64 p.f0 ∧ InK .i64 p.f1 ∧ InK .u8 p.f2) (fun _ => 1) := by
 intro H enc w base sp held fuel cs x h
 obtain ⟨xs, n, rfl, rfl, hl, hxl, hf⟩ := DataW.trod_struct Tryz.underlying66 h
 rw [show Tryz.prog.cellsOf 66 = 3 by kernel_rfl] at hl
 match xs, hxl, cs, hl with
 | [y0, y1, y2], _, [v0, v1, v2], _ =>
  have g0 := fld hf 0 0 3 1 y0 rfl (by kernel_rfl) rfl
  have g1 := fld hf 1 1 3 1 y1 rfl (by kernel_rfl) rfl
  have g2 := fld hf 2 2 5 1 y2 rfl (by kernel_rfl) rfl
  obtain ⟨a0, h0, q0, w0⟩ := opens_int Tryz.underlying3 H enc w base sp held n [v0] y0 g0
  obtain ⟨a1, h1, q1, w1⟩ := opens_int Tryz.underlying3 H enc w base sp held n [v1] y1 g1
  obtain ⟨a2, h2, q2, w2⟩ := opens_int Tryz.underlying5 H enc w base sp held n [v2] y2 g2
  refine ⟨⟨a0, a1, a2⟩, ⟨[v0], [v1, v2], rfl, h0, ⟨[v1], [v2], rfl, h1, h2⟩⟩, ⟨q0, q1, q2⟩, ?_⟩
  simp only [List.map_cons, List.map_nil, Rows.uptoBulk, Rows.uptoBulkAll] at w0 w1 ⊢
  omega
theorem opens70 : Opens k70 70 (fun p => InK .i64 p.f0 ∧ InK .i64 p.f1 ∧ InK .i64 p.f2 ∧ InK .i64 p.f3 ∧ InK .i64 p.f4) (fun _ => 1) := by
 intro H enc w base sp held fuel cs x h
 obtain ⟨xs, n, rfl, rfl, hl, hxl, hf⟩ := DataW.trod_struct Tryz.underlying70 h
 rw [show Tryz.prog.cellsOf 70 = 5 by kernel_rfl] at hl
 match xs, hxl, cs, hl with
 | [y0, y1, y2, y3, y4], _, [v0, v1, v2, v3, v4], _ =>
  have g0 := fld hf 0 0 3 1 y0 rfl (by kernel_rfl) rfl
  have g1 := fld hf 1 1 3 1 y1 rfl (by kernel_rfl) rfl
  have g2 := fld hf 2 2 3 1 y2 rfl (by kernel_rfl) rfl
  have g3 := fld hf 3 3 3 1 y3 rfl (by kernel_rfl) rfl
  have g4 := fld hf 4 4 3 1 y4 rfl (by kernel_rfl) rfl
  obtain ⟨a0, h0, q0, w0⟩ := opens_int Tryz.underlying3 H enc w base sp held n [v0] y0 g0
  obtain ⟨a1, h1, q1, w1⟩ := opens_int Tryz.underlying3 H enc w base sp held n [v1] y1 g1
  obtain ⟨a2, h2, q2, w2⟩ := opens_int Tryz.underlying3 H enc w base sp held n [v2] y2 g2
  obtain ⟨a3, h3, q3, w3⟩ := opens_int Tryz.underlying3 H enc w base sp held n [v3] y3 g3
  obtain ⟨a4, h4, q4, w4⟩ := opens_int Tryz.underlying3 H enc w base sp held n [v4] y4 g4
  refine ⟨⟨a0, a1, a2, a3, a4⟩, ⟨[v0], [v1, v2, v3, v4], rfl, h0, ⟨[v1], [v2, v3, v4], rfl, h1, ⟨[v2], [v3, v4], rfl, h2, ⟨[v3], [v4], rfl, h3, h4⟩⟩⟩⟩, ⟨q0, q1, q2, q3, q4⟩, ?_⟩
  simp only [List.map_cons, List.map_nil, Rows.uptoBulk, Rows.uptoBulkAll] at w0 w1 ⊢
  omega
theorem opens49 : Opens k49 49 (fun p => InK .i64 p.f0 ∧ (InK .i64 p.f1.f0 ∧ InK .i64 p.f1.f1) ∧ InK .i64 p.f2 ∧ (∀ n ∈ p.f5, InK .u8 n) ∧ InK .i64 p.f6) (fun p => p.f3.size + p.f4.size + p.f5.length) := by
 intro H enc w base sp held fuel cs x h
 obtain ⟨xs, n, rfl, rfl, hl, hxl, hf⟩ := DataW.trod_struct Tryz.underlying49 h
 rw [show Tryz.prog.cellsOf 49 = 8 by kernel_rfl] at hl
 match xs, hxl, cs, hl with
 | [y0, y1, y2, y3, y4, y5, y6], _, [v0, v1, v2, v3, v4, v5, v6, v7], _ =>
  have g0 := fld hf 0 0 3 1 y0 rfl (by kernel_rfl) rfl
  have g1 := fld hf 1 1 37 2 y1 rfl (by kernel_rfl) rfl
  have g2 := fld hf 2 3 3 1 y2 rfl (by kernel_rfl) rfl
  have g3 := fld hf 3 4 9 1 y3 rfl (by kernel_rfl) rfl
  have g4 := fld hf 4 5 9 1 y4 rfl (by kernel_rfl) rfl
  have g5 := fld hf 5 6 38 1 y5 rfl (by kernel_rfl) rfl
  have g6 := fld hf 6 7 3 1 y6 rfl (by kernel_rfl) rfl
  obtain ⟨a0, h0, q0, w0⟩ := opens_int Tryz.underlying3 H enc w base sp held n [v0] y0 g0
  obtain ⟨a1, h1, q1, w1⟩ := opens37 H enc w base sp held n [v1, v2] y1 g1
  obtain ⟨a2, h2, q2, w2⟩ := opens_int Tryz.underlying3 H enc w base sp held n [v3] y2 g2
  obtain ⟨a3, h3, q3, w3⟩ := opens_string Tryz.underlying9 H enc w base sp held n [v4] y3 g3
  obtain ⟨a4, h4, q4, w4⟩ := opens_string Tryz.underlying9 H enc w base sp held n [v5] y4 g4
  obtain ⟨a5, h5, q5, w5⟩ := opens_slice 5 Tryz.underlying38 (by kernel_rfl) (opens_int Tryz.underlying5) H enc w base sp held n [v6] y5 g5
  obtain ⟨a6, h6, q6, w6⟩ := opens_int Tryz.underlying3 H enc w base sp held n [v7] y6 g6
  refine ⟨⟨a0, a1, a2, a3, a4, a5, a6⟩, ⟨[v0], [v1, v2, v3, v4, v5, v6, v7], rfl, h0, ⟨[v1, v2], [v3, v4, v5, v6, v7], rfl, h1, ⟨[v3], [v4, v5, v6, v7], rfl, h2, ⟨[v4], [v5, v6, v7], rfl, h3, ⟨[v5], [v6, v7], rfl, h4, ⟨[v6], [v7], rfl, h5, h6⟩⟩⟩⟩⟩⟩, ⟨q0, q1, q2, q5, q6⟩, ?_⟩
  have e : (a5.map fun _ => 1).sum = a5.length := by
   clear h5 q5 w5
   induction a5 with
   | nil => rfl
   | cons z l ih => rw [List.map_cons, List.sum_cons, ih, List.length_cons]; omega
  replace w5 : (a5.map fun _ => 1).sum + 1 ≤ Rows.uptoBulk y5.1 := w5
  rw [e] at w5
  simp only [List.map_cons, List.map_nil, Rows.uptoBulk, Rows.uptoBulkAll] at w0 w1 w3 w4 ⊢
  omega
def EvK (x : S52) : Prop := InK .i64 x.f0 ∧ InK .i64 x.f1 ∧ (InK .i64 x.f2.f0 ∧ (InK .i64 x.f2.f1.f0 ∧ InK .i64 x.f2.f1.f1) ∧ InK .i64 x.f2.f2 ∧ (∀ n ∈ x.f2.f5, InK .u8 n) ∧ InK .i64 x.f2.f6) ∧ InK .i64 x.f3 ∧ ∀ l ∈ x.f4, ∀ f ∈ l, InK .i64 f.f0 ∧ InK .i64 f.f1 ∧ InK .u8 f.f2
theorem fw_eq (ls : List (List S66)) : (ls.map fun l => (l.map fun _ => 1).sum + 1).sum = fw ls := by
 unfold fw
 congr 1
 refine List.map_congr_left (fun l _ => ?_)
 have e : ∀ l : List S66, (l.map fun _ => 1).sum = l.length := fun l => by
  induction l with
  | nil => rfl
  | cons z l ih => rw [List.map_cons, List.sum_cons, ih, List.length_cons]; omega
 have := e l
 omega
theorem opens52 : Opens k52 52 EvK wv := by
 intro H enc w base sp held fuel cs x h
 obtain ⟨xs, n, rfl, rfl, hl, hxl, hf⟩ := DataW.trod_struct Tryz.underlying52 h
 rw [show Tryz.prog.cellsOf 52 = 12 by kernel_rfl] at hl
 match xs, hxl, cs, hl with
 | [y0, y1, y2, y3, y4], _, [v0, v1, v2, v3, v4, v5, v6, v7, v8, v9, v10, v11], _ =>
  have g0 := fld hf 0 0 3 1 y0 rfl (by kernel_rfl) rfl
  have g1 := fld hf 1 1 3 1 y1 rfl (by kernel_rfl) rfl
  have g2 := fld hf 2 2 49 8 y2 rfl (by kernel_rfl) rfl
  have g3 := fld hf 3 10 3 1 y3 rfl (by kernel_rfl) rfl
  have g4 := fld hf 4 11 50 1 y4 rfl (by kernel_rfl) rfl
  obtain ⟨a0, h0, q0, w0⟩ := opens_int Tryz.underlying3 H enc w base sp held n [v0] y0 g0
  obtain ⟨a1, h1, q1, w1⟩ := opens_int Tryz.underlying3 H enc w base sp held n [v1] y1 g1
  obtain ⟨a2, h2, q2, w2⟩ := opens49 H enc w base sp held n [v2, v3, v4, v5, v6, v7, v8, v9] y2 g2
  obtain ⟨a3, h3, q3, w3⟩ := opens_int Tryz.underlying3 H enc w base sp held n [v10] y3 g3
  obtain ⟨a4, h4, q4, w4⟩ := opens_slice 64 Tryz.underlying50 (by kernel_rfl) (opens_slice 66 Tryz.underlying64 (by kernel_rfl) opens66) H enc w base sp held n [v11] y4 g4
  refine ⟨⟨a0, a1, a2, a3, a4⟩, ⟨[v0], [v1, v2, v3, v4, v5, v6, v7, v8, v9, v10, v11], rfl, h0, ⟨[v1], [v2, v3, v4, v5, v6, v7, v8, v9, v10, v11], rfl, h1, ⟨[v2, v3, v4, v5, v6, v7, v8, v9], [v10, v11], rfl, h2, ⟨[v10], [v11], rfl, h3, h4⟩⟩⟩⟩, ⟨q0, q1, q2, q3, q4⟩, ?_⟩
  replace w4 : (a4.map fun l => (l.map fun _ => 1).sum + 1).sum + 1 ≤ Rows.uptoBulk y4.1 := w4
  rw [fw_eq] at w4
  simp only [List.map_cons, List.map_nil, Rows.uptoBulk, Rows.uptoBulkAll] at w0 w1 w2 ⊢
  show 1 + a2.f3.size + a2.f4.size + a2.f5.length + fw a4 ≤ _
  omega
theorem open26 {H : Type} {enc : TypeId × Value → H} {w : World} {base : Nat} {sp : Nat → Bool} {held : Bool} {fuel : Nat} {cs : List Value} {x : DataW H × List MemPlace}
 (h : DataW.trod enc Tryz.prog w base sp held fuel 26 cs = some x) :
 ∃ (A0 : Option Addr) (c0 : Nat) (l0 : List Int) (A1 : Option Addr) (c1 : Nat) (l1 : List S70) (A2 : Option Addr) (c2 : Nat) (l2 : List Int),
  cs = [.slice A0 l0.length c0, .slice A1 l1.length c1, .slice A2 l2.length c2] ∧ Kd.C (Kd.int .u64) w A0 l0.length l0 ∧ Kd.C k70 w A1 l1.length l1 ∧ Kd.C (Kd.int .i64) w A2 l2.length l2 ∧
  (∀ n ∈ l0, InK .u64 n) ∧ (∀ p ∈ l1, InK .i64 p.f0 ∧ InK .i64 p.f1 ∧ InK .i64 p.f2 ∧ InK .i64 p.f3 ∧ InK .i64 p.f4) ∧ (∀ n ∈ l2, InK .i64 n) ∧
  l0.length + l1.length + l2.length ≤ Rows.uptoBulk x.1 := by
 obtain ⟨xs, n, rfl, rfl, hl, hxl, hf⟩ := DataW.trod_struct Tryz.underlying26 h
 rw [show Tryz.prog.cellsOf 26 = 3 by kernel_rfl] at hl
 match xs, hxl, cs, hl with
 | [y0, y1, y2], _, [v0, v1, v2], _ =>
  have g0 := fld hf 0 0 22 1 y0 rfl (by kernel_rfl) rfl
  have g1 := fld hf 1 1 23 1 y1 rfl (by kernel_rfl) rfl
  have g2 := fld hf 2 2 24 1 y2 rfl (by kernel_rfl) rfl
  obtain ⟨l0, ⟨A0, c0, e0, _, k0⟩, q0, w0⟩ := opens_slice 68 Tryz.underlying22 (by kernel_rfl) (opens_int Tryz.underlying68) H enc w base sp held n [v0] y0 g0
  obtain ⟨l1, ⟨A1, c1, e1, _, k1⟩, q1, w1⟩ := opens_slice 70 Tryz.underlying23 (by kernel_rfl) opens70 H enc w base sp held n [v1] y1 g1
  obtain ⟨l2, ⟨A2, c2, e2, _, k2⟩, q2, w2⟩ := opens_slice 3 Tryz.underlying24 (by kernel_rfl) (opens_int Tryz.underlying3) H enc w base sp held n [v2] y2 g2
  obtain ⟨rfl, _⟩ := List.cons.inj e0
  obtain ⟨rfl, _⟩ := List.cons.inj e1
  obtain ⟨rfl, _⟩ := List.cons.inj e2
  refine ⟨A0, c0, l0, A1, c1, l1, A2, c2, l2, rfl, k0, k1, k2, q0, q1, q2, ?_⟩
  have e : ∀ {β : Type} (l : List β), (l.map fun _ => 1).sum = l.length := fun l => by
   induction l with
   | nil => rfl
   | cons z l ih => rw [List.map_cons, List.sum_cons, ih, List.length_cons]; omega
  replace w0 : (l0.map fun _ => 1).sum + 1 ≤ Rows.uptoBulk y0.1 := w0
  replace w1 : (l1.map fun _ => 1).sum + 1 ≤ Rows.uptoBulk y1.1 := w1
  replace w2 : (l2.map fun _ => 1).sum + 1 ≤ Rows.uptoBulk y2.1 := w2
  rw [e] at w0 w1 w2
  simp only [List.map_cons, List.map_nil, Rows.uptoBulk, Rows.uptoBulkAll] at ⊢
  omega
theorem open27 {H : Type} {enc : TypeId × Value → H} {w : World} {base : Nat} {sp : Nat → Bool} {held : Bool} {fuel : Nat} {v : Value} {x : DataW H × List MemPlace}
 (h : DataW.trod enc Tryz.prog w base sp held fuel 27 [v] = some x) :
 ∃ (A : Option Addr) (c : Nat) (l : List S52), v = .slice A l.length c ∧ l.length ≤ c ∧ Kd.C k52 w A l.length l ∧ (∀ e ∈ l, EvK e) ∧ wvs l ≤ Rows.uptoBulk x.1 := by
 obtain ⟨l, ⟨A, c, e, hc, k⟩, q, wt⟩ := opens_slice 52 Tryz.underlying27 (by kernel_rfl) opens52 H enc w base sp held fuel [v] x h
 obtain ⟨rfl, _⟩ := List.cons.inj e
 refine ⟨A, c, l, rfl, hc, k, q, ?_⟩
 have : wvs l + 1 ≤ Rows.uptoBulk x.1 := wt
 omega
end Go.Proofs.YtndbbgihpoiojaaGreatDoor.ev
namespace Go.Proofs.YtndbbgihpoiojaaGreatDoor.Q
open Go.RowKit Go.Proofs.YtndbbgihpoiojaaGreatDoorW.PrintWords Go.Proofs.YtndbbgihpoiojaaGreatDoorW.PrintLast
open Go.Proofs.YtndbbgihpoiojaaGreatDoor.ev (InK EvK)
def sz (l : List ByteArray) : Nat := (l.map ByteArray.size).sum
theorem sz_app (a b : List ByteArray) : sz (a ++ b) = sz a + sz b := by unfold sz; rw [List.map_append, List.sum_append]
theorem sz_cons (a : ByteArray) (b : List ByteArray) : sz (a :: b) = a.size + sz b := by unfold sz; rw [List.map_cons, List.sum_cons]
theorem sz_nil : sz [] = 0 := rfl
theorem join_sz (l : List ByteArray) (c : UInt8) : (joinB l ⟨#[c]⟩).size ≤ sz l + l.length := by
 by_cases h : l = []
 · subst h; exact Nat.zero_le _
 have h1 := join_jl c (l.map (·.data.toList)) (by simpa using h)
 have e : (joinB l ⟨#[c]⟩).size = (Lib.join (l.map (·.data.toList)) [c]).length := by rw [Lib.size_eq, joinB_data]
 have e2 : jl (l.map (·.data.toList)) = sz l + l.length := by
  clear h h1 e
  induction l with
  | nil => rfl
  | cons x l ih =>
   rw [List.map_cons, jl_cons, ih, sz_cons, List.length_cons, Lib.size_eq x]
   omega
 omega
theorem itoa_sz {n : Int} (h : sc.InInt n) : (itoaB n).size ≤ 21 := by
 unfold itoaB
 rw [size_mk]
 exact Lib.itoa_length_le n h.1 h.2
theorem quote_sz (x : ByteArray) : (quoteB x).size ≤ 3 * x.size + 2 := by
 have h : ∀ l : List UInt8, (sc.qt l).length ≤ 3 * l.length := by
  refine sc.qt_ind (Nat.le_refl _) (fun l hne ih => ?_)
  have h1 := sc.width_posL l
  have h2 := Lib.decodeL_le l hne
  have h3 := sc.qform_length l (Lib.decodeL l).1 (Lib.decodeL l).2
  rw [List.length_drop] at ih
  rw [sc.qt_step hne, List.length_append]
  omega
 have := h x.data.toList
 unfold quoteB
 rw [size_mk, sc.quote_len, Lib.size_eq]
 omega
theorem fate_sz {f : S66} (h : FateOK f) : (fateW f).size ≤ 65 := by
 obtain ⟨h0, h1, h2, h3⟩ := h
 have a := itoa_sz h0
 have b := itoa_sz h1
 have c := itoa_sz (n := f.f2) ⟨by omega, by omega⟩
 unfold fateW
 rw [ByteArray.size_append, ByteArray.size_append, ByteArray.size_append, ByteArray.size_append]
 show (itoaB f.f0).size + 1 + (itoaB f.f1).size + 1 + (itoaB f.f2).size ≤ 65
 omega
theorem fates_sz : ∀ (l : List S66), (∀ f ∈ l, FateOK f) → sz (l.map fateW) ≤ 65 * l.length
 | [], _ => Nat.le_refl _
 | f :: l, h => by
  have a := fate_sz (h f (List.mem_cons_self ..))
  have b := fates_sz l (fun g hg => h g (List.mem_cons_of_mem _ hg))
  rw [List.map_cons, sz_cons, List.length_cons]
  omega
theorem strikes_sz : ∀ (st : List (List S66)), FatesOK st → sz (st.flatMap strikeW) ≤ 65 * fw st ∧ (st.flatMap strikeW).length = fw st
 | [], _ => ⟨Nat.le_refl _, rfl⟩
 | l :: st, h => by
  obtain ⟨a, b⟩ := strikes_sz st (fun x hx => h x (List.mem_cons_of_mem _ hx))
  have c := fates_sz l (h l (List.mem_cons_self ..))
  have e : fw (l :: st) = 1 + l.length + fw st := by unfold fw; rw [List.map_cons, List.sum_cons]
  rw [List.flatMap_cons, sz_app, List.length_append, e]
  unfold strikeW at a b ⊢
  rw [sz_cons, List.length_cons, List.length_map]
  have s1 : (⟨#[47]⟩ : ByteArray).size = 1 := rfl
  omega
theorem kind_sz (k : Nat) : (kindL.getD k ⟨#[]⟩).size ≤ 6 := by
 by_cases h : k < 8
 · have : ∀ j : Fin 8, (kindL.getD j.val ⟨#[]⟩).size ≤ 6 := by decide
   exact this ⟨k, h⟩
 rw [List.getD_eq_getElem?_getD, List.getElem?_eq_none (by show 8 ≤ k; omega)]
 exact Nat.zero_le _
theorem strOf_sz (l : List Int) : (strOfNums l).size = l.length := by
 unfold strOfNums
 simp [ByteArray.size]
theorem rg_of {x : S52} (h : EvK x) : EvRg x := by
 obtain ⟨h0, h1, ⟨h2, ⟨h3, h4⟩, h5, h6, h7⟩, h8, h9⟩ := h
 exact ⟨h1, h3, h4, h5, h7, h8, fun v hv => h6 v hv, fun l hl f hf => ⟨(h9 l hl f hf).1, (h9 l hl f hf).2.1, (h9 l hl f hf).2.2.1, (h9 l hl f hf).2.2.2⟩⟩
theorem ev_sz {x : S52} (h : EvRg x) : sz (evWords x) ≤ 200 + 65 * wv x ∧ (evWords x).length ≤ 9 + wv x := by
 obtain ⟨h1, h2, h3, h4, h5, h6, _, h8⟩ := h
 have e : wv x = 1 + x.f2.f3.size + x.f2.f4.size + x.f2.f5.length + fw x.f4 := rfl
 unfold evWords
 split
 · unfold askWords
   have a1 := itoa_sz h1
   have a2 := itoa_sz h2
   have a3 := itoa_sz h3
   have a4 := itoa_sz h4
   have a5 := itoa_sz h5
   have q1 := quote_sz x.f2.f3
   have q2 := quote_sz x.f2.f4
   have q3 := quote_sz (strOfNums x.f2.f5)
   rw [strOf_sz] at q3
   have kd := kind_sz x.f2.f0.toNat
   have s3 : (⟨#[97, 115, 107]⟩ : ByteArray).size = 3 := rfl
   simp only [sz_app, sz_cons, sz_nil, List.length_append, List.length_cons, List.length_nil]
   have p1 : sz (if x.f2.f0 > 1 then [itoaB x.f2.f1.f0, itoaB x.f2.f1.f1] else []) ≤ 42 ∧ (if x.f2.f0 > 1 then [itoaB x.f2.f1.f0, itoaB x.f2.f1.f1] else []).length ≤ 2 := by
    split
    · simp only [sz_cons, sz_nil, List.length_cons, List.length_nil]; omega
    exact ⟨Nat.zero_le _, Nat.zero_le _⟩
   have p2 : sz (if x.f2.f0 > 1 ∧ x.f2.f0 < 6 then [itoaB x.f2.f2, quoteB x.f2.f3] else []) ≤ 23 + 3 * x.f2.f3.size ∧ (if x.f2.f0 > 1 ∧ x.f2.f0 < 6 then [itoaB x.f2.f2, quoteB x.f2.f3] else []).length ≤ 2 := by
    split
    · simp only [sz_cons, sz_nil, List.length_cons, List.length_nil]; omega
    exact ⟨Nat.zero_le _, Nat.zero_le _⟩
   have p3 : sz (if x.f2.f0 = 3 then [quoteB x.f2.f4, itoaB x.f2.f6] else if x.f2.f0 = 4 then [quoteB (strOfNums x.f2.f5)] else []) ≤ 25 + 3 * x.f2.f4.size + 3 * x.f2.f5.length ∧ (if x.f2.f0 = 3 then [quoteB x.f2.f4, itoaB x.f2.f6] else if x.f2.f0 = 4 then [quoteB (strOfNums x.f2.f5)] else []).length ≤ 2 := by
    split
    · simp only [sz_cons, sz_nil, List.length_cons, List.length_nil]; omega
    split
    · simp only [sz_cons, sz_nil, List.length_cons, List.length_nil]; omega
    exact ⟨Nat.zero_le _, Nat.zero_le _⟩
   omega
 have a6 := itoa_sz h6
 obtain ⟨b1, b2⟩ := strikes_sz x.f4 h8
 have p : sz (evHead x.f0 x.f3) ≤ 31 ∧ (evHead x.f0 x.f3).length ≤ 2 := by
  unfold evHead
  split
  · decide
  split
  · simp only [sz_cons, sz_nil, List.length_cons, List.length_nil]
    have : (⟨#[118, 97, 99, 117, 117, 109]⟩ : ByteArray).size = 6 := rfl
    omega
  split
  · simp only [sz_cons, sz_nil, List.length_cons, List.length_nil]
    have : (⟨#[99, 104, 101, 99, 107, 112, 111, 105, 110, 116]⟩ : ByteArray).size = 10 := rfl
    omega
  decide
 rw [sz_app, List.length_append]
 omega
theorem evW_sz {x : S52} (h : EvRg x) : (evW x).size ≤ 209 + 66 * wv x := by
 have a := ev_sz h
 have b := join_sz (evWords x) 32
 unfold evW
 omega
theorem utoa_sz {n : Int} (h : 0 ≤ n) (h1 : n < 18446744073709551616) : (utoaB n).size ≤ 20 := by
 unfold utoaB
 rw [size_mk, Lib.decDigits_length]
 exact Lib.nDigits_le20 _ (by omega)
theorem map_sz {α : Type} (f : α → ByteArray) (g : α → Nat) : ∀ (l : List α), (∀ x ∈ l, (f x).size ≤ g x) → sz (l.map f) ≤ (l.map g).sum
 | [], _ => Nat.le_refl _
 | x :: l, h => by
  have a := h x (List.mem_cons_self ..)
  have b := map_sz f g l (fun y hy => h y (List.mem_cons_of_mem _ hy))
  rw [List.map_cons, sz_cons, List.map_cons, List.sum_cons]
  omega
theorem sum_const {α : Type} (c : Nat) (l : List α) : (l.map fun _ => c).sum = c * l.length := by
 induction l with
 | nil => simp
 | cons x l ih => rw [List.map_cons, List.sum_cons, ih, List.length_cons, Nat.mul_succ, Nat.add_comm]
theorem sum_lin (l : List S52) : (l.map fun x => 209 + 66 * wv x).sum = 209 * l.length + 66 * wvs l := by
 induction l with
 | nil => rfl
 | cons x l ih =>
  have e : wvs (x :: l) = wv x + wvs l := by unfold wvs; rw [List.map_cons, List.sum_cons]
  rw [List.map_cons, List.sum_cons, ih, List.length_cons, e]
  omega
theorem len_wvs (l : List S52) : l.length ≤ wvs l := by
 induction l with
 | nil => exact Nat.le_refl _
 | cons x l ih =>
  have e : wvs (x :: l) = wv x + wvs l := by unfold wvs; rw [List.map_cons, List.sum_cons]
  have : 1 ≤ wv x := by unfold wv; omega
  rw [List.length_cons, e]
  omega
theorem print_ok {l0 : List Int} {l1 : List S70} {l2 : List Int} {evs : List S52} (h0 : ∀ x ∈ l0, 0 ≤ x ∧ x < 18446744073709551616) (h1 : ∀ x ∈ l1, AccOK x) (h2 : ∀ x ∈ l2, sc.InInt x) (h3 : ∀ x ∈ evs, EvRg x)
 (hN : l0.length + l1.length + l2.length + wvs evs ≤ 1048576) : PrintOK (l0, l1, l2, evs) := by
 have hle := len_wvs evs
 have hev : ∀ x ∈ evs, EvIn x ∧ (evWords x).length ≤ 4294967296 ∧ (evW x).size ≤ 140737488355328 := by
  intro x hx
  have hr := h3 x hx
  have hm := mem_wvs hx
  have hw : wv x = 1 + x.f2.f3.size + x.f2.f4.size + x.f2.f5.length + fw x.f4 := rfl
  have a := (ev_sz hr).2
  have b := evW_sz hr
  obtain ⟨r1, r2, r3, r4, r5, r6, r7, r8⟩ := hr
  exact ⟨⟨r1, r2, r3, r4, r5, r6, by omega, by omega, by rw [strOf_sz]; omega, r8⟩, by omega, by omega⟩
 have hlen : (linesP (l0, l1, l2, evs)).length = l0.length + l1.length + l2.length + evs.length := by
  unfold linesP
  simp only [List.length_append, List.length_map]
 have hsz : sz (linesP (l0, l1, l2, evs)) ≤ 40 * l0.length + 140 * l1.length + 40 * l2.length + (209 * evs.length + 66 * wvs evs) := by
  unfold linesP
  simp only [sz_app]
  have a := map_sz labelW (fun _ => 40) l0 (fun x hx => by
   have u := utoa_sz (h0 x hx).1 (h0 x hx).2
   have := join_sz [⟨#[108, 97, 98, 101, 108]⟩, utoaB x] 32
   have s : (⟨#[108, 97, 98, 101, 108]⟩ : ByteArray).size = 5 := rfl
   simp only [sz_cons, sz_nil, List.length_cons, List.length_nil] at this
   unfold labelW
   omega)
  have b := map_sz accW (fun _ => 140) l1 (fun x hx => by
   obtain ⟨a0, a1, a2, a3, a4⟩ := h1 x hx
   have u0 := itoa_sz a0
   have u1 := itoa_sz a1
   have u2 := itoa_sz a2
   have u3 := itoa_sz a3
   have u4 := itoa_sz a4
   have := join_sz [⟨#[97, 99, 99, 111, 117, 110, 116]⟩, itoaB x.f0, itoaB x.f1, itoaB x.f2, itoaB x.f3, itoaB x.f4] 32
   have s : (⟨#[97, 99, 99, 111, 117, 110, 116]⟩ : ByteArray).size = 7 := rfl
   simp only [sz_cons, sz_nil, List.length_cons, List.length_nil] at this
   unfold accW
   omega)
  have c := map_sz sesW (fun _ => 40) l2 (fun x hx => by
   have u := itoa_sz (h2 x hx)
   have := join_sz [⟨#[115, 101, 115, 115, 105, 111, 110]⟩, itoaB x] 32
   have s : (⟨#[115, 101, 115, 115, 105, 111, 110]⟩ : ByteArray).size = 7 := rfl
   simp only [sz_cons, sz_nil, List.length_cons, List.length_nil] at this
   unfold sesW
   omega)
  have d := map_sz evW (fun x => 209 + 66 * wv x) evs (fun x hx => evW_sz (h3 x hx))
  rw [sum_const] at a b c
  rw [sum_lin] at d
  omega
 have hj := join_sz (linesP (l0, l1, l2, evs)) 10
 exact ⟨h0, h1, h2, hev, by omega, by omega⟩
end Go.Proofs.YtndbbgihpoiojaaGreatDoor.Q
namespace Go.Proofs.YtndbbgihpoiojaaGreatDoor.scriptPrints
open Go.ChangeShapes Go.WideShapes Go.ChangeAt Go.RowKit Go.Proofs.YtndbbgihpoiojaaGreatDoor.ev Go.Proofs.YtndbbgihpoiojaaGreatDoor.Q Go.Proofs.YtndbbgihpoiojaaGreatDoorW.PrintWords Go.Proofs.YtndbbgihpoiojaaGreatDoorW.PrintLast
theorem laidOut : laidOutB Tryz.prog = true := by kernel_rfl
abbrev args0 : Array Value := #[.agg #[.slice none 0 0, .slice none 0 0, .slice none 0 0], .slice none 0 0]
theorem contract (H : Type) (enc : TypeId × Value → H) (W : World) (base : Nat) (args : Array Value) (ds gs : List (DataW H)) (before : List MemPlace)
 (hval : ∀ (j : Nat) t v, Tryz.f3.params[j]? = some t → args[j]? = some v → Value.okWide Tryz.prog W .any base t v)
 (hW : DataW.Whole enc Tryz.prog Tryz.f3.params.toList Rows.scriptPrintsSpec.vars false W args.toList ds gs before)
 (hk : Rows.uptoSmall H (ds ++ gs) = true) (hL : laidMetH Tryz.prog laidL W) (hsh : W.ShapedOpen Tryz.prog) :
 Calls Tryz.prog 3 args W fun e W' => ∃ v, e = .returned v ∧ Rows.scriptPrintsSpec.post enc Tryz.prog Tryz.f3 false true false false W args v W' := by
 have hW' := hW
 obtain ⟨p, q, hA0, hV, rfl, hfz, hnd⟩ := hW
 have hA : DataW.TrodAll enc Tryz.prog W 0 (fun _ => true) true Tryz.f3.params.toList args.toList ds p := hA0
 rw [Tryz.params3] at hA hval
 obtain ⟨v0, vs0, d0, ds0, p0, q0, hargs, rfl, rfl, h0, r0⟩ := trodAll_cons hA
 obtain ⟨v1, vs1, d1, ds1, p1, q1, rfl, rfl, rfl, h1, r1⟩ := trodAll_cons r0
 obtain ⟨rfl, rfl, rfl⟩ := trodAll_nil r1
 obtain rfl : args = #[v0, v1] := by cases args; simp_all
 obtain ⟨rfl, rfl⟩ := trodVars_none hV
 obtain ⟨cs, rfl, hcs⟩ := okWide_struct Tryz.underlying26 (hval 0 26 v0 rfl rfl)
 obtain ⟨A3, n3, c3, rfl⟩ := okWide_slice Tryz.underlying27 (hval 1 27 v1 rfl rfl)
 have k0 := h0
 have k1 := h1
 have lt0 : ∀ x ∈ p0, x.block < W.heap.size := by obtain ⟨m, hm⟩ := k0; exact DataW.trod_lt m _ _ _ hm
 have lt1 : ∀ x ∈ p1, x.block < W.heap.size := by obtain ⟨m, hm⟩ := k1; exact DataW.trod_lt m _ _ _ hm
 obtain ⟨fuel, hf⟩ := h0
 obtain ⟨A0, c0, l0, A1, c1, l1, A2, c2, l2, hcl, g0, g1, g2, i0, i1, i2, b0⟩ := open26 hf
 obtain rfl : cs = #[.slice A0 l0.length c0, .slice A1 l1.length c1, .slice A2 l2.length c2] := by
  have : cs.toList = _ := hcl
  cases cs
  simpa using this
 obtain ⟨fuel1, hf1⟩ := h1
 obtain ⟨A3', c3', evs, e27, hc3, g3, i3, b3⟩ := open27 (v := .slice A3 n3 c3) hf1
 injection e27 with e27 e28 e29
 subst e27 e28 e29
 have hN : l0.length + l1.length + l2.length + wvs evs ≤ 1048576 := by
  have h1 := of_decide_eq_true hk
  simp only [List.append_nil, Rows.uptoBulkAll] at h1
  have e0 : (d0, p0).1 = d0 := rfl
  have e1 : (d1, p1).1 = d1 := rfl
  rw [e0] at b0
  rw [e1] at b3
  omega
 rw [Go.MakeChecks.laidMetH_plain _ _ _ (by kernel_rfl)] at hL
 have u0 : ∀ x ∈ l0, 0 ≤ x ∧ x < 18446744073709551616 := fun x hx => by
  have : 0 ≤ x ∧ x ≤ 18446744073709551615 := i0 x hx
  omega
 have u3 : ∀ x ∈ evs, EvRg x := fun x hx => rg_of (i3 x hx)
 refine (prints_calls A0 c0 l0 A1 c1 l1 A2 c2 l2 A3 c3 evs W (env_of hL hsh) g0 g1 g2 g3 hc3 (print_ok u0 i1 i2 u3 hN) (vast_small evs (by omega)) (printS (l0, l1, l2, evs)).1 (printS (l0, l1, l2, evs)).2 rfl (print_code _)).mono fun e W' ⟨he, bel⟩ => ?_
 subst he
 exact ⟨_, rfl, _, _, _, [], _, [], hW', trodAll_mk1 (shut_bool Tryz.underlying4 _), (trodAll_cons_mk (Below.trod laidOut (by kernel_rfl) (of_decide_eq_true (by kernel_rfl)) k0 bel lt0) (trodAll_cons_mk (Below.trod laidOut (by kernel_rfl) (of_decide_eq_true (by kernel_rfl)) k1 bel lt1) trodAll_mk0)), rfl, bel.frame _, fun h => by cases h⟩
theorem reads (os : Os) {H : Type} (enc : TypeId × Value → H) : ∃ places, DataW.whole enc Tryz.prog ((laidWorld os).forCall (fun _ _ => 0) ⟨#[], args0, []⟩).memory Tryz.f3.params.toList Rows.scriptPrintsSpec.vars false args0.toList 8 = some ([.agg [.nil, .nil, .nil], .nil], [], places) :=
 ⟨[], by kernel_rfl⟩
theorem liftedUpto (os : Os) (started : os.Started) (H : Type) (enc : TypeId × Value → H) (F : Stop.Interp) :
 ReturnsInHanded {} Tryz.checked os 3 .any ((Rows.OpenSpec.upto Rows.scriptPrintsSpec).preRow enc Tryz.prog Tryz.f3 Rows.scriptPrintsUptoRow.domain false Rows.scriptPrintsUptoRow.laid) (((Rows.OpenSpec.upto Rows.scriptPrintsSpec).at F).post enc Tryz.prog Tryz.f3 false true false false) := by
 obtain ⟨places, hx⟩ := reads os enc
 refine returnsInHanded_of_row (C := Tryz.checked) (s := Rows.OpenSpec.upto Rows.scriptPrintsSpec) own started (by kernel_rfl) Tryz.func3
  (witness_row_atRef (enc := enc) (C := Tryz.checked) false (laidWorld os) args0 rfl (by kernel_rfl) (by kernel_rfl) (by kernel_rfl)
   (OpenSpec.preRow_of_cond 8 hx (by kernel_rfl) (fun k hk => by cases hk; kernel_rfl) (by kernel_rfl) (laidWorld_metH os _))) ?_
 intro W base args ds gs before hval hW _ hcnd _ hL hsh _
 exact contract H enc W base args ds gs before hval hW (hcnd _ rfl) hL hsh
theorem saidUpto : Rows.ScriptPrintsUptoSaid :=
 OpenClaim.holds_of_cond 3 Tryz.f3 rfl rfl rfl rfl rfl rfl rfl ⟨rfl, rfl, rfl, rfl, rfl⟩ rfl rfl rfl rfl rfl (by kernel_rfl) Tryz.func3 (by kernel_rfl)
  (of_decide_eq_true (by kernel_rfl)) (by unfold Func.isWrapper; first | (rw [if_pos (by decide +kernel)]; kernel_rfl) | (rw [if_neg (by decide +kernel)]; exact ⟨rfl, rfl⟩))
  (fun os started H enc _ F => by rw [OpenClaim.pre_eq_preRow]; exact liftedUpto os started H enc F)
theorem plain (f : FuncId) (fn : Func) (hf : Tryz.pinned.checked.prog.funcNamed "cloister/cloisterlaw26.ScriptPrints" = some f) (hfn : Tryz.pinned.checked.prog.funcs[f]? = some fn) :
 true = Tryz.pinned.checked.prog.looks [] ∧ ∀ (j : Nat) t, fn.params[j]? = some t → Tryz.pinned.checked.prog.wantsStandIn t = false := by
 obtain rfl : f = 3 := Option.some.inj ((show Tryz.prog.funcNamed "cloister/cloisterlaw26.ScriptPrints" = some 3 by kernel_rfl).symm.trans hf) |>.symm
 obtain rfl : fn = Tryz.f3 := (Option.some.inj (Tryz.func3.symm.trans hfn)).symm
 have w26 : Tryz.prog.wantsStandIn 26 = false := by kernel_rfl
 have w27 : Tryz.prog.wantsStandIn 27 = false := by kernel_rfl
 refine ⟨by kernel_rfl, fun j t ht => ?_⟩
 rw [Tryz.params3] at ht
 have hm := Array.mem_of_getElem? ht
 simp at hm
 rcases hm with rfl | rfl
 · exact w26
 exact w27
theorem cardUpto : Rows.ScriptPrintsUptoCardSaid :=
 Claim7.holds_tied_plain_at .later [] _ _ _ _ saidUpto (fun _ h => by cases h) (by kernel_rfl) (fun _ h => by cases h) scriptPrintsUpto_row_tie rfl ⟨rfl, rfl⟩ (by kernel_rfl) rfl plain (by kernel_rfl)
end Go.Proofs.YtndbbgihpoiojaaGreatDoor.scriptPrints
