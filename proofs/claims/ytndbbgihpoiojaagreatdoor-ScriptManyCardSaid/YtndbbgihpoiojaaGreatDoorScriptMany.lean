/- Script: the law ScriptMany: its card. Called with a text and a number: true; they read as they did. -/
import Derived.Test.YtndbbgihpoiojaaGreatDoorScriptMany6
set_option linter.unusedVariables false
set_option linter.unusedSimpArgs false
set_option maxRecDepth 100000
set_option maxHeartbeats 8000000
namespace Go.Proofs.YtndbbgihpoiojaaGreatDoor.ev
open Go.RowKit Go.Lib
abbrev laidL : List (String × DataW Unit) := Rows.scriptQuotesRow.laid
theorem pow_eq : (Rows.laid_internal_strconv_uint64pow10 : DataW Unit) = tabData .u64 Lib.pow10Tab := by kernel_rfl
theorem acc_eq : (Rows.laid_unicode_utf8_acceptRanges : DataW Unit) = acceptData := by kernel_rfl
theorem first_eq : Rows.laid_unicode_utf8_first = firstData := Pinned.utf8First_eq
theorem nm0 : Tryz.prog.globalNamed "unicode/utf8.first" = some 0 := by kernel_rfl
theorem nm1 : Tryz.prog.globalNamed "unicode/utf8.acceptRanges" = some 1 := by kernel_rfl
theorem nm2 : Tryz.prog.globalNamed "internal/strconv.uint64pow10" = some 2 := by kernel_rfl
theorem nm6 : Tryz.prog.globalNamed "strconv.ErrSyntax" = some 6 := by kernel_rfl
theorem nm7 : Tryz.prog.globalNamed "strconv.ErrRange" = some 7 := by kernel_rfl
theorem ty2 : (Tryz.prog.globals[2]?).map (·.type) = some 163 := by kernel_rfl
theorem ty6 : (Tryz.prog.globals[6]?).map (·.type) = some 117 := by kernel_rfl
theorem ty7 : (Tryz.prog.globals[7]?).map (·.type) = some 117 := by kernel_rfl
theorem cells163 : Tryz.prog.cellsOf 163 = 20 := by kernel_rfl
theorem cellsU64 : Tryz.prog.cellsOf 67 = 1 := by kernel_rfl
theorem u8extra : U8Extra Tryz.prog Tryz.lays260_ren where
 n3 := nm0
 n4 := nm1
 y3 := by kernel_rfl
 y4 := by kernel_rfl
 c5 := by kernel_rfl
 c119 := by kernel_rfl
 c138 := by kernel_rfl
theorem iface_at {W : World} {n : String} {d : DataW Unit} {g : Nat} {nm : String} {d' : DataW Unit} (h : VarReads Tryz.prog W n d) (hd : d = .iface nm d') (hg : Tryz.prog.globalNamed n = some g) (ht : (Tryz.prog.globals[g]?).map (·.type) = some 117) : ∃ te pe, W.cell? ⟨g, 0, none⟩ = some (.iface te pe) := by
 subst hd
 obtain ⟨g', t, cs, fuel, p, hg', hty, hvar, hd⟩ := h
 obtain rfl := Option.some.inj (hg.symm.trans hg')
 obtain rfl := Option.some.inj (ht.symm.trans hty)
 obtain ⟨f1, u, v, hcs, _, _⟩ := iface_of_trod Tryz.underlying117 hd
 refine ⟨u, v, ?_⟩
 rw [World.var?_cell hg hvar 0, ← Array.getElem?_toList, hcs]
 rfl
theorem env_of {W : World} (hL : laidMet Tryz.prog laidL W) (hsh : W.ShapedOpen Tryz.prog) : sc.Env W where
 pow := by
  have h := Go.Lib.laidMet.reads hL (n := "internal/strconv.uint64pow10") (d := Rows.laid_internal_strconv_uint64pow10) (.tail _ (.tail _ (.head _)))
  rw [pow_eq] at h
  obtain ⟨g, t, cs, fuel, p, hg, hty, hvar, hd⟩ := h
  obtain rfl := Option.some.inj (nm2.symm.trans hg)
  obtain rfl := Option.some.inj (ty2.symm.trans hty)
  have hcs := cells_of_tab Tryz.underlying163 Tryz.underlying67 cellsU64 cells163 hd
  unfold TabIs
  rw [hvar, ← hcs]
 utf := by
  have h3 := Go.Lib.laidMet.reads hL (n := "unicode/utf8.first") (d := Rows.laid_unicode_utf8_first) (.tail _ (.tail _ (.tail _ (.tail _ (.tail _ (.tail _ (.head _)))))))
  have h4 := Go.Lib.laidMet.reads hL (n := "unicode/utf8.acceptRanges") (d := Rows.laid_unicode_utf8_acceptRanges) (.tail _ (.tail _ (.tail _ (.head _))))
  rw [first_eq] at h3
  rw [acc_eq] at h4
  exact utf8Tabs_of_readsT (U8Types.of260 Tryz.lays260) u8extra h3 h4
 max := Go.Proofs.cell_of_shapedOpen_int (zero := #[.int .i64 0]) (t := 3) hsh (of_decide_eq_true (by kernel_rfl)) (by kernel_rfl) rfl (by kernel_rfl) (by kernel_rfl) Tryz.underlying3
 syn := iface_at (Go.Lib.laidMet.reads hL (n := "strconv.ErrSyntax") (d := Rows.laid_strconv_ErrSyntax) (.tail _ (.tail _ (.tail _ (.tail _ (.tail _ (.head _))))))) rfl nm6 ty6
 rng := iface_at (Go.Lib.laidMet.reads hL (n := "strconv.ErrRange") (d := Rows.laid_strconv_ErrRange) (.tail _ (.tail _ (.tail _ (.tail _ (.head _)))))) rfl nm7 ty7
theorem own : ownKnob Tryz.prog.godebug = none := by kernel_rfl
abbrev synS : ByteArray := { data := #[105, 110, 118, 97, 108, 105, 100, 32, 115, 121, 110, 116, 97, 120] }
abbrev rngS : ByteArray := { data := #[118, 97, 108, 117, 101, 32, 111, 117, 116, 32, 111, 102, 32, 114, 97, 110, 103, 101] }
noncomputable def low : Nat := (World.holding Tryz.prog default ⟨#[], #[], []⟩).heap.size
def put (cs : Array Value) : Obj → Obj
 | .cells _ t frozen => .cells cs t frozen
 | o => o
def flat : DataW Unit → List Value
 | .agg l => l.flatMap fun d => match d with
  | .lit (.int k z) => [.int k z]
  | .agg m => m.flatMap fun d => match d with
   | .lit (.int k z) => [.int k z]
   | _ => []
  | _ => []
 | _ => []
noncomputable def laidWorld (os : Os) : World :=
 let w0 := World.holding Tryz.prog os ⟨#[.cells #[.string synS] 195, .cells #[.string rngS] 195], #[], []⟩
 { w0 with heap := (((((((w0.heap.modify 0 (put (flat firstData).toArray)).modify 1 (put (flat acceptData).toArray)).modify 2 (put (flat (tabData .u64 Lib.pow10Tab)).toArray)).modify 4 (put (flat Rows.laid_math_bits_deBruijn32tab).toArray)).modify 5 (put (flat Rows.laid_math_bits_deBruijn64tab).toArray)).modify 6 (put #[.iface 193 (.pointer (some ⟨low, 0, none⟩))])).modify 7 (put #[.iface 193 (.pointer (some ⟨low + 1, 0, none⟩))])) }
theorem laidWorld_met (os : Os) (args : Array Value) : laidMet Tryz.prog laidL ((laidWorld os).forCall (fun _ _ => 0) ⟨#[], args, []⟩).memory :=
 laidMet_of_run' 8 (by kernel_rfl) (by kernel_rfl)
theorem laidWorld_metH (os : Os) (args : Array Value) : laidMetH Tryz.prog laidL ((laidWorld os).forCall (fun _ _ => 0) ⟨#[], args, []⟩).memory := by
 rw [Go.MakeChecks.laidMetH_plain _ _ _ (by kernel_rfl)]
 exact laidWorld_met os args
end Go.Proofs.YtndbbgihpoiojaaGreatDoor.ev
namespace Go.Proofs.YtndbbgihpoiojaaGreatDoor.scriptMany
open Go.ChangeShapes Go.WideShapes Go.ChangeAt Go.RowKit Go.Proofs.YtndbbgihpoiojaaGreatDoor.ev Go.Proofs.YtndbbgihpoiojaaGreatDoor.Q Go.Proofs.YtndbbgihpoiojaaGreatDoorW.PrintWords Go.Proofs.YtndbbgihpoiojaaGreatDoorW.PrintLast
abbrev args0 : Array Value := #[.string ⟨#[]⟩, .int .i64 0]
theorem contract (H : Type) (enc : TypeId × Value → H) (W : World) (base : Nat) (args : Array Value) (ds gs : List (DataW H)) (before : List MemPlace)
 (hval : ∀ (j : Nat) t v, Tryz.f8.params[j]? = some t → args[j]? = some v → Value.okWide Tryz.prog W .any base t v)
 (hW : DataW.Whole enc Tryz.prog Tryz.f8.params.toList Rows.scriptManySpec.vars false W args.toList ds gs before)
 (hL : laidMetH Tryz.prog laidL W) (hsh : W.ShapedOpen Tryz.prog) :
 Calls Tryz.prog 8 args W fun e W' => ∃ v, e = .returned v ∧ Rows.scriptManySpec.post enc Tryz.prog Tryz.f8 false true false false W args v W' := by
 have hW' := hW
 obtain ⟨p, q, hA0, hV, rfl, hfz, hnd⟩ := hW
 have hA : DataW.TrodAll enc Tryz.prog W 0 (fun _ => true) true Tryz.f8.params.toList args.toList ds p := hA0
 rw [Tryz.params8] at hA hval
 obtain ⟨v0, vs0, d0, ds0, p0, q0, hargs, rfl, rfl, h0, r0⟩ := trodAll_cons hA
 obtain ⟨v1, vs1, d1, ds1, p1, q1, rfl, rfl, rfl, h1, r1⟩ := trodAll_cons r0
 obtain ⟨rfl, rfl, rfl⟩ := trodAll_nil r1
 obtain rfl : args = #[v0, v1] := by cases args; simp_all
 obtain ⟨rfl, rfl⟩ := trodVars_none hV
 obtain ⟨a, rfl, rfl, rfl, ha⟩ := Go.ChangeMaps.open_string Tryz.underlying9 (hval 0 9 v0 rfl rfl) h0
 obtain ⟨n, rfl, rfl, rfl, hn⟩ := open_int Tryz.underlying3 (hval 1 3 v1 rfl rfl) h1
 rw [Go.MakeChecks.laidMetH_plain _ _ _ (by kernel_rfl)] at hL
 have hni : n ≤ 9223372036854775807 := by
  simp only [Lit.wf, IntKind.min, IntKind.max, IntKind.signed, IntKind.bits, Bool.and_eq_true, decide_eq_true_eq, if_true] at hn
  omega
 refine (many_calls a n W (env_of hL hsh) hni).mono fun e W' ⟨he, bel⟩ => ?_
 subst he
 exact ⟨_, rfl, _, _, _, [], _, [], hW', trodAll_mk1 (shut_bool Tryz.underlying4 _), trodAll_cons_mk (Go.ChangeMaps.shut_string Tryz.underlying9 ha) (trodAll_cons_mk (shut_int Tryz.underlying3 hn) trodAll_mk0), rfl, bel.frame _, fun h => by cases h⟩
theorem reads (os : Os) {H : Type} (enc : TypeId × Value → H) : ∃ places, DataW.whole enc Tryz.prog ((laidWorld os).forCall (fun _ _ => 0) ⟨#[], args0, []⟩).memory Tryz.f8.params.toList Rows.scriptManySpec.vars false args0.toList 8 = some ([.lit (.string []), .lit (.int .i64 0)], [], places) :=
 ⟨[], by kernel_rfl⟩
theorem lifted (os : Os) (started : os.Started) (H : Type) (enc : TypeId × Value → H) (F : Stop.Interp) :
 ReturnsInHanded {} Tryz.checked os 8 .any ((OpenSpec.ofChange Rows.scriptManySpec).preRow enc Tryz.prog Tryz.f8 Rows.scriptManyRow.domain false Rows.scriptManyRow.laid) (((OpenSpec.ofChange Rows.scriptManySpec).at F).post enc Tryz.prog Tryz.f8 false true false false) := by
 obtain ⟨places, hx⟩ := reads os enc
 refine returnsInHanded_of_row (C := Tryz.checked) (s := OpenSpec.ofChange Rows.scriptManySpec) own started (by kernel_rfl) Tryz.func8
  (witness_row_atRef (enc := enc) (C := Tryz.checked) false (laidWorld os) args0 rfl (by kernel_rfl) (by kernel_rfl) (by kernel_rfl)
   (OpenSpec.preRow_of_cond 8 hx (by kernel_rfl) (fun k hk => by cases hk) (by kernel_rfl) (laidWorld_metH os _))) ?_
 intro W base args ds gs before hval hW _ hcnd _ hL hsh _
 exact contract H enc W base args ds gs before hval hW hL hsh
theorem said : Rows.ScriptManySaid :=
 OpenClaim.holds_of_cond 8 Tryz.f8 rfl rfl rfl rfl rfl rfl rfl ⟨rfl, rfl, rfl, rfl, rfl⟩ rfl rfl rfl rfl rfl (by kernel_rfl) Tryz.func8 (by kernel_rfl)
  (of_decide_eq_true (by kernel_rfl)) (by unfold Func.isWrapper; first | (rw [if_pos (by decide +kernel)]; kernel_rfl) | (rw [if_neg (by decide +kernel)]; exact ⟨rfl, rfl⟩))
  (fun os started H enc _ F => by rw [OpenClaim.pre_eq_preRow]; exact lifted os started H enc F)
theorem plain (f : FuncId) (fn : Func) (hf : Tryz.pinned.checked.prog.funcNamed "cloister/cloisterlaw26.ScriptMany" = some f) (hfn : Tryz.pinned.checked.prog.funcs[f]? = some fn) :
 true = Tryz.pinned.checked.prog.looks [] ∧ ∀ (j : Nat) t, fn.params[j]? = some t → Tryz.pinned.checked.prog.wantsStandIn t = false := by
 obtain rfl : f = 8 := Option.some.inj ((show Tryz.prog.funcNamed "cloister/cloisterlaw26.ScriptMany" = some 8 by kernel_rfl).symm.trans hf) |>.symm
 obtain rfl : fn = Tryz.f8 := (Option.some.inj (Tryz.func8.symm.trans hfn)).symm
 have w3 : Tryz.prog.wantsStandIn 3 = false := by kernel_rfl
 have w9 : Tryz.prog.wantsStandIn 9 = false := by kernel_rfl
 refine ⟨by kernel_rfl, fun j t ht => ?_⟩
 rw [Tryz.params8] at ht
 have hm := Array.mem_of_getElem? ht
 simp at hm
 rcases hm with rfl | rfl
 · exact w9
 exact w3
theorem card : Rows.ScriptManyCardSaid :=
 Claim7.holds_tied_plain_at .later [] _ _ _ _ said (fun _ h => by cases h) (by kernel_rfl) (fun _ h => by cases h) scriptMany_row_tie rfl ⟨rfl, rfl⟩ (by kernel_rfl) rfl plain (by kernel_rfl)
end Go.Proofs.YtndbbgihpoiojaaGreatDoor.scriptMany
