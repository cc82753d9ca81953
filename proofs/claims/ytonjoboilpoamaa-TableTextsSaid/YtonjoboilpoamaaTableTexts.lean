/- The law TableTexts of the given Go program returns true for every list of texts. No condition. -/
import Derived.Test.YtonjoboilpoamaaOpen
import Derived.Test.YtonjoboilpoamaaX2
import Derived.ShutString
import Derived.ChangeOld
import Derived.SizedLaws
namespace Go.Proofs.Ytonjoboilpoamaa.tableTexts
open Go.ChangeShapes Go.WideShapes Go.ChangeAt Go.RowKit Go.Proofs.Ytonjoboilpoamaa.opens Go.Proofs.Ytonjoboilpoamaa.texts
set_option linter.unusedVariables false

theorem own : ownKnob Try.prog.godebug = none := by kernel_rfl
theorem laidOut : laidOutB Try.prog = true := by kernel_rfl
theorem bytes31 : Try.prog.bytesOf 31 = 24 := by kernel_rfl

theorem open_texts {H : Type} {enc : TypeId × Value → H} {w : World} {base : Nat} {spare : Nat → Bool} {held : Bool} {fuel : Nat} {A : Option Addr} {len cap : Nat} {x : DataW H × List MemPlace} (h : DataW.trod enc Try.prog w base spare held fuel 23 [.slice A len cap] = some x) :
    ∃ ops : List Tx, ops.length = len ∧ Texts w A ops ∧ ((x.1 = .nil ∧ len = 0) ∨ ∃ el sp, x.1 = .slice el sp ∧ el.length = len) := by
  rcases open_slice_fields Try.underlying23 Try.underlying31 (by kernel_rfl) (by kernel_rfl) h with ⟨hcs, rfl⟩ | ⟨a, len', cap', m, D, Pl, hcs, _, hl, hm, hmm, hx, hi⟩
  · simp at hcs
    obtain ⟨rfl, rfl, rfl⟩ := hcs
    exact ⟨[], rfl, fun i hi => absurd hi (by simp), .inl ⟨rfl, rfl⟩⟩
  · simp at hcs
    obtain ⟨rfl, rfl, rfl⟩ := hcs
    have hle : len ≤ m := by rw [hmm]; split <;> omega
    rcases Nat.eq_zero_or_pos len with h0 | hpos
    · subst h0
      exact ⟨[], rfl, fun i hi => absurd hi (by simp), .inr ⟨_, _, by rw [hx], by simp⟩⟩
    obtain ⟨b, off, rfl⟩ : ∃ b off, a = ⟨b, off, none⟩ := by
      obtain ⟨ys, n, _, _, _, hf⟩ := hi 0 (by omega)
      obtain ⟨v0, y0, c0, _, t0⟩ := hf 0 _ rfl
      exact spot_none (by simpa using c0)
    obtain ⟨ops, ho, hr⟩ := list_of (α := Tx) len (fun i o => w.cell? ⟨b, off + i * 2, none⟩ = some (.int .i64 o.ses) ∧ w.cell? ⟨b, off + i * 2 + 1, none⟩ = some (.string o.text)) (fun i hil => by
      obtain ⟨ys, n, _, _, _, hf⟩ := hi i (by omega)
      obtain ⟨v0, y0, c0, _, t0⟩ := hf 0 _ rfl
      obtain ⟨v1, y1, c1, _, t1⟩ := hf 1 _ rfl
      obtain ⟨a0, e0, _, w0⟩ := DataW.trod_int Try.underlying3 t0
      obtain ⟨a1, e1, _⟩ := DataW.trod_string Try.underlying9 t1
      simp at e0 e1
      subst e0 e1
      exact ⟨⟨a0, a1⟩, cell_lit (k := i * 2) (j := 0) c0, cell_lit (k := i * 2) (j := 1) c1⟩)
    exact ⟨ops, ho, fun i hi' => ⟨b, off, rfl, hr i hi'⟩, .inr ⟨_, _, by rw [hx], by simp⟩⟩

set_option maxRecDepth 100000 in
theorem lifted (os : Os) (started : os.Started) (H : Type) (enc : TypeId × Value → H) :
    ReturnsInHanded {} Try.checked os 5 .any (Rows.tableTextsSpec.pre6 enc Try.prog Try.f5 Rows.tableTextsRow.domain false) (Rows.tableTextsSpec.post enc Try.prog Try.f5 false true false false) := by
  refine returnsInHanded_of_change_sized (C := Try.checked) own started (by kernel_rfl) Try.func5
    (ChangeSpec.witness6 (enc := enc) (C := Try.checked) false ⟨#[], #[.slice none 0 0], []⟩ 8 (by kernel_rfl) (by kernel_rfl) (by kernel_rfl) (by kernel_rfl)) ?_
  intro W base args ds gs before hval0 hW hcnd hsz0 _
  have hval : ∀ (j : Nat) t v, Try.f5.params[j]? = some t → args[j]? = some v → Value.okWide Try.prog W .any base t v := hval0
  have hsz : (DataW.weightsEach Try.prog (Try.f5.params.toList ++ Rows.tableTextsSpec.plain.varTypes Try.prog) (ds ++ gs)).all (· ≤ reachBytes) = true := hsz0
  clear hsz0
  have hW' := hW
  obtain ⟨p, q, hA0, hV, rfl, hfz, hnd⟩ := hW
  have hA : DataW.TrodAll enc Try.prog W 0 (fun _ => true) true Try.f5.params.toList args.toList ds p := hA0
  rw [Try.params5] at hA hval hsz
  obtain ⟨v0, vs0, d0, ds0, p0, q0, hargs, rfl, rfl, h0, r0⟩ := trodAll_cons hA
  obtain ⟨rfl, rfl, rfl⟩ := trodAll_nil r0
  obtain rfl : args = #[v0] := by cases args; simp_all
  obtain ⟨rfl, rfl⟩ := trodVars_none hV
  obtain ⟨a0, len0, cap0, rfl⟩ := okWide_slice Try.underlying23 (hval 0 23 v0 rfl rfl)
  have k0 := h0
  have lt0 : ∀ x ∈ p0, x.block < W.heap.size := by obtain ⟨m, hm⟩ := k0; exact DataW.trod_lt m _ _ _ hm
  obtain ⟨ops, hlen, hS, hsmall⟩ : ∃ ops : List Tx, ops.length = len0 ∧ Texts W a0 ops ∧ ops.length * 24 ≤ 140737488351232 := by
    obtain ⟨fuel, hf⟩ := h0
    obtain ⟨ops, h1, h2, h4⟩ := open_texts (by simpa [Value.cells] using hf)
    refine ⟨ops, h1, h2, ?_⟩
    rcases h4 with ⟨_, h4⟩ | ⟨el, sp, h4, h5⟩
    · omega
    · simp only at h4
      subst h4
      have := sized_slice hsz (j := 0) (t := 23) (e := 31) rfl rfl Try.underlying23
      rw [bytes31] at this
      have e2 : reachBytes = 140737488351232 := by decide
      have e3 : el.length * 24 ≤ (el.length + sp.length) * 24 := Nat.mul_le_mul_right _ (Nat.le_add_right _ _)
      omega
  subst hlen
  clear hA0 hval0
  refine (texts_walk a0 cap0 ops W hS hsmall).mono fun e W' ⟨he, bel⟩ => ?_
  subst he
  exact ⟨_, rfl, _, _, _, [], _, [], hW', trodAll_mk1 (shut_bool Try.underlying4 _), (trodAll_cons_mk (Below.trod laidOut (by kernel_rfl) (of_decide_eq_true (by kernel_rfl)) k0 bel lt0) trodAll_mk0), rfl, bel.frame _, fun h => by cases h⟩

theorem over : Rows.tableTextsRow.holds Try.pinned (OpenSpec.ofChange Rows.tableTextsSpec) :=
  OpenClaim.holds_of_wide 5 Try.f5 rfl rfl rfl rfl rfl rfl rfl ⟨rfl, rfl, rfl, rfl, rfl⟩ rfl rfl rfl rfl rfl (by kernel_rfl) Try.func5 (by kernel_rfl)
    (of_decide_eq_true (by kernel_rfl)) (by unfold Func.isWrapper; first | (rw [if_pos (by decide +kernel)]; kernel_rfl) | (rw [if_neg (by decide +kernel)]; exact ⟨rfl, rfl⟩))
    (fun os started H enc _ => lifted os started H enc)

theorem proved : Rows.TableTextsSaid := over
#print axioms proved
end Go.Proofs.Ytonjoboilpoamaa.tableTexts
