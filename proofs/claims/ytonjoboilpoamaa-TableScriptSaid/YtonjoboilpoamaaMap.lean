/- A map block keyed by ints, whatever its elements: a law on look-up, store, delete, len; for any program. -/
import Derived.Test.YtonjoboilpoamaaRows
import Derived.WalkKit
import Derived.Maps.OwnSet
namespace Go.Proofs.Ytonjoboilpoamaa.imap
open Go.RowKit Go.ChangeMaps Go.MapKept
open Go.Maps (Keyed int_keyed keyOf_int_mk)

/-- Block b of w is a map of n entries, keyed by ints, that holds f. -/
def IntMap (w : World) (b : Nat) (f : Int → Option Value) (n : Nat) : Prop :=
  ∃ es clock, w.heap[b]? = some (.map es clock) ∧ es.size = n ∧ (∀ e ∈ es.toList, ∃ a, e.key = .int .i64 a ∧ (Lit.int .i64 a).wf = true ∧ f a = some e.val) ∧
    (∀ a v, f a = some v → ∃ e ∈ es.toList, e.key = .int .i64 a) ∧ es.toList.Pairwise (fun x y => x.key ≠ y.key)

theorem IntMap.lt {w : World} {b : Nat} {f : Int → Option Value} {n : Nat} (h : IntMap w b f n) : b < w.heap.size := by
  obtain ⟨es, clock, hb, _⟩ := h
  exact (Array.getElem?_eq_some_iff.1 hb).1

theorem IntMap.pos {w : World} {b : Nat} {f : Int → Option Value} {n : Nat} (h : IntMap w b f n) {a : Int} {v : Value} (hf : f a = some v) : 0 < n := by
  obtain ⟨es, clock, _, hs, _, h2, _⟩ := h
  obtain ⟨e, he, _⟩ := h2 a v hf
  have := List.length_pos_of_mem he
  simp at this
  omega

theorem IntMap.of_block {w w' : World} {b : Nat} {f : Int → Option Value} {n : Nat} (h : IntMap w b f n) (hb : w'.heap[b]? = w.heap[b]?) : IntMap w' b f n := by
  obtain ⟨es, clock, h1, r⟩ := h
  exact ⟨es, clock, hb.trans h1, r⟩

theorem IntMap.made (w : World) : IntMap (w.alloc (.map #[] 0)) w.heap.size (fun _ => none) 0 :=
  ⟨#[], 0, (MapKept.heap_alloc w _).1, rfl, by simp, by simp, by simp⟩

theorem found {P : Program} {k : TypeId} (K : Keyed P k) (hk : P.underlying k = some (.int .i64)) (w : World) {es : Array MapEntry} {f : Int → Option Value} (h1 : ∀ e ∈ es.toList, ∃ a, e.key = .int .i64 a ∧ (Lit.int .i64 a).wf = true ∧ f a = some e.val)
    (h2 : ∀ a v, f a = some v → ∃ e ∈ es.toList, e.key = .int .i64 a) {a : Int} (ha : (Lit.int .i64 a).wf = true) :
    ((Instr.findKey k (.int .i64 a) es.toList).run P w = .ok none w ∧ f a = none ∧ ∀ e ∈ es.toList, e.key ≠ .int .i64 a) ∨
    ∃ j e, (Instr.findKey k (.int .i64 a) es.toList).run P w = .ok (some (j, e.val)) w ∧ es.toList[j]? = some e ∧ e.key = .int .i64 a ∧ f a = some e.val := by
  have hkeys : ∀ e ∈ es.toList, ∃ l, keyOf P k e.key = some l := fun e he => by
    obtain ⟨a, ha, hw, _⟩ := h1 e he
    exact ⟨_, by rw [ha]; exact keyOf_int_mk hk hw⟩
  rcases K.find w (keyOf_int_mk hk ha) es.toList hkeys with ⟨r1, r2⟩ | ⟨j, e, r1, r2, r3⟩
  · refine .inl ⟨r1, ?_, r2⟩
    cases hf : f a with
    | none => rfl
    | some v =>
      obtain ⟨e, he, hke⟩ := h2 a v hf
      exact absurd hke (r2 e he)
  · refine .inr ⟨j, e, r1, r2, r3, ?_⟩
    obtain ⟨a', ha', _, hf⟩ := h1 e (List.mem_of_getElem? r2)
    rw [r3] at ha'
    cases ha'
    exact hf

section
variable {P : Program} {k t e : TypeId} {w : World} {b n : Nat} {f : Int → Option Value}

theorem IntMap.look (h : IntMap w b f n) (hk : P.underlying k = some (.int .i64)) (ht : P.underlying t = some (.map k e)) {z : Value} (hz : (zeroValue e).run P w = .ok z w) {a : Int} (ha : (Lit.int .i64 a).wf = true) :
    (Instr.lookup t (.map (some b)) (.int .i64 a) true).run P w = .ok (.tuple #[(f a).getD z, .bool (f a).isSome]) w := by
  obtain ⟨es, clock, hb, hs, h1, h2, h3⟩ := h
  have K := int_keyed hk
  rcases found K hk w h1 h2 ha with ⟨r1, r2, _⟩ | ⟨j, e0, r1, r2, r3, r4⟩
  · simp [Instr.lookup, run_underlying ht, MapKept.run_getObj_map hb, K.check w _ (keyOf_int_mk hk ha), r1, hz, Result.andThen, r2]
  · simp [Instr.lookup, run_underlying ht, MapKept.run_getObj_map hb, K.check w _ (keyOf_int_mk hk ha), r1, Result.andThen, r4]

theorem IntMap.len (h : IntMap w b f n) (ht : P.underlying t = some (.map k e)) (ty : TypeId) : (Builtin.len_ #[t] ty #[.map (some b)]).run P w = .ok (.int .i64 n) w := by
  obtain ⟨es, clock, hb, hs, _⟩ := h
  subst hs
  simp [Builtin.len_, run_underlying ht, MapKept.run_getObj_map hb, goInt, Result.andThen]

def setAt (f : Int → Option Value) (a : Int) (v : Option Value) : Int → Option Value := fun x => if x = a then v else f x

theorem others {es : Array MapEntry} (h3 : es.toList.Pairwise (fun x y => x.key ≠ y.key)) {j i : Nat} {e0 x : MapEntry} (hj : es.toList[j]? = some e0) (hi : es.toList[i]? = some x) (hne : i ≠ j) : x.key ≠ e0.key := by
  rw [List.pairwise_iff_getElem] at h3
  obtain ⟨hj1, hj2⟩ := List.getElem?_eq_some_iff.1 hj
  obtain ⟨hi1, hi2⟩ := List.getElem?_eq_some_iff.1 hi
  rcases Nat.lt_or_gt_of_ne hne with hlt | hgt
  · have := h3 i j hi1 hj1 hlt; rw [hj2, hi2] at this; exact this
  · have := h3 j i hj1 hi1 hgt; rw [hj2, hi2] at this; exact fun e => this e.symm

theorem IntMap.put (h : IntMap w b f n) (hk : P.underlying k = some (.int .i64)) (ht : P.underlying t = some (.map k e)) {a : Int} (ha : (Lit.int .i64 a).wf = true) (v : Value) :
    ∃ es clock es' clock', w.heap[b]? = some (.map es clock) ∧ (Instr.mapUpdate t (.map (some b)) (.int .i64 a) v).run P w = .ok () (setBlock w b (.map es' clock')) ∧
      IntMap (setBlock w b (.map es' clock')) b (setAt f a (some v)) (if (f a).isSome then n else n + 1) := by
  obtain ⟨es, clock, hb, hs, h1, h2, h3⟩ := h
  have K := int_keyed hk
  rcases found K hk w h1 h2 ha with ⟨r1, r2, r5⟩ | ⟨j, e0, r1, r2, r3, r4⟩
  · refine ⟨es, clock, es.push ⟨.int .i64 a, v, clock⟩, clock + 1, hb, ?_, es.push ⟨.int .i64 a, v, clock⟩, clock + 1, heap_setBlock_same hb _, ?_, ?_, ?_, ?_⟩
    · simp [Instr.mapUpdate, run_underlying ht, MapKept.run_getObj_map hb, K.check w false (keyOf_int_mk hk ha), r1, MapKept.run_setObj_map _ hb, Result.andThen, setBlock]
    · simp [r2, hs]
    · intro x hx
      simp only [Array.toList_push, List.mem_append, List.mem_singleton] at hx
      rcases hx with hx | rfl
      · obtain ⟨a', ha', hw', hf'⟩ := h1 x hx
        refine ⟨a', ha', hw', ?_⟩
        have : a' ≠ a := fun e1 => r5 x hx (by rw [ha', e1])
        simp [setAt, this, hf']
      · exact ⟨a, rfl, ha, by simp [setAt]⟩
    · intro a' v' hf'
      by_cases e1 : a' = a
      · subst e1
        exact ⟨⟨.int .i64 a', v, clock⟩, by simp, rfl⟩
      · simp only [setAt, e1, if_false] at hf'
        obtain ⟨x, hx, hkx⟩ := h2 a' v' hf'
        exact ⟨x, by simp [hx], hkx⟩
    · rw [Array.toList_push, List.pairwise_append]
      refine ⟨h3, by simp, ?_⟩
      intro x hx y hy
      simp only [List.mem_singleton] at hy
      subst hy
      exact r5 x hx
  · have hj : es[j]? = some e0 := by simpa using r2
    have hjl : j < es.toList.length := (List.getElem?_eq_some_iff.1 r2).1
    have hlist : (es.modify j (fun e' => { e' with key := .int .i64 a, val := v })).toList = es.toList.set j { e0 with key := .int .i64 a, val := v } := by rw [Array.toList_modify, modify_eq_set _ _ _ _ r2]
    refine ⟨es, clock, es.modify j (fun e' => { e' with key := .int .i64 a, val := v }), clock, hb, ?_, es.modify j (fun e' => { e' with key := .int .i64 a, val := v }), clock, heap_setBlock_same hb _, ?_, ?_, ?_, ?_⟩
    · simp [Instr.mapUpdate, run_underlying ht, MapKept.run_getObj_map hb, K.check w false (keyOf_int_mk hk ha), r1, hj, r3, K.stays w (keyOf_int_mk hk ha), MapKept.run_setObj_map _ hb, Result.andThen, setBlock]
    · simp [r4, hs]
    · intro x hx
      rw [hlist] at hx
      obtain ⟨i, hi, ex⟩ := List.getElem_of_mem hx
      rw [List.getElem_set] at ex
      split at ex
      · subst ex; exact ⟨a, rfl, ha, by simp [setAt]⟩
      · rename_i hne
        have hi' : i < es.toList.length := by simpa using hi
        obtain ⟨a', ha', hw', hf'⟩ := h1 x (ex ▸ List.getElem_mem hi')
        refine ⟨a', ha', hw', ?_⟩
        have hoth := others h3 r2 (by rw [List.getElem?_eq_getElem hi', ex] : es.toList[i]? = some x) (fun e1 => hne e1.symm)
        have : a' ≠ a := fun e1 => hoth (by rw [ha', e1, r3])
        simp [setAt, this, hf']
    · intro a' v' hf'
      rw [hlist]
      by_cases e1 : a' = a
      · subst e1
        exact ⟨{ e0 with key := .int .i64 a', val := v }, List.mem_iff_getElem.2 ⟨j, by simpa using hjl, by simp⟩, rfl⟩
      · simp only [setAt, e1, if_false] at hf'
        obtain ⟨x, hx, hkx⟩ := h2 a' v' hf'
        obtain ⟨i, hi, ex⟩ := List.getElem_of_mem hx
        have hne : j ≠ i := by
          intro e2
          subst e2
          obtain ⟨_, hj2⟩ := List.getElem?_eq_some_iff.1 r2
          rw [hj2] at ex
          subst ex
          rw [r3] at hkx
          cases hkx
          exact e1 rfl
        exact ⟨x, List.mem_iff_getElem.2 ⟨i, by simpa using hi, by rw [List.getElem_set]; rw [if_neg hne]; exact ex⟩, hkx⟩
    · rw [hlist, List.pairwise_iff_getElem]
      intro i l hi hl hil
      rw [List.pairwise_iff_getElem] at h3
      have hi' : i < es.toList.length := by simpa using hi
      have hl' : l < es.toList.length := by simpa using hl
      have hb3 := h3 i l hi' hl' hil
      obtain ⟨_, hj2⟩ := List.getElem?_eq_some_iff.1 r2
      rw [List.getElem_set, List.getElem_set]
      split
      · split
        · omega
        · rename_i e1 _; subst e1; rw [hj2, r3] at hb3; exact hb3
      · split
        · rename_i _ e1; subst e1; rw [hj2, r3] at hb3; exact hb3
        · exact hb3

theorem IntMap.del (h : IntMap w b f n) (hk : P.underlying k = some (.int .i64)) (ht : P.underlying t = some (.map k e)) {a : Int} (ha : (Lit.int .i64 a).wf = true) (ty : TypeId) :
    ∃ es clock es' clock', w.heap[b]? = some (.map es clock) ∧ (Builtin.delete_ #[t, k] ty #[.map (some b), .int .i64 a]).run P w = .ok (.tuple #[]) (setBlock w b (.map es' clock')) ∧
      IntMap (setBlock w b (.map es' clock')) b (setAt f a none) (if (f a).isSome then n - 1 else n) := by
  obtain ⟨es, clock, hb, hs, h1, h2, h3⟩ := h
  have K := int_keyed hk
  rcases found K hk w h1 h2 ha with ⟨r1, r2, r5⟩ | ⟨j, e0, r1, r2, r3, r4⟩
  · refine ⟨es, clock, es, clock, hb, ?_, es, clock, heap_setBlock_same hb _, by simp [r2, hs], ?_, ?_, h3⟩
    · simp [Builtin.delete_, run_underlying ht, MapKept.run_getObj_map hb, K.check w _ (keyOf_int_mk hk ha), r1, MapKept.run_setObj_map _ hb, Result.andThen, setBlock]
    · intro x hx
      obtain ⟨a', ha', hw', hf'⟩ := h1 x hx
      have : a' ≠ a := fun e1 => r5 x hx (by rw [ha', e1])
      exact ⟨a', ha', hw', by simp [setAt, this, hf']⟩
    · intro a' v' hf'
      by_cases e1 : a' = a
      · simp [setAt, e1] at hf'
      · simp only [setAt, e1, if_false] at hf'
        exact h2 a' v' hf'
  · have hjl : j < es.toList.length := (List.getElem?_eq_some_iff.1 r2).1
    have hjs : j < es.size := by simpa using hjl
    have hsub : (es.eraseIdxIfInBounds j).toList = es.toList.eraseIdx j := by
      unfold Array.eraseIdxIfInBounds
      rw [dif_pos hjs]
      simp
    have hsz : (es.eraseIdxIfInBounds j).size = es.size - 1 := by
      unfold Array.eraseIdxIfInBounds
      rw [dif_pos hjs]
      simp
    refine ⟨es, clock, es.eraseIdxIfInBounds j, clock, hb, ?_, es.eraseIdxIfInBounds j, clock, heap_setBlock_same hb _, by simp [r4, hsz, hs], ?_, ?_, ?_⟩
    · simp [Builtin.delete_, run_underlying ht, MapKept.run_getObj_map hb, K.check w _ (keyOf_int_mk hk ha), r1, MapKept.run_setObj_map _ hb, Result.andThen, setBlock]
    · intro x hx
      rw [hsub] at hx
      obtain ⟨i, hne, hi⟩ := List.mem_eraseIdx_iff_getElem?.1 hx
      obtain ⟨a', ha', hw', hf'⟩ := h1 x (List.mem_of_getElem? hi)
      have hoth := others h3 r2 hi hne
      have : a' ≠ a := fun e1 => hoth (by rw [ha', e1, r3])
      exact ⟨a', ha', hw', by simp [setAt, this, hf']⟩
    · intro a' v' hf'
      by_cases e1 : a' = a
      · simp [setAt, e1] at hf'
      · simp only [setAt, e1, if_false] at hf'
        obtain ⟨x, hx, hkx⟩ := h2 a' v' hf'
        obtain ⟨i, hi, ex⟩ := List.getElem_of_mem hx
        have hne : i ≠ j := by
          intro e2
          subst e2
          obtain ⟨_, hj2⟩ := List.getElem?_eq_some_iff.1 r2
          rw [hj2] at ex
          subst ex
          rw [r3] at hkx
          cases hkx
          exact e1 rfl
        exact ⟨x, by rw [hsub]; exact List.mem_eraseIdx_iff_getElem?.2 ⟨i, hne, by rw [List.getElem?_eq_getElem hi, ex]⟩, hkx⟩
    · rw [hsub]
      exact h3.sublist (List.eraseIdx_sublist _ _)
end
end Go.Proofs.Ytonjoboilpoamaa.imap
