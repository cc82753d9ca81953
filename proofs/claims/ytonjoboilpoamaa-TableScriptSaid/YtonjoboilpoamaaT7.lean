/- Add, End, Turn: one contract each, whatever is asked of a table that is there. -/
import Derived.Test.YtonjoboilpoamaaHead
namespace Go.Proofs.Ytonjoboilpoamaa.tab
set_option linter.unusedVariables false
open Go.RowKit Go.Proofs.Ytonjoboilpoamaa.wld Go.Proofs.Ytonjoboilpoamaa.imap

/-- what Add answers: the handle, the error -/
def Tb.addR (T : Tb) (s : Int) : Int × Int × Int := if s < 0 ∨ (T.ns : Int) ≤ s then (0, 0, 2) else (T.life, T.g s.toNat + 1, 0)
def Tb.addS (T : Tb) (s : Int) (x : Value) : Tb := if s < 0 ∨ (T.ns : Int) ≤ s then T else T.add s.toNat x

theorem foot_add (tb : Nat) (T : Tb) (s : Int) (x : Value) : foot tb (T.addS s x) = foot tb T := by
  unfold Tb.addS
  split <;> rfl

theorem add_all (tb : Nat) (T : Tb) (s : Int) (x : Value) (w : World) (hT : TabAt w tb T) (hg : ∀ j, j < T.ns → T.g j < 9223372036854775807) :
    Calls Try.prog 15 #[.pointer (some ⟨tb, 0, none⟩), .int .i64 s, x] w fun e w' => e = .returned (.tuple #[.agg #[.int .i64 (T.addR s).1, .int .i64 (T.addR s).2.1], .int .i64 (T.addR s).2.2]) ∧ TabAt w' tb (T.addS s x) ∧ Kept (foot tb T) w w' := by
  have cT2 : w.cell? ⟨tb, 2, none⟩ = some (.slice (some ⟨T.gb, 0, none⟩) T.ns T.ns) := cell_of hT.blkT (by simp)
  unfold Tb.addR Tb.addS
  by_cases h1 : s < 0
  · rw [if_pos (.inl h1), if_pos (.inl h1)]
    exact (add_neg tb s x w h1).mono fun e w' ⟨he, hb⟩ => ⟨he, hT.kept (Kept.of_below hb (fun _ => False)) (fun _ _ h => h), Kept.of_below hb _⟩
  · by_cases h2 : (T.ns : Int) ≤ s
    · rw [if_pos (.inr h2), if_pos (.inr h2)]
      exact (add_big tb _ T.ns s x w cT2 (by omega) h2).mono fun e w' ⟨he, hb⟩ => ⟨he, hT.kept (Kept.of_below hb (fun _ => False)) (fun _ _ h => h), Kept.of_below hb _⟩
    · obtain ⟨n, rfl⟩ := Int.eq_ofNat_of_zero_le (by omega : 0 ≤ s)
      have hn : n < T.ns := by omega
      rw [if_neg (by omega), if_neg (by omega)]
      have en : ((n : Int)).toNat = n := by omega
      rw [en]
      exact (add_any tb T n x w hT hn (hg n hn)).mono fun e w' ⟨he, ht, hk⟩ => ⟨he, ht, hk.mono (fun b _ h => by
        rcases h with h | h
        · exact .inr (.inr (.inl h))
        · exact .inr (.inr (.inr ⟨n, hn, h⟩)))⟩

/-- what End answers -/
def Tb.endR (T : Tb) (s x y : Int) : Int := (T.find (.int .i64 0) s x y).2
def Tb.endS (T : Tb) (s x y : Int) : Tb := if T.endR s x y = 0 then T.drop s.toNat y else T

theorem foot_end (tb : Nat) (T : Tb) (s x y : Int) : foot tb (T.endS s x y) = foot tb T := by
  unfold Tb.endS
  split <;> rfl

theorem find_zero {T : Tb} {z : Value} {s x y : Int} (h : (T.find z s x y).2 = 0) : ∃ n : Nat, s = n ∧ n < T.ns ∧ x = T.life ∧ 1 ≤ y ∧ y ≤ T.g n ∧ ∃ v, T.f n y = some v := by
  unfold Tb.find at h
  split at h
  · simp at h
  · split at h
    · simp at h
    · split at h
      · simp at h
      · obtain ⟨n, rfl⟩ := Int.eq_ofNat_of_zero_le (by omega : 0 ≤ s)
        have en : ((n : Int)).toNat = n := by omega
        rename_i h1 h2 h3
        rw [en] at h h3
        refine ⟨n, rfl, by omega, by omega, by omega, by omega, ?_⟩
        split at h
        · simp at h
        · exact ⟨_, by assumption⟩

theorem end_all (tb : Nat) (T : Tb) (s x y : Int) (w : World) (hT : TabAt w tb T) :
    Calls Try.prog 16 #[.pointer (some ⟨tb, 0, none⟩), .int .i64 s, .agg #[.int .i64 x, .int .i64 y]] w fun e w' => e = .returned (.int .i64 (T.endR s x y)) ∧ TabAt w' tb (T.endS s x y) ∧ Kept (foot tb T) w w' := by
  by_cases h : T.endR s x y = 0
  · obtain ⟨n, rfl, hn, rfl, h1, h2, v, hv⟩ := find_zero h
    unfold Tb.endS
    rw [if_pos h, h]
    have en : ((n : Int)).toNat = n := by omega
    rw [en]
    exact (end_yes tb T n y v w hT hn h1 h2 hv).mono fun e w' ⟨he, ht, hk⟩ => ⟨he, ht, hk.mono (fun b _ h => .inr (.inr (.inr ⟨n, hn, h⟩)))⟩
  · unfold Tb.endS
    rw [if_neg h]
    exact (end_no tb T s x y w hT h).mono fun e w' ⟨he, hb⟩ => ⟨he, hT.kept (Kept.of_below hb (fun _ => False)) (fun _ _ h => h), Kept.of_below hb _⟩

theorem turn_all (tb : Nat) (T : Tb) (w : World) (hT : TabAt w tb T) (hl : T.life < 9223372036854775807) :
    Calls Try.prog 17 #[.pointer (some ⟨tb, 0, none⟩)] w fun e w' => e = .returned (.tuple #[]) ∧ TabAt w' tb (fresh w.heap.size T.gb T.ns (T.life + 1)) ∧ Kept (foot tb T) w w' ∧
      ∀ b, foot tb (fresh w.heap.size T.gb T.ns (T.life + 1)) b → foot tb T b ∨ w.heap.size ≤ b :=
  (turn_any tb T w hT hl).mono fun e w' ⟨he, ht, hk⟩ => ⟨he, ht, hk.mono (fun b _ h => by
      rcases h with h | h
      · exact .inl h
      · exact .inr (.inr (.inl h))), fun b hb => by
      rcases hb with h | h | h | ⟨j, _, h⟩
      · exact .inl (.inl h)
      · exact .inr (by simp [fresh] at h; omega)
      · exact .inl (.inr (.inr (.inl h)))
      · exact .inr (by simp [fresh] at h; omega)⟩
end Go.Proofs.Ytonjoboilpoamaa.tab
