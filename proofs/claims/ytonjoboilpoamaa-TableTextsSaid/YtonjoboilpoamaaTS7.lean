/- Add of a table of texts: one contract. -/
import Derived.Test.YtonjoboilpoamaaTS
namespace Go.Proofs.Ytonjoboilpoamaa.tabs
set_option linter.unusedVariables false
open Go.RowKit Go.Proofs.Ytonjoboilpoamaa.wld Go.Proofs.Ytonjoboilpoamaa.imap

/-- what Add answers: the handle, the error -/
def Tb.addR (T : Tb) (s : Int) : Int × Int × Int := if s < 0 ∨ (T.ns : Int) ≤ s then (0, 0, 2) else (T.life, T.g s.toNat + 1, 0)
def Tb.addS (T : Tb) (s : Int) (x : Value) : Tb := if s < 0 ∨ (T.ns : Int) ≤ s then T else T.add s.toNat x

theorem foot_add (tb : Nat) (T : Tb) (s : Int) (x : Value) : foot tb (T.addS s x) = foot tb T := by
  unfold Tb.addS
  split <;> rfl

theorem add_all (tb : Nat) (T : Tb) (s : Int) (x : Value) (w : World) (hT : TabAt w tb T) (hg : ∀ j, j < T.ns → T.g j < 9223372036854775807) :
    Calls Try.prog 12 #[.pointer (some ⟨tb, 0, none⟩), .int .i64 s, x] w fun e w' => e = .returned (.tuple #[.agg #[.int .i64 (T.addR s).1, .int .i64 (T.addR s).2.1], .int .i64 (T.addR s).2.2]) ∧ TabAt w' tb (T.addS s x) ∧ Kept (foot tb T) w w' := by
  have cT2 : w.cell? ⟨tb, 2, none⟩ = some (.slice (some ⟨T.gb, 0, none⟩) T.ns T.ns) := cell_of hT.blkT (by simp)
  unfold Tb.addR Tb.addS
  by_cases h1 : s < 0
  · rw [if_pos (.inl h1), if_pos (.inl h1)]
    exact (add_neg tb s x w h1).mono fun e w' ⟨he, hb⟩ => ⟨he, hT.kept (Kept.of_below hb (fun _ => False)) (fun _ _ h => h), Kept.of_below hb _⟩
  · by_cases h2 : (T.ns : Int) ≤ s
    · rw [if_pos (.inr h2), if_pos (.inr h2)]
      exact (add_big tb _ T.ns s x w cT2 (by omega) h2).mono fun e w' ⟨he, hb⟩ => ⟨he, hT.kept (Kept.of_below hb (fun _ => False)) (fun _ _ h => h), Kept.of_below hb _⟩
    · obtain ⟨n, rfl⟩ := Int.eq_ofNat_of_zero_le (by omega : 0 ≤ s)
      have hn : n < T.ns := by omega
      rw [if_neg (by omega), if_neg (by omega)]
      have en : ((n : Int)).toNat = n := by omega
      rw [en]
      exact (add_any tb T n x w hT hn (hg n hn)).mono fun e w' ⟨he, ht, hk⟩ => ⟨he, ht, hk.mono (fun b _ h => by
        rcases h with h | h
        · exact .inr (.inr (.inl h))
        · exact .inr (.inr (.inr ⟨n, hn, h⟩)))⟩


end Go.Proofs.Ytonjoboilpoamaa.tabs
