/- Walks of table functions (is). -/
import Derived.Test.YtonjoboilpoamaaRows
import Derived.WalkKit
import Derived.WalkLawsBesides
import Derived.Lib.Hide
namespace Go.Proofs.Ytonjoboilpoamaa.tab
open Go.RowKit

theorem is_yes (tb : Nat) (a2 : Addr) (ns : Nat) (s : Int) (w : World) (h2 : w.cell? ⟨tb, 2, none⟩ = some (.slice (some a2) ns ns)) (h0 : 0 ≤ s) (h1 : s < ns) :
    Calls Try.prog 31 #[.pointer (some ⟨tb, 0, none⟩), .int .i64 s] w fun e w' => e = .returned (.bool true) ∧ w = w' := by
  go_enter Try.func31, Try.ntmps31
  go_wp2
  go_ret
  exact ⟨rfl, rfl⟩

theorem is_neg (tb : Nat) (s : Int) (w : World) (h0 : s < 0) :
    Calls Try.prog 31 #[.pointer (some ⟨tb, 0, none⟩), .int .i64 s] w fun e w' => e = .returned (.bool false) ∧ w = w' := by
  go_enter Try.func31, Try.ntmps31
  go_wp2
  go_ret
  exact ⟨rfl, rfl⟩

theorem is_big (tb : Nat) (a2 : Addr) (ns : Nat) (s : Int) (w : World) (h2 : w.cell? ⟨tb, 2, none⟩ = some (.slice (some a2) ns ns)) (h0 : 0 ≤ s) (h1 : (ns : Int) ≤ s) :
    Calls Try.prog 31 #[.pointer (some ⟨tb, 0, none⟩), .int .i64 s] w fun e w' => e = .returned (.bool false) ∧ w = w' := by
  go_enter Try.func31, Try.ntmps31
  go_wp2
  go_ret
  exact ⟨by simp; omega, rfl⟩

theorem life_nil (w : World) :
    Calls Try.prog 23 #[.pointer none] w fun e w' => e = .returned (.int .i64 0) ∧ w = w' := by
  go_enter Try.func23, Try.ntmps23
  go_wp2
  go_ret
  exact ⟨rfl, rfl⟩

theorem life_some (tb : Nat) (l : Int) (w : World) (h2 : w.cell? ⟨tb, 0, none⟩ = some (.int .i64 l)) :
    Calls Try.prog 23 #[.pointer (some ⟨tb, 0, none⟩)] w fun e w' => e = .returned (.int .i64 l) ∧ w = w' := by
  go_enter Try.func23, Try.ntmps23
  go_wp2
  go_ret
  exact ⟨rfl, rfl⟩

theorem turn_nil (w : World) :
    Calls Try.prog 17 #[.pointer none] w fun e w' => e = .returned (.tuple #[]) ∧ w = w' := by
  go_enter Try.func17, Try.ntmps17
  go_wp2
  go_end0
  exact ⟨rfl, rfl⟩
end Go.Proofs.Ytonjoboilpoamaa.tab
