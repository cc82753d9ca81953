/- Walks of table functions (Find). -/
import Derived.Test.YtonjoboilpoamaaMap
import Derived.Test.YtonjoboilpoamaaT1
import Derived.WalkLawsBesides
import Derived.WalkSpells
import Derived.Lib.Hide
import Derived.Deep.QuietTactic
import Derived.BigQuiet
namespace Go.Proofs.Ytonjoboilpoamaa.tab
open Go.RowKit

theorem cellA {w : World} {a : Addr} {v : Value} (h : w.cell? a = some v) (o : Obj) : (w.alloc o).cell? a = some v :=
  (World.grownBy_alloc w o none).cell h (by simp)

theorem find_nil (s x y : Int) (w : World) :
    Calls Try.prog 19 #[.pointer none, .int .i64 s, .agg #[.int .i64 x, .int .i64 y]] w fun e w' => e = .returned (.tuple #[.int .i64 0, .int .i64 1]) ∧ Below w.heap.size w w' := by
  go_enter Try.func19, Try.ntmps19
  go_wp2
  go_ret2
  exact ⟨rfl, (Below.refl _ _).alloc (Nat.le_refl _) _⟩

theorem find_neg (tb : Nat) (s x y : Int) (w : World) (hs : s < 0) :
    Calls Try.prog 19 #[.pointer (some ⟨tb, 0, none⟩), .int .i64 s, .agg #[.int .i64 x, .int .i64 y]] w fun e w' => e = .returned (.tuple #[.int .i64 0, .int .i64 2]) ∧ Below w.heap.size w w' := by
  go_enter Try.func19, Try.ntmps19
  go_wp2_with (go_at_call 31; refine (is_neg tb s _ hs).mono ?_; rintro e w1 ⟨rfl, rfl⟩)
  go_ret2
  exact ⟨rfl, (Below.refl _ _).alloc (Nat.le_refl _) _⟩

theorem find_big (tb : Nat) (a2 : Addr) (ns : Nat) (s x y : Int) (w : World) (h2 : w.cell? ⟨tb, 2, none⟩ = some (.slice (some a2) ns ns)) (h0 : 0 ≤ s) (hs : (ns : Int) ≤ s) :
    Calls Try.prog 19 #[.pointer (some ⟨tb, 0, none⟩), .int .i64 s, .agg #[.int .i64 x, .int .i64 y]] w fun e w' => e = .returned (.tuple #[.int .i64 0, .int .i64 2]) ∧ Below w.heap.size w w' := by
  have hb := World.block_lt_of_cell? w _ h2
  go_enter Try.func19, Try.ntmps19
  go_wp2_with (go_at_call 31; refine (is_big tb a2 ns s _ (cellA h2 _) h0 hs).mono ?_; rintro e w1 ⟨rfl, rfl⟩)
  go_ret2
  exact ⟨rfl, (Below.refl _ _).alloc (Nat.le_refl _) _⟩

theorem find_stale (tb : Nat) (a2 : Addr) (ns : Nat) (life s x y : Int) (w : World) (h1 : w.cell? ⟨tb, 0, none⟩ = some (.int .i64 life)) (h2 : w.cell? ⟨tb, 2, none⟩ = some (.slice (some a2) ns ns)) (h0 : 0 ≤ s) (hs : s < ns)
    (hx : 1 ≤ x) (hx2 : x < life) :
    Calls Try.prog 19 #[.pointer (some ⟨tb, 0, none⟩), .int .i64 s, .agg #[.int .i64 x, .int .i64 y]] w fun e w' => e = .returned (.tuple #[.int .i64 0, .int .i64 180]) ∧ Below w.heap.size w w' := by
  have hb := World.block_lt_of_cell? w _ h2
  have d1 : decide (1 ≤ x) = true := by simp [hx]
  go_enter Try.func19, Try.ntmps19
  go_wp2_with (go_at_call 31; refine (is_yes tb a2 ns s _ (cellA h2 _) h0 hs).mono ?_; rintro e w1 ⟨rfl, rfl⟩)
  go_quiet (fail)
  go_wp2
  go_ret2
  exact ⟨rfl, by repeat (first | exact Below.refl _ _ | refine below_drewN ?_ _ | refine Below.drew ?_ | refine Below.alloc ?_ (by simp) _)⟩

theorem find_other (tb : Nat) (a2 : Addr) (ns : Nat) (life s x y : Int) (w : World) (h1 : w.cell? ⟨tb, 0, none⟩ = some (.int .i64 life)) (h2 : w.cell? ⟨tb, 2, none⟩ = some (.slice (some a2) ns ns)) (h0 : 0 ≤ s) (hs : s < ns)
    (hx : ¬ (1 ≤ x ∧ x < life)) (hx2 : x ≠ life) :
    Calls Try.prog 19 #[.pointer (some ⟨tb, 0, none⟩), .int .i64 s, .agg #[.int .i64 x, .int .i64 y]] w fun e w' => e = .returned (.tuple #[.int .i64 0, .int .i64 181]) ∧ Below w.heap.size w w' := by
  have hb := World.block_lt_of_cell? w _ h2
  have d3 : (x != life) = true := by simpa using hx2
  by_cases h : 1 ≤ x
  · have d1 : decide (1 ≤ x) = true := by simp [h]
    have d2 : life ≤ x := by omega
    have d2' : decide (x < life) = false := by simp; omega
    clear hx hx2
    go_enter Try.func19, Try.ntmps19
    go_wp2_with (go_at_call 31; refine (is_yes tb a2 ns s _ (cellA h2 _) h0 hs).mono ?_; rintro e w1 ⟨rfl, rfl⟩)
    go_quiet (fail)
    go_wp2
    go_quiet (fail)
    go_wp2
    go_ret2
    exact ⟨rfl, by repeat (first | exact Below.refl _ _ | refine below_drewN ?_ _ | refine Below.drew ?_ | refine Below.alloc ?_ (by simp) _)⟩
  · have d1 : decide (1 ≤ x) = false := by simpa using h
    clear hx hx2
    go_enter Try.func19, Try.ntmps19
    go_wp2_with (go_at_call 31; refine (is_yes tb a2 ns s _ (cellA h2 _) h0 hs).mono ?_; rintro e w1 ⟨rfl, rfl⟩)
    go_quiet (fail)
    go_wp2
    go_quiet (fail)
    go_wp2
    go_ret2
    exact ⟨rfl, by repeat (first | exact Below.refl _ _ | refine below_drewN ?_ _ | refine Below.drew ?_ | refine Below.alloc ?_ (by simp) _)⟩

theorem find_low (tb : Nat) (a2 : Addr) (ns : Nat) (life s y : Int) (w : World) (h1 : w.cell? ⟨tb, 0, none⟩ = some (.int .i64 life)) (h2 : w.cell? ⟨tb, 2, none⟩ = some (.slice (some a2) ns ns)) (h0 : 0 ≤ s) (hs : s < ns)
    (hl : 1 ≤ life) (hy : y < 1) :
    Calls Try.prog 19 #[.pointer (some ⟨tb, 0, none⟩), .int .i64 s, .agg #[.int .i64 life, .int .i64 y]] w fun e w' => e = .returned (.tuple #[.int .i64 0, .int .i64 181]) ∧ Below w.heap.size w w' := by
  have hb := World.block_lt_of_cell? w _ h2
  have d1 : decide (1 ≤ life) = true := by simp [hl]
  have d2 : decide (life < life) = false := by simp
  have d3 : (life != life) = false := by simp
  have d4 : decide (y < 1) = true := by simp [hy]
  go_enter Try.func19, Try.ntmps19
  go_wp2_with (go_at_call 31; refine (is_yes tb a2 ns s _ (cellA h2 _) h0 hs).mono ?_; rintro e w1 ⟨rfl, rfl⟩)
  go_quiet (fail)
  go_wp2
  go_quiet (fail)
  go_wp2
  go_ret2
  exact ⟨rfl, by repeat (first | exact Below.refl _ _ | refine below_drewN ?_ _ | refine Below.drew ?_ | refine Below.alloc ?_ (by simp) _)⟩

theorem find_high (tb gb ns : Nat) (life s y g : Int) (w : World) (h1 : w.cell? ⟨tb, 0, none⟩ = some (.int .i64 life)) (h2 : w.cell? ⟨tb, 2, none⟩ = some (.slice (some ⟨gb, 0, none⟩) ns ns)) (h0 : 0 ≤ s) (hs : s < ns)
    (hg : w.cell? ⟨gb, s.toNat, none⟩ = some (.int .i64 g)) (hl : 1 ≤ life) (hy : 1 ≤ y) (hy2 : g < y) :
    Calls Try.prog 19 #[.pointer (some ⟨tb, 0, none⟩), .int .i64 s, .agg #[.int .i64 life, .int .i64 y]] w fun e w' => e = .returned (.tuple #[.int .i64 0, .int .i64 181]) ∧ Below w.heap.size w w' := by
  have hb := World.block_lt_of_cell? w _ h2
  have hgb := World.block_lt_of_cell? w _ hg
  have d1 : decide (1 ≤ life) = true := by simp [hl]
  have d2 : decide (life < life) = false := by simp
  have d3 : (life != life) = false := by simp
  have d4 : decide (y < 1) = false := by simp; omega
  go_enter Try.func19, Try.ntmps19
  go_wp2_with (go_at_call 31; refine (is_yes tb ⟨gb, 0, none⟩ ns s _ (cellA h2 _) h0 hs).mono ?_; rintro e w1 ⟨rfl, rfl⟩)
  go_quiet (fail)
  go_wp2
  go_quiet (fail)
  go_wp2
  go_ret2
  exact ⟨rfl, by repeat (first | exact Below.refl _ _ | refine below_drewN ?_ _ | refine Below.drew ?_ | refine Below.alloc ?_ (by simp) _)⟩

theorem find_in (tb sb gb mb ns : Nat) (life s y g : Int) (v : Value) (ok : Bool) (w : World) (h1 : w.cell? ⟨tb, 0, none⟩ = some (.int .i64 life)) (h2 : w.cell? ⟨tb, 2, none⟩ = some (.slice (some ⟨gb, 0, none⟩) ns ns)) (h0 : 0 ≤ s) (hs : s < ns)
    (h3 : w.cell? ⟨tb, 1, none⟩ = some (.slice (some ⟨sb, 0, none⟩) ns ns)) (hm : w.cell? ⟨sb, s.toNat, none⟩ = some (.map (some mb)))
    (hlook : ∀ o n, (Instr.lookup 81 (.map (some mb)) (.int .i64 y) true).run Try.prog ((w.alloc o).drewN n) = .ok (.tuple #[v, .bool ok]) ((w.alloc o).drewN n))
    (hg : w.cell? ⟨gb, s.toNat, none⟩ = some (.int .i64 g)) (hl : 1 ≤ life) (hy : 1 ≤ y) (hy2 : y ≤ g) :
    Calls Try.prog 19 #[.pointer (some ⟨tb, 0, none⟩), .int .i64 s, .agg #[.int .i64 life, .int .i64 y]] w fun e w' => e = .returned (.tuple #[if ok then v else .int .i64 0, .int .i64 (if ok then 0 else 182)]) ∧ Below w.heap.size w w' := by
  have hb := World.block_lt_of_cell? w _ h2
  have hgb := World.block_lt_of_cell? w _ hg
  have hmb := World.block_lt_of_cell? w _ hm
  have d1 : decide (1 ≤ life) = true := by simp [hl]
  have d2 : decide (life < life) = false := by simp
  have d3 : (life != life) = false := by simp
  have d4 : decide (y < 1) = false := by simp; omega
  cases ok
  all_goals
    go_enter Try.func19, Try.ntmps19
    go_wp2_with (go_at_call 31; refine (is_yes tb ⟨gb, 0, none⟩ ns s _ (cellA h2 _) h0 hs).mono ?_; rintro e w1 ⟨rfl, rfl⟩)
    go_quiet (fail)
    go_wp2
    go_quiet (fail)
    go_wp2
    go_quiet (fail)
    go_wp2
    go_ret2
    exact ⟨rfl, by repeat (first | exact Below.refl _ _ | refine below_drewN ?_ _ | refine Below.drew ?_ | refine Below.alloc ?_ (by simp) _)⟩
end Go.Proofs.Ytonjoboilpoamaa.tab
