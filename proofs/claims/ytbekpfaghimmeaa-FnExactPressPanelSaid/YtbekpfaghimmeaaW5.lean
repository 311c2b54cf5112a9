/- The exact laws of panels, walked; RescueTime's two loops. -/
import Derived.Test.YtbekpfaghimmeaaW4
set_option linter.unusedVariables false
set_option linter.unusedSimpArgs false
namespace Go.Proofs.Ytbekpfaghimmeaa
open Go.RowKit

theorem exactValidPanel_walk (m f : Int) (mv op : Bool) (w : World) :
    Calls Try.prog 3 #[.agg #[.int .i64 m, .int .i64 f, .bool mv, .bool op]] w fun e w' => e = .returned (.bool true) ∧ Below w.heap.size w w' := by
  cases hk : Pn.ok ⟨m, f, mv, op⟩
  all_goals
    go_enter Try.func3, Try.ntmps3
    go_wp2_with (first | (go_at_call 13; refine (toPanel_c _ _ _ _ _).mono ?_; rintro e w1 ⟨rfl, hb1⟩; obtain ⟨os1, d1, rfl⟩ := is_plus hb1; clear hb1) | (go_at_call 14; refine (validPanel_c _ _ _ _ _).mono ?_; rintro e w1 ⟨rfl, hb1⟩; obtain ⟨os1, d1, rfl⟩ := is_plus hb1; clear hb1) | (go_at_call 12; refine (sValidPanel_c _ _ _ _ _).mono ?_; rintro e w1 ⟨rfl, hb1⟩; obtain ⟨os1, d1, rfl⟩ := is_plus hb1; clear hb1))
    go_returns
    exact ⟨rfl, by (repeat' (first | (with_reducible exact Below.refl _ _) | (with_reducible assumption) | (with_reducible refine Below.alloc ?_ ?_ _) | (with_reducible refine below_plus ?_ ?_ _ _) | (with_reducible refine Below.drew ?_) | (with_reducible refine Below.setCell ?_ ?_ _) | go_size | (simp; omega)))⟩

theorem exactPressPanel_walk (m f : Int) (mv op : Bool) (ev : Int) (w : World) :
    Calls Try.prog 5 #[.agg #[.int .i64 m, .int .i64 f, .bool mv, .bool op], .int .i64 ev] w fun e w' => e = .returned (.bool true) ∧ Below w.heap.size w w' := by
  have c1 := fun w => pressPanel_c m f mv op ev w
  have c2 := fun w => sPressPanel_c m f mv op ev w
  obtain ⟨⟨qm, qf, qv, qo⟩, hq⟩ : ∃ q, pressV ⟨m, f, mv, op⟩ ev = q := ⟨_, rfl⟩
  rw [hq] at c1 c2
  have C1 := Lib.hid c1
  have C2 := Lib.hid c2
  clear c1 c2 hq
  go_enter Try.func5, Try.ntmps5
  go_wp2_with (first | (go_at_call 13; refine (toPanel_c _ _ _ _ _).mono ?_; rintro e w1 ⟨rfl, hb1⟩; obtain ⟨os1, d1, rfl⟩ := is_plus hb1; clear hb1) | (go_at_call 16; refine (C1.out _).mono ?_; rintro e w1 ⟨rfl, hb1⟩; obtain ⟨os1, d1, rfl⟩ := is_plus hb1; clear hb1) | (go_at_call 17; refine (C2.out _).mono ?_; rintro e w1 ⟨rfl, hb1⟩; obtain ⟨os1, d1, rfl⟩ := is_plus hb1; clear hb1) | (go_at_call 18; refine (eqPanel_c _ _ _ _ _).mono ?_; rintro e w1 ⟨rfl, hb1⟩; obtain ⟨os1, d1, rfl⟩ := is_plus hb1; clear hb1))

  go_returns
  exact ⟨rfl, by (repeat' (first | (with_reducible exact Below.refl _ _) | (with_reducible assumption) | (with_reducible refine Below.alloc ?_ ?_ _) | (with_reducible refine below_plus ?_ ?_ _ _) | (with_reducible refine Below.drew ?_) | (with_reducible refine Below.setCell ?_ ?_ _) | go_size | (simp; omega)))⟩
end Go.Proofs.Ytbekpfaghimmeaa
