/- Contracts of the panel functions of the reference and of the laws' helpers. -/
import Derived.Test.YtbekpfaghimmeaaW2
set_option linter.unusedVariables false
set_option linter.unusedSimpArgs false
namespace Go.Proofs.Ytbekpfaghimmeaa
open Go.RowKit

theorem inRange_c (x lo hi : Int) (w : World) :
    Calls Try.prog 31 #[.int .i64 x, .int .i64 lo, .int .i64 hi] w fun e w' => e = .returned (.bool (inB x lo hi)) ∧ w = w' := by
  by_cases h : lo ≤ x
  · go_enter Try.func31, Try.ntmps31
    go_wp2
    go_ret
    exact ⟨by simp [inB, h], rfl⟩
  · have h2 : decide (lo ≤ x) = false := by simpa using h
    go_enter Try.func31, Try.ntmps31
    go_wp2
    go_ret
    exact ⟨by simp [inB, h2], rfl⟩

theorem svalidPanel_c (m f : Int) (mv op : Bool) (w : World) :
    Calls Try.prog 23 #[.agg #[.int .i64 m, .int .i64 f, .bool mv, .bool op]] w fun e w' => e = .returned (.bool (Pn.ok ⟨m, f, mv, op⟩)) ∧ Below w.heap.size w w' := by
  cases h1 : inB m 0 2
  · go_enter Try.func23, Try.ntmps23
    go_wp2_with (go_at_call 31; refine (inRange_c _ _ _ _).mono ?_; rintro e w1 ⟨rfl, rfl⟩)
    go_ret
    exact ⟨by simp [Pn.ok, h1], by (repeat' (first | (with_reducible exact Below.refl _ _) | (with_reducible assumption) | (with_reducible refine Below.alloc ?_ ?_ _) | (with_reducible refine below_plus ?_ ?_ _ _) | (with_reducible refine Below.drew ?_) | (with_reducible refine Below.setCell ?_ ?_ _) | (with_reducible refine below_adv ?_ ?_ _) | go_size | (simp; omega)))⟩
  cases h2 : inB f 0 15
  · go_enter Try.func23, Try.ntmps23
    go_wp2_with (go_at_call 31; refine (inRange_c _ _ _ _).mono ?_; rintro e w1 ⟨rfl, rfl⟩)
    go_ret
    exact ⟨by simp [Pn.ok, h1, h2], by (repeat' (first | (with_reducible exact Below.refl _ _) | (with_reducible assumption) | (with_reducible refine Below.alloc ?_ ?_ _) | (with_reducible refine below_plus ?_ ?_ _ _) | (with_reducible refine Below.drew ?_) | (with_reducible refine Below.setCell ?_ ?_ _) | (with_reducible refine below_adv ?_ ?_ _) | go_size | (simp; omega)))⟩
  cases h3 : (m == 2) <;> cases mv <;> cases op
  all_goals
    go_enter Try.func23, Try.ntmps23
    go_wp2_with (go_at_call 31; refine (inRange_c _ _ _ _).mono ?_; rintro e w1 ⟨rfl, rfl⟩)
    go_ret
    exact ⟨by simp [Pn.ok, h1, h2, h3, bne], by (repeat' (first | (with_reducible exact Below.refl _ _) | (with_reducible assumption) | (with_reducible refine Below.alloc ?_ ?_ _) | (with_reducible refine below_plus ?_ ?_ _ _) | (with_reducible refine Below.drew ?_) | (with_reducible refine Below.setCell ?_ ?_ _) | (with_reducible refine below_adv ?_ ?_ _) | go_size | (simp; omega)))⟩

theorem sValidPanel_c (m f : Int) (mv op : Bool) (w : World) :
    Calls Try.prog 12 #[.agg #[.int .i64 m, .int .i64 f, .bool mv, .bool op]] w fun e w' => e = .returned (.bool (Pn.ok ⟨m, f, mv, op⟩)) ∧ Below w.heap.size w w' := by
  go_enter Try.func12, Try.ntmps12
  go_wp2_with (go_at_call 23; refine (svalidPanel_c _ _ _ _ _).mono ?_; rintro e w1 ⟨rfl, hb1⟩; obtain ⟨os1, d1, rfl⟩ := is_plus hb1; clear hb1)
  go_ret
  exact ⟨rfl, by (repeat' (first | (with_reducible exact Below.refl _ _) | (with_reducible assumption) | (with_reducible refine Below.alloc ?_ ?_ _) | (with_reducible refine below_plus ?_ ?_ _ _) | (with_reducible refine Below.drew ?_) | (with_reducible refine Below.setCell ?_ ?_ _) | (with_reducible refine below_adv ?_ ?_ _) | go_size | (simp; omega)))⟩

theorem toPanel_c (m f : Int) (mv op : Bool) (w : World) :
    Calls Try.prog 13 #[.agg #[.int .i64 m, .int .i64 f, .bool mv, .bool op]] w fun e w' => e = .returned (Pn.v ⟨m, f, mv, op⟩) ∧ Below w.heap.size w w' := by
  go_enter Try.func13, Try.ntmps13
  go_wp2
  go_returns
  exact ⟨rfl, by (repeat' (first | (with_reducible exact Below.refl _ _) | (with_reducible assumption) | (with_reducible refine Below.alloc ?_ ?_ _) | (with_reducible refine below_plus ?_ ?_ _ _) | (with_reducible refine Below.drew ?_) | (with_reducible refine Below.setCell ?_ ?_ _) | (with_reducible refine below_adv ?_ ?_ _) | go_size | (simp; omega)))⟩

theorem eqPanel_c (m f : Int) (mv op : Bool) (w : World) :
    Calls Try.prog 18 #[.agg #[.int .i64 m, .int .i64 f, .bool mv, .bool op], .agg #[.int .i64 m, .int .i64 f, .bool mv, .bool op]] w fun e w' => e = .returned (.bool true) ∧ Below w.heap.size w w' := by
  cases mv <;> cases op
  all_goals
    go_enter Try.func18, Try.ntmps18
    go_wp2
    go_returns
    exact ⟨rfl, by (repeat' (first | (with_reducible exact Below.refl _ _) | (with_reducible assumption) | (with_reducible refine Below.alloc ?_ ?_ _) | (with_reducible refine below_plus ?_ ?_ _ _) | (with_reducible refine Below.drew ?_) | (with_reducible refine Below.setCell ?_ ?_ _) | (with_reducible refine below_adv ?_ ?_ _) | go_size | (simp; omega)))⟩

theorem Pn.ok_all {m f : Int} {mv op : Bool} (h : Pn.ok ⟨m, f, mv, op⟩ = true) : 0 ≤ m ∧ m ≤ 2 ∧ 0 ≤ f ∧ f ≤ 15 ∧ (mv = true → op = false) ∧ (mv = true → m ≠ 2) := by
  simp [Pn.ok, inB] at h
  refine ⟨by omega, by omega, by omega, by omega, ?_, ?_⟩
  · intro hm
    rcases h.2 with h | h
    · rw [hm] at h; cases h
    · exact h.1
  · intro hm
    rcases h.2 with h | h
    · rw [hm] at h; cases h
    · exact h.2

theorem rescue_c (f : Int) (mv op : Bool) (w : World) (h0 : 0 ≤ f) (h1 : f ≤ 15) (hv : mv = true → op = false) :
    Calls Try.prog 34 #[.agg #[.int .i64 1, .int .i64 f, .bool mv, .bool op]] w fun e w' => e = .returned (tickP ⟨1, f, mv, op⟩).v ∧ Below w.heap.size w w' := by
  by_cases hf : 0 < f
  · have hf0 : f ≠ 0 := by omega
    cases op
    · go_enter Try.func34, Try.ntmps34
      go_wp2
      go_returns
      exact ⟨by simp [tickP, Pn.v, hf0], by (repeat' (first | (with_reducible exact Below.refl _ _) | (with_reducible assumption) | (with_reducible refine Below.alloc ?_ ?_ _) | (with_reducible refine below_plus ?_ ?_ _ _) | (with_reducible refine Below.drew ?_) | (with_reducible refine Below.setCell ?_ ?_ _) | (with_reducible refine below_adv ?_ ?_ _) | go_size | (simp; omega)))⟩
    · cases mv
      · go_enter Try.func34, Try.ntmps34
        go_wp2
        go_returns
        exact ⟨by simp [tickP, Pn.v, hf0], by (repeat' (first | (with_reducible exact Below.refl _ _) | (with_reducible assumption) | (with_reducible refine Below.alloc ?_ ?_ _) | (with_reducible refine below_plus ?_ ?_ _ _) | (with_reducible refine Below.drew ?_) | (with_reducible refine Below.setCell ?_ ?_ _) | (with_reducible refine below_adv ?_ ?_ _) | go_size | (simp; omega)))⟩
      · cases hv rfl
  · obtain rfl : f = 0 := by omega
    go_enter Try.func34, Try.ntmps34
    go_wp2
    go_returns
    exact ⟨by simp [tickP, Pn.v], by (repeat' (first | (with_reducible exact Below.refl _ _) | (with_reducible assumption) | (with_reducible refine Below.alloc ?_ ?_ _) | (with_reducible refine below_plus ?_ ?_ _ _) | (with_reducible refine Below.drew ?_) | (with_reducible refine Below.setCell ?_ ?_ _) | (with_reducible refine below_adv ?_ ?_ _) | go_size | (simp; omega)))⟩

end Go.Proofs.Ytbekpfaghimmeaa
