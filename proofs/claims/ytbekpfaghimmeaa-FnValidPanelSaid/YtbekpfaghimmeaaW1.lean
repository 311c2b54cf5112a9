/- Contracts of the panel functions of the program: ValidPanel, tick, PressPanel. -/
import Derived.Test.YtbekpfaghimmeaaRows
import Derived.Test.YtbekpfaghimmeaaMem
import Derived.WalkKit
import Derived.ProofKit
import Derived.Handy
import Derived.Outline
import Derived.Lib.Hide
import Derived.BigQuiet
import Derived.Deep.QuietTactic
set_option linter.unusedVariables false
set_option linter.unusedSimpArgs false
namespace Go.Proofs.Ytbekpfaghimmeaa
open Go.RowKit

def inB (x lo hi : Int) : Bool := decide (lo ≤ x) && decide (x ≤ hi)
theorem inB_t {x lo hi : Int} (h : inB x lo hi = true) : lo ≤ x ∧ x ≤ hi := by simpa [inB] using h
theorem inB_f {x lo hi : Int} (h : inB x lo hi = false) : x < lo ∨ hi < x := by
  simp [inB] at h
  omega

theorem within_c (x lo hi : Int) (w : World) :
    Calls Try.prog 24 #[.int .i64 x, .int .i64 lo, .int .i64 hi] w fun e w' => e = .returned (.bool (inB x lo hi)) ∧ w = w' := by
  by_cases h : lo ≤ x
  · go_enter Try.func24, Try.ntmps24
    go_wp2
    go_ret
    exact ⟨by simp [inB, h], rfl⟩
  · have h2 : decide (lo ≤ x) = false := by simpa using h
    go_enter Try.func24, Try.ntmps24
    go_wp2
    go_ret
    exact ⟨by simp [inB, h2], rfl⟩

theorem validFloor_c (x : Int) (w : World) :
    Calls Try.prog 25 #[.int .i64 x] w fun e w' => e = .returned (.bool (inB x 0 15)) ∧ w = w' := by
  go_enter Try.func25, Try.ntmps25
  go_wp2_with (go_at_call 24; refine (within_c _ _ _ _).mono ?_; rintro e w' ⟨rfl, rfl⟩)
  go_ret
  exact ⟨rfl, rfl⟩

structure Pn where
  m : Int
  f : Int
  mv : Bool
  op : Bool

def Pn.ok (p : Pn) : Bool := inB p.m 0 2 && inB p.f 0 15 && (!p.mv || (!p.op && p.m != 2))
abbrev Pn.v (p : Pn) : Value := .agg #[.int .i64 p.m, .int .i64 p.f, .bool p.mv, .bool p.op]

theorem validPanel_c (m f : Int) (mv op : Bool) (w : World) :
    Calls Try.prog 14 #[.agg #[.int .i64 m, .int .i64 f, .bool mv, .bool op]] w fun e w' => e = .returned (.bool (Pn.ok ⟨m, f, mv, op⟩)) ∧ Below w.heap.size w w' := by
  cases h1 : inB m 0 2 <;> cases h2 : inB f 0 15 <;> cases mv <;> cases op <;> cases h3 : (m != 2)
  all_goals
    go_enter Try.func14, Try.ntmps14
    go_wp2_with (first | (go_at_call 24; refine (within_c _ _ _ _).mono ?_; rintro e w' ⟨rfl, rfl⟩) | (go_at_call 25; refine (validFloor_c _ _).mono ?_; rintro e w' ⟨rfl, rfl⟩))
    go_ret
    exact ⟨by simp [Pn.ok, h1, h2, h3], by (repeat' (first | (with_reducible exact Below.refl _ _) | (with_reducible assumption) | (with_reducible refine Below.alloc ?_ ?_ _) | (with_reducible refine below_plus ?_ ?_ _ _) | (with_reducible refine Below.drew ?_) | (with_reducible refine Below.setCell ?_ ?_ _) | (with_reducible refine below_adv ?_ ?_ _) | go_size | (simp; omega)))⟩

def tickP (p : Pn) : Pn :=
  if p.m = 1 ∧ p.f = 0 then ⟨p.m, p.f, false, true⟩
  else if p.m = 1 ∧ p.op = true then ⟨p.m, p.f, p.mv, false⟩
  else if p.m = 1 then ⟨p.m, p.f - 1, decide (0 < p.f - 1), p.op⟩
  else if p.m = 0 ∧ p.mv = true then ⟨p.m, min (p.f + 1) 15, decide (min (p.f + 1) 15 < 15), p.op⟩
  else p

theorem tick_c (m f : Int) (mv op : Bool) (w : World) (h0 : 0 ≤ f) (h1 : f ≤ 15) :
    Calls Try.prog 28 #[.agg #[.int .i64 m, .int .i64 f, .bool mv, .bool op]] w fun e w' => e = .returned (tickP ⟨m, f, mv, op⟩).v ∧ Below w.heap.size w w' := by
  by_cases c0 : m = 1
  · subst c0
    by_cases c1 : f = 0
    · subst c1
      go_enter Try.func28, Try.ntmps28
      go_wp2
      go_returns
      exact ⟨by simp [tickP, Pn.v], by (repeat' (first | (with_reducible exact Below.refl _ _) | (with_reducible assumption) | (with_reducible refine Below.alloc ?_ ?_ _) | (with_reducible refine below_plus ?_ ?_ _ _) | (with_reducible refine Below.drew ?_) | (with_reducible refine Below.setCell ?_ ?_ _) | (with_reducible refine below_adv ?_ ?_ _) | go_size | (simp; omega)))⟩
    · cases op
      · go_enter Try.func28, Try.ntmps28
        go_wp2
        go_returns
        exact ⟨by simp [tickP, Pn.v, c1], by (repeat' (first | (with_reducible exact Below.refl _ _) | (with_reducible assumption) | (with_reducible refine Below.alloc ?_ ?_ _) | (with_reducible refine below_plus ?_ ?_ _ _) | (with_reducible refine Below.drew ?_) | (with_reducible refine Below.setCell ?_ ?_ _) | (with_reducible refine below_adv ?_ ?_ _) | go_size | (simp; omega)))⟩
      · go_enter Try.func28, Try.ntmps28
        go_wp2
        go_returns
        exact ⟨by simp [tickP, Pn.v, c1], by (repeat' (first | (with_reducible exact Below.refl _ _) | (with_reducible assumption) | (with_reducible refine Below.alloc ?_ ?_ _) | (with_reducible refine below_plus ?_ ?_ _ _) | (with_reducible refine Below.drew ?_) | (with_reducible refine Below.setCell ?_ ?_ _) | (with_reducible refine below_adv ?_ ?_ _) | go_size | (simp; omega)))⟩
  · by_cases c2 : m = 0
    · subst c2
      cases mv
      · go_enter Try.func28, Try.ntmps28
        go_wp2
        go_returns
        exact ⟨by simp [tickP, Pn.v], by (repeat' (first | (with_reducible exact Below.refl _ _) | (with_reducible assumption) | (with_reducible refine Below.alloc ?_ ?_ _) | (with_reducible refine below_plus ?_ ?_ _ _) | (with_reducible refine Below.drew ?_) | (with_reducible refine Below.setCell ?_ ?_ _) | (with_reducible refine below_adv ?_ ?_ _) | go_size | (simp; omega)))⟩
      · go_enter Try.func28, Try.ntmps28
        go_wp2
        all_goals
          go_returns
          refine ⟨?_, by (repeat' (first | (with_reducible exact Below.refl _ _) | (with_reducible assumption) | (with_reducible refine Below.alloc ?_ ?_ _) | (with_reducible refine below_plus ?_ ?_ _ _) | (with_reducible refine Below.drew ?_) | (with_reducible refine Below.setCell ?_ ?_ _) | (with_reducible refine below_adv ?_ ?_ _) | go_size | (simp; omega)))⟩
          first
            | (have e1 : min (f + 1) 15 = 15 := by omega
               simp [tickP, Pn.v, e1]
               done)
            | (have e1 : min (f + 1) 15 = f + 1 := by omega
               simp [tickP, Pn.v, e1])
    · go_enter Try.func28, Try.ntmps28
      go_wp2
      go_returns
      exact ⟨by simp [tickP, Pn.v, c0, c2], by (repeat' (first | (with_reducible exact Below.refl _ _) | (with_reducible assumption) | (with_reducible refine Below.alloc ?_ ?_ _) | (with_reducible refine below_plus ?_ ?_ _ _) | (with_reducible refine Below.drew ?_) | (with_reducible refine Below.setCell ?_ ?_ _) | (with_reducible refine below_adv ?_ ?_ _) | go_size | (simp; omega)))⟩

end Go.Proofs.Ytbekpfaghimmeaa
