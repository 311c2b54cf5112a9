/- Contracts of the panel functions of the program: PressPanel. -/
import Derived.Test.YtbekpfaghimmeaaRows
import Derived.Test.YtbekpfaghimmeaaMem
import Derived.Test.YtbekpfaghimmeaaW1
import Derived.WalkKit
import Derived.ProofKit
import Derived.Handy
import Derived.Outline
import Derived.Lib.Hide
import Derived.BigQuiet
import Derived.Deep.QuietTactic
set_option linter.unusedVariables false
set_option linter.unusedSimpArgs false
namespace Go.Proofs.Ytbekpfaghimmeaa
open Go.RowKit

def pressP (p : Pn) (ev : Int) : Pn :=
  if ev = 1 then (if p.m = 2 then p else ⟨1, p.f, p.mv, p.op⟩)
  else if ev = 2 then (if p.mv = true then p else ⟨0, p.f, p.mv, p.op⟩)
  else if ev = 3 then (if p.mv = true then p else ⟨2, p.f, p.mv, p.op⟩)
  else if ev = 4 then tickP p
  else if ev = 5 then (if p.m = 0 ∧ p.f < 15 ∧ p.op = false then ⟨p.m, p.f, true, p.op⟩ else p)
  else if ev = 6 then (if p.m ≠ 1 ∧ p.mv = false then ⟨p.m, p.f, p.mv, !p.op⟩ else p)
  else p

def pressV (p : Pn) (ev : Int) : Pn := if p.ok = true then pressP p ev else ⟨0, 0, false, false⟩

theorem Pn.ok_b {m f : Int} {mv op : Bool} (h : Pn.ok ⟨m, f, mv, op⟩ = true) : 0 ≤ f ∧ f ≤ 15 := by
  simp [Pn.ok, inB] at h
  omega

set_option maxHeartbeats 1000000 in
theorem pressPanel_c (m f : Int) (mv op : Bool) (ev : Int) (w : World) :
    Calls Try.prog 16 #[.agg #[.int .i64 m, .int .i64 f, .bool mv, .bool op], .int .i64 ev] w fun e w' => e = .returned (pressV ⟨m, f, mv, op⟩ ev).v ∧ Below w.heap.size w w' := by
  cases hk : Pn.ok ⟨m, f, mv, op⟩
  · go_enter Try.func16, Try.ntmps16
    go_wp2_with (go_at_call 14; refine (validPanel_c _ _ _ _ _).mono ?_; rintro e w1 ⟨rfl, hb1⟩; obtain ⟨os1, d1, rfl⟩ := is_plus hb1; clear hb1)
    go_returns
    exact ⟨by simp [pressV, hk, pressP, Pn.v], by (repeat' (first | (with_reducible exact Below.refl _ _) | (with_reducible assumption) | (with_reducible refine Below.alloc ?_ ?_ _) | (with_reducible refine below_plus ?_ ?_ _ _) | (with_reducible refine Below.drew ?_) | (with_reducible refine Below.setCell ?_ ?_ _) | (with_reducible refine below_adv ?_ ?_ _) | go_size | (simp; omega)))⟩
  · obtain ⟨b0, b1⟩ := Pn.ok_b hk
    by_cases e1 : ev = 1
    · subst e1
      by_cases hm : m = 2
      · subst hm
        go_enter Try.func16, Try.ntmps16
        go_wp2_with (go_at_call 14; refine (validPanel_c _ _ _ _ _).mono ?_; rintro e w1 ⟨rfl, hb1⟩; obtain ⟨os1, d1, rfl⟩ := is_plus hb1; clear hb1)
        go_returns
        exact ⟨by simp [pressV, hk, pressP, Pn.v], by (repeat' (first | (with_reducible exact Below.refl _ _) | (with_reducible assumption) | (with_reducible refine Below.alloc ?_ ?_ _) | (with_reducible refine below_plus ?_ ?_ _ _) | (with_reducible refine Below.drew ?_) | (with_reducible refine Below.setCell ?_ ?_ _) | (with_reducible refine below_adv ?_ ?_ _) | go_size | (simp; omega)))⟩
      · go_enter Try.func16, Try.ntmps16
        go_wp2_with (go_at_call 14; refine (validPanel_c _ _ _ _ _).mono ?_; rintro e w1 ⟨rfl, hb1⟩; obtain ⟨os1, d1, rfl⟩ := is_plus hb1; clear hb1)
        go_returns
        exact ⟨by simp [pressV, hk, pressP, Pn.v, hm], by (repeat' (first | (with_reducible exact Below.refl _ _) | (with_reducible assumption) | (with_reducible refine Below.alloc ?_ ?_ _) | (with_reducible refine below_plus ?_ ?_ _ _) | (with_reducible refine Below.drew ?_) | (with_reducible refine Below.setCell ?_ ?_ _) | (with_reducible refine below_adv ?_ ?_ _) | go_size | (simp; omega)))⟩
    by_cases e2 : ev = 2
    · subst e2
      cases mv
      · go_enter Try.func16, Try.ntmps16
        go_wp2_with (go_at_call 14; refine (validPanel_c _ _ _ _ _).mono ?_; rintro e w1 ⟨rfl, hb1⟩; obtain ⟨os1, d1, rfl⟩ := is_plus hb1; clear hb1)
        go_returns
        exact ⟨by simp [pressV, hk, pressP, Pn.v], by (repeat' (first | (with_reducible exact Below.refl _ _) | (with_reducible assumption) | (with_reducible refine Below.alloc ?_ ?_ _) | (with_reducible refine below_plus ?_ ?_ _ _) | (with_reducible refine Below.drew ?_) | (with_reducible refine Below.setCell ?_ ?_ _) | (with_reducible refine below_adv ?_ ?_ _) | go_size | (simp; omega)))⟩
      · go_enter Try.func16, Try.ntmps16
        go_wp2_with (go_at_call 14; refine (validPanel_c _ _ _ _ _).mono ?_; rintro e w1 ⟨rfl, hb1⟩; obtain ⟨os1, d1, rfl⟩ := is_plus hb1; clear hb1)
        go_returns
        exact ⟨by simp [pressV, hk, pressP, Pn.v], by (repeat' (first | (with_reducible exact Below.refl _ _) | (with_reducible assumption) | (with_reducible refine Below.alloc ?_ ?_ _) | (with_reducible refine below_plus ?_ ?_ _ _) | (with_reducible refine Below.drew ?_) | (with_reducible refine Below.setCell ?_ ?_ _) | (with_reducible refine below_adv ?_ ?_ _) | go_size | (simp; omega)))⟩
    by_cases e3 : ev = 3
    · subst e3
      cases mv
      · go_enter Try.func16, Try.ntmps16
        go_wp2_with (go_at_call 14; refine (validPanel_c _ _ _ _ _).mono ?_; rintro e w1 ⟨rfl, hb1⟩; obtain ⟨os1, d1, rfl⟩ := is_plus hb1; clear hb1)
        go_returns
        exact ⟨by simp [pressV, hk, pressP, Pn.v], by (repeat' (first | (with_reducible exact Below.refl _ _) | (with_reducible assumption) | (with_reducible refine Below.alloc ?_ ?_ _) | (with_reducible refine below_plus ?_ ?_ _ _) | (with_reducible refine Below.drew ?_) | (with_reducible refine Below.setCell ?_ ?_ _) | (with_reducible refine below_adv ?_ ?_ _) | go_size | (simp; omega)))⟩
      · go_enter Try.func16, Try.ntmps16
        go_wp2_with (go_at_call 14; refine (validPanel_c _ _ _ _ _).mono ?_; rintro e w1 ⟨rfl, hb1⟩; obtain ⟨os1, d1, rfl⟩ := is_plus hb1; clear hb1)
        go_returns
        exact ⟨by simp [pressV, hk, pressP, Pn.v], by (repeat' (first | (with_reducible exact Below.refl _ _) | (with_reducible assumption) | (with_reducible refine Below.alloc ?_ ?_ _) | (with_reducible refine below_plus ?_ ?_ _ _) | (with_reducible refine Below.drew ?_) | (with_reducible refine Below.setCell ?_ ?_ _) | (with_reducible refine below_adv ?_ ?_ _) | go_size | (simp; omega)))⟩
    by_cases e4 : ev = 4
    · subst e4
      go_enter Try.func16, Try.ntmps16
      go_wp2_with (first | (go_at_call 14; refine (validPanel_c _ _ _ _ _).mono ?_; rintro e w1 ⟨rfl, hb1⟩; obtain ⟨os1, d1, rfl⟩ := is_plus hb1; clear hb1) | (go_at_call 28; refine (tick_c _ _ _ _ _ (by omega) (by omega)).mono ?_; rintro e w1 ⟨rfl, hb1⟩; obtain ⟨os1, d1, rfl⟩ := is_plus hb1; clear hb1))
      go_returns
      exact ⟨by simp [pressV, hk, pressP, Pn.v], by (repeat' (first | (with_reducible exact Below.refl _ _) | (with_reducible assumption) | (with_reducible refine Below.alloc ?_ ?_ _) | (with_reducible refine below_plus ?_ ?_ _ _) | (with_reducible refine Below.drew ?_) | (with_reducible refine Below.setCell ?_ ?_ _) | (with_reducible refine below_adv ?_ ?_ _) | go_size | (simp; omega)))⟩
    by_cases e5 : ev = 5
    · subst e5
      by_cases hm : m = 0
      · subst hm
        by_cases hf : f < 15
        · cases op
          · go_enter Try.func16, Try.ntmps16
            go_wp2_with (go_at_call 14; refine (validPanel_c _ _ _ _ _).mono ?_; rintro e w1 ⟨rfl, hb1⟩; obtain ⟨os1, d1, rfl⟩ := is_plus hb1; clear hb1)
            go_returns
            exact ⟨by simp [pressV, hk, pressP, Pn.v, hf], by (repeat' (first | (with_reducible exact Below.refl _ _) | (with_reducible assumption) | (with_reducible refine Below.alloc ?_ ?_ _) | (with_reducible refine below_plus ?_ ?_ _ _) | (with_reducible refine Below.drew ?_) | (with_reducible refine Below.setCell ?_ ?_ _) | (with_reducible refine below_adv ?_ ?_ _) | go_size | (simp; omega)))⟩
          · go_enter Try.func16, Try.ntmps16
            go_wp2_with (go_at_call 14; refine (validPanel_c _ _ _ _ _).mono ?_; rintro e w1 ⟨rfl, hb1⟩; obtain ⟨os1, d1, rfl⟩ := is_plus hb1; clear hb1)
            go_returns
            exact ⟨by simp [pressV, hk, pressP, Pn.v], by (repeat' (first | (with_reducible exact Below.refl _ _) | (with_reducible assumption) | (with_reducible refine Below.alloc ?_ ?_ _) | (with_reducible refine below_plus ?_ ?_ _ _) | (with_reducible refine Below.drew ?_) | (with_reducible refine Below.setCell ?_ ?_ _) | (with_reducible refine below_adv ?_ ?_ _) | go_size | (simp; omega)))⟩
        · go_enter Try.func16, Try.ntmps16
          go_wp2_with (go_at_call 14; refine (validPanel_c _ _ _ _ _).mono ?_; rintro e w1 ⟨rfl, hb1⟩; obtain ⟨os1, d1, rfl⟩ := is_plus hb1; clear hb1)
          go_returns
          have hf' : ¬ f < 15 := by omega
          exact ⟨by simp [pressV, hk, pressP, Pn.v, hf'], by (repeat' (first | (with_reducible exact Below.refl _ _) | (with_reducible assumption) | (with_reducible refine Below.alloc ?_ ?_ _) | (with_reducible refine below_plus ?_ ?_ _ _) | (with_reducible refine Below.drew ?_) | (with_reducible refine Below.setCell ?_ ?_ _) | (with_reducible refine below_adv ?_ ?_ _) | go_size | (simp; omega)))⟩
      · go_enter Try.func16, Try.ntmps16
        go_wp2_with (go_at_call 14; refine (validPanel_c _ _ _ _ _).mono ?_; rintro e w1 ⟨rfl, hb1⟩; obtain ⟨os1, d1, rfl⟩ := is_plus hb1; clear hb1)
        go_returns
        exact ⟨by simp [pressV, hk, pressP, Pn.v, hm], by (repeat' (first | (with_reducible exact Below.refl _ _) | (with_reducible assumption) | (with_reducible refine Below.alloc ?_ ?_ _) | (with_reducible refine below_plus ?_ ?_ _ _) | (with_reducible refine Below.drew ?_) | (with_reducible refine Below.setCell ?_ ?_ _) | (with_reducible refine below_adv ?_ ?_ _) | go_size | (simp; omega)))⟩
    by_cases e6 : ev = 6
    · subst e6
      by_cases hm : m = 1
      · subst hm
        go_enter Try.func16, Try.ntmps16
        go_wp2_with (go_at_call 14; refine (validPanel_c _ _ _ _ _).mono ?_; rintro e w1 ⟨rfl, hb1⟩; obtain ⟨os1, d1, rfl⟩ := is_plus hb1; clear hb1)
        go_returns
        exact ⟨by simp [pressV, hk, pressP, Pn.v], by (repeat' (first | (with_reducible exact Below.refl _ _) | (with_reducible assumption) | (with_reducible refine Below.alloc ?_ ?_ _) | (with_reducible refine below_plus ?_ ?_ _ _) | (with_reducible refine Below.drew ?_) | (with_reducible refine Below.setCell ?_ ?_ _) | (with_reducible refine below_adv ?_ ?_ _) | go_size | (simp; omega)))⟩
      · cases mv
        · go_enter Try.func16, Try.ntmps16
          go_wp2_with (go_at_call 14; refine (validPanel_c _ _ _ _ _).mono ?_; rintro e w1 ⟨rfl, hb1⟩; obtain ⟨os1, d1, rfl⟩ := is_plus hb1; clear hb1)
          go_returns
          exact ⟨by simp [pressV, hk, pressP, Pn.v, hm], by (repeat' (first | (with_reducible exact Below.refl _ _) | (with_reducible assumption) | (with_reducible refine Below.alloc ?_ ?_ _) | (with_reducible refine below_plus ?_ ?_ _ _) | (with_reducible refine Below.drew ?_) | (with_reducible refine Below.setCell ?_ ?_ _) | (with_reducible refine below_adv ?_ ?_ _) | go_size | (simp; omega)))⟩
        · go_enter Try.func16, Try.ntmps16
          go_wp2_with (go_at_call 14; refine (validPanel_c _ _ _ _ _).mono ?_; rintro e w1 ⟨rfl, hb1⟩; obtain ⟨os1, d1, rfl⟩ := is_plus hb1; clear hb1)
          go_returns
          exact ⟨by simp [pressV, hk, pressP, Pn.v], by (repeat' (first | (with_reducible exact Below.refl _ _) | (with_reducible assumption) | (with_reducible refine Below.alloc ?_ ?_ _) | (with_reducible refine below_plus ?_ ?_ _ _) | (with_reducible refine Below.drew ?_) | (with_reducible refine Below.setCell ?_ ?_ _) | (with_reducible refine below_adv ?_ ?_ _) | go_size | (simp; omega)))⟩
    go_enter Try.func16, Try.ntmps16
    go_wp2_with (go_at_call 14; refine (validPanel_c _ _ _ _ _).mono ?_; rintro e w1 ⟨rfl, hb1⟩; obtain ⟨os1, d1, rfl⟩ := is_plus hb1; clear hb1)
    go_returns
    exact ⟨by simp [pressV, hk, pressP, Pn.v, e1, e2, e3, e4, e5, e6], by (repeat' (first | (with_reducible exact Below.refl _ _) | (with_reducible assumption) | (with_reducible refine Below.alloc ?_ ?_ _) | (with_reducible refine below_plus ?_ ?_ _ _) | (with_reducible refine Below.drew ?_) | (with_reducible refine Below.setCell ?_ ?_ _) | (with_reducible refine below_adv ?_ ?_ _) | go_size | (simp; omega)))⟩
end Go.Proofs.Ytbekpfaghimmeaa
