/- Contracts of the reference's press and PressPanel. -/
import Derived.Test.YtbekpfaghimmeaaW3
set_option linter.unusedVariables false
set_option linter.unusedSimpArgs false
namespace Go.Proofs.Ytbekpfaghimmeaa
open Go.RowKit

set_option maxHeartbeats 2000000 in
theorem press_c (m f : Int) (mv op : Bool) (ev : Int) (w : World) (hk : Pn.ok ⟨m, f, mv, op⟩ = true) :
    Calls Try.prog 29 #[.agg #[.int .i64 m, .int .i64 f, .bool mv, .bool op], .int .i64 ev] w fun e w' => e = .returned (pressP ⟨m, f, mv, op⟩ ev).v ∧ Below w.heap.size w w' := by
  obtain ⟨a0, a1, b0, b1, hv1, hv2⟩ := Pn.ok_all hk
  clear hk
  by_cases e1 : ev = 1
  · subst e1
    by_cases hm : m = 2
    · subst hm
      go_enter Try.func29, Try.ntmps29
      go_wp2_with fail
      go_returns
      exact ⟨by simp [pressP, tickP, Pn.v], by (repeat' (first | (with_reducible exact Below.refl _ _) | (with_reducible assumption) | (with_reducible refine Below.alloc ?_ ?_ _) | (with_reducible refine below_plus ?_ ?_ _ _) | (with_reducible refine Below.drew ?_) | (with_reducible refine Below.setCell ?_ ?_ _) | (with_reducible refine below_adv ?_ ?_ _) | go_size | (simp; omega)))⟩
    · go_enter Try.func29, Try.ntmps29
      go_wp2_with fail
      go_returns
      exact ⟨by simp [pressP, tickP, Pn.v, hm], by (repeat' (first | (with_reducible exact Below.refl _ _) | (with_reducible assumption) | (with_reducible refine Below.alloc ?_ ?_ _) | (with_reducible refine below_plus ?_ ?_ _ _) | (with_reducible refine Below.drew ?_) | (with_reducible refine Below.setCell ?_ ?_ _) | (with_reducible refine below_adv ?_ ?_ _) | go_size | (simp; omega)))⟩
  by_cases e2 : ev = 2
  · subst e2
    cases mv
    · go_enter Try.func29, Try.ntmps29
      go_wp2_with fail
      go_returns
      exact ⟨by simp [pressP, tickP, Pn.v], by (repeat' (first | (with_reducible exact Below.refl _ _) | (with_reducible assumption) | (with_reducible refine Below.alloc ?_ ?_ _) | (with_reducible refine below_plus ?_ ?_ _ _) | (with_reducible refine Below.drew ?_) | (with_reducible refine Below.setCell ?_ ?_ _) | (with_reducible refine below_adv ?_ ?_ _) | go_size | (simp; omega)))⟩
    · go_enter Try.func29, Try.ntmps29
      go_wp2_with fail
      go_returns
      exact ⟨by simp [pressP, tickP, Pn.v], by (repeat' (first | (with_reducible exact Below.refl _ _) | (with_reducible assumption) | (with_reducible refine Below.alloc ?_ ?_ _) | (with_reducible refine below_plus ?_ ?_ _ _) | (with_reducible refine Below.drew ?_) | (with_reducible refine Below.setCell ?_ ?_ _) | (with_reducible refine below_adv ?_ ?_ _) | go_size | (simp; omega)))⟩
  by_cases e3 : ev = 3
  · subst e3
    cases mv
    · go_enter Try.func29, Try.ntmps29
      go_wp2_with fail
      go_returns
      exact ⟨by simp [pressP, tickP, Pn.v], by (repeat' (first | (with_reducible exact Below.refl _ _) | (with_reducible assumption) | (with_reducible refine Below.alloc ?_ ?_ _) | (with_reducible refine below_plus ?_ ?_ _ _) | (with_reducible refine Below.drew ?_) | (with_reducible refine Below.setCell ?_ ?_ _) | (with_reducible refine below_adv ?_ ?_ _) | go_size | (simp; omega)))⟩
    · go_enter Try.func29, Try.ntmps29
      go_wp2_with fail
      go_returns
      exact ⟨by simp [pressP, tickP, Pn.v], by (repeat' (first | (with_reducible exact Below.refl _ _) | (with_reducible assumption) | (with_reducible refine Below.alloc ?_ ?_ _) | (with_reducible refine below_plus ?_ ?_ _ _) | (with_reducible refine Below.drew ?_) | (with_reducible refine Below.setCell ?_ ?_ _) | (with_reducible refine below_adv ?_ ?_ _) | go_size | (simp; omega)))⟩
  by_cases e4 : ev = 4
  · subst e4
    by_cases hm : m = 1
    · subst hm
      go_enter Try.func29, Try.ntmps29
      go_wp2_with (go_at_call 34; refine (rescue_c _ _ _ _ b0 b1 hv1).mono ?_; rintro e w1 ⟨rfl, hb1⟩; obtain ⟨os1, d1, rfl⟩ := is_plus hb1; clear hb1)
      go_returns
      exact ⟨by simp [pressP], by (repeat' (first | (with_reducible exact Below.refl _ _) | (with_reducible assumption) | (with_reducible refine Below.alloc ?_ ?_ _) | (with_reducible refine below_plus ?_ ?_ _ _) | (with_reducible refine Below.drew ?_) | (with_reducible refine Below.setCell ?_ ?_ _) | (with_reducible refine below_adv ?_ ?_ _) | go_size | (simp; omega)))⟩
    · by_cases hm0 : m = 0
      · subst hm0
        cases mv
        · go_enter Try.func29, Try.ntmps29
          go_wp2
          go_returns
          exact ⟨by simp [pressP, tickP], by (repeat' (first | (with_reducible exact Below.refl _ _) | (with_reducible assumption) | (with_reducible refine Below.alloc ?_ ?_ _) | (with_reducible refine below_plus ?_ ?_ _ _) | (with_reducible refine Below.drew ?_) | (with_reducible refine Below.setCell ?_ ?_ _) | (with_reducible refine below_adv ?_ ?_ _) | go_size | (simp; omega)))⟩
        · obtain rfl := hv1 rfl
          go_enter Try.func29, Try.ntmps29
          go_wp2
          all_goals
            go_returns
            refine ⟨?_, by (repeat' (first | (with_reducible exact Below.refl _ _) | (with_reducible assumption) | (with_reducible refine Below.alloc ?_ ?_ _) | (with_reducible refine below_plus ?_ ?_ _ _) | (with_reducible refine Below.drew ?_) | (with_reducible refine Below.setCell ?_ ?_ _) | (with_reducible refine below_adv ?_ ?_ _) | go_size | (simp; omega)))⟩
            first
              | (have e1 : min (f + 1) 15 = 15 := by omega
                 have e2 : min 15 (f + 1) = 15 := by omega
                 simp [pressP, tickP, Pn.v, e1]
                 done)
              | (have e1 : min (f + 1) 15 = 15 := by omega
                 simp [pressP, tickP, Pn.v, e1]
                 omega)
              | (have e1 : min (f + 1) 15 = f + 1 := by omega
                 simp [pressP, tickP, Pn.v, e1]
                 try omega)
      · obtain rfl : m = 2 := by omega
        cases mv
        · go_enter Try.func29, Try.ntmps29
          go_wp2
          go_returns
          exact ⟨by simp [pressP, tickP], by (repeat' (first | (with_reducible exact Below.refl _ _) | (with_reducible assumption) | (with_reducible refine Below.alloc ?_ ?_ _) | (with_reducible refine below_plus ?_ ?_ _ _) | (with_reducible refine Below.drew ?_) | (with_reducible refine Below.setCell ?_ ?_ _) | (with_reducible refine below_adv ?_ ?_ _) | go_size | (simp; omega)))⟩
        · exact absurd rfl (hv2 rfl)
  by_cases e5 : ev = 5
  · subst e5
    by_cases hm : m = 0
    · subst hm
      by_cases hf : f < 15
      · cases op
        · go_enter Try.func29, Try.ntmps29
          go_wp2_with fail
          go_returns
          exact ⟨by simp [pressP, tickP, Pn.v, hf], by (repeat' (first | (with_reducible exact Below.refl _ _) | (with_reducible assumption) | (with_reducible refine Below.alloc ?_ ?_ _) | (with_reducible refine below_plus ?_ ?_ _ _) | (with_reducible refine Below.drew ?_) | (with_reducible refine Below.setCell ?_ ?_ _) | (with_reducible refine below_adv ?_ ?_ _) | go_size | (simp; omega)))⟩
        · go_enter Try.func29, Try.ntmps29
          go_wp2_with fail
          go_returns
          exact ⟨by simp [pressP, tickP, Pn.v], by (repeat' (first | (with_reducible exact Below.refl _ _) | (with_reducible assumption) | (with_reducible refine Below.alloc ?_ ?_ _) | (with_reducible refine below_plus ?_ ?_ _ _) | (with_reducible refine Below.drew ?_) | (with_reducible refine Below.setCell ?_ ?_ _) | (with_reducible refine below_adv ?_ ?_ _) | go_size | (simp; omega)))⟩
      · have hf' : ¬ f < 15 := by omega
        cases op
        all_goals
          go_enter Try.func29, Try.ntmps29
          go_wp2
          go_returns
          have hf' : ¬ f < 15 := by omega
          exact ⟨by simp [pressP, Pn.v, hf'], by (repeat' (first | (with_reducible exact Below.refl _ _) | (with_reducible assumption) | (with_reducible refine Below.alloc ?_ ?_ _) | (with_reducible refine below_plus ?_ ?_ _ _) | (with_reducible refine Below.drew ?_) | (with_reducible refine Below.setCell ?_ ?_ _) | (with_reducible refine below_adv ?_ ?_ _) | go_size | (simp; omega)))⟩
    · go_enter Try.func29, Try.ntmps29
      go_wp2_with fail
      go_returns
      exact ⟨by simp [pressP, tickP, Pn.v, hm], by (repeat' (first | (with_reducible exact Below.refl _ _) | (with_reducible assumption) | (with_reducible refine Below.alloc ?_ ?_ _) | (with_reducible refine below_plus ?_ ?_ _ _) | (with_reducible refine Below.drew ?_) | (with_reducible refine Below.setCell ?_ ?_ _) | (with_reducible refine below_adv ?_ ?_ _) | go_size | (simp; omega)))⟩
  by_cases e6 : ev = 6
  · subst e6
    by_cases hm : m = 1
    · subst hm
      cases mv
      · go_enter Try.func29, Try.ntmps29
        go_wp2_with fail
        go_returns
        exact ⟨by simp [pressP, tickP, Pn.v], by (repeat' (first | (with_reducible exact Below.refl _ _) | (with_reducible assumption) | (with_reducible refine Below.alloc ?_ ?_ _) | (with_reducible refine below_plus ?_ ?_ _ _) | (with_reducible refine Below.drew ?_) | (with_reducible refine Below.setCell ?_ ?_ _) | (with_reducible refine below_adv ?_ ?_ _) | go_size | (simp; omega)))⟩
      · go_enter Try.func29, Try.ntmps29
        go_wp2_with fail
        go_returns
        exact ⟨by simp [pressP, tickP, Pn.v], by (repeat' (first | (with_reducible exact Below.refl _ _) | (with_reducible assumption) | (with_reducible refine Below.alloc ?_ ?_ _) | (with_reducible refine below_plus ?_ ?_ _ _) | (with_reducible refine Below.drew ?_) | (with_reducible refine Below.setCell ?_ ?_ _) | (with_reducible refine below_adv ?_ ?_ _) | go_size | (simp; omega)))⟩
    · cases mv
      · go_enter Try.func29, Try.ntmps29
        go_wp2_with fail
        go_returns
        exact ⟨by simp [pressP, tickP, Pn.v, hm], by (repeat' (first | (with_reducible exact Below.refl _ _) | (with_reducible assumption) | (with_reducible refine Below.alloc ?_ ?_ _) | (with_reducible refine below_plus ?_ ?_ _ _) | (with_reducible refine Below.drew ?_) | (with_reducible refine Below.setCell ?_ ?_ _) | (with_reducible refine below_adv ?_ ?_ _) | go_size | (simp; omega)))⟩
      · go_enter Try.func29, Try.ntmps29
        go_wp2_with fail
        go_returns
        exact ⟨by simp [pressP, tickP, Pn.v], by (repeat' (first | (with_reducible exact Below.refl _ _) | (with_reducible assumption) | (with_reducible refine Below.alloc ?_ ?_ _) | (with_reducible refine below_plus ?_ ?_ _ _) | (with_reducible refine Below.drew ?_) | (with_reducible refine Below.setCell ?_ ?_ _) | (with_reducible refine below_adv ?_ ?_ _) | go_size | (simp; omega)))⟩
  go_enter Try.func29, Try.ntmps29
  go_wp2_with fail
  go_returns
  exact ⟨by simp [pressP, tickP, Pn.v, e1, e2, e3, e4, e5, e6], by (repeat' (first | (with_reducible exact Below.refl _ _) | (with_reducible assumption) | (with_reducible refine Below.alloc ?_ ?_ _) | (with_reducible refine below_plus ?_ ?_ _ _) | (with_reducible refine Below.drew ?_) | (with_reducible refine Below.setCell ?_ ?_ _) | (with_reducible refine below_adv ?_ ?_ _) | go_size | (simp; omega)))⟩

theorem sPressPanel_c (m f : Int) (mv op : Bool) (ev : Int) (w : World) :
    Calls Try.prog 17 #[.agg #[.int .i64 m, .int .i64 f, .bool mv, .bool op], .int .i64 ev] w fun e w' => e = .returned (pressV ⟨m, f, mv, op⟩ ev).v ∧ Below w.heap.size w w' := by
  cases hk : Pn.ok ⟨m, f, mv, op⟩
  · go_enter Try.func17, Try.ntmps17
    go_wp2_with (go_at_call 23; refine (svalidPanel_c _ _ _ _ _).mono ?_; rintro e w1 ⟨rfl, hb1⟩; obtain ⟨os1, d1, rfl⟩ := is_plus hb1; clear hb1)
    go_returns
    exact ⟨by simp [pressV, hk, Pn.v], by (repeat' (first | (with_reducible exact Below.refl _ _) | (with_reducible assumption) | (with_reducible refine Below.alloc ?_ ?_ _) | (with_reducible refine below_plus ?_ ?_ _ _) | (with_reducible refine Below.drew ?_) | (with_reducible refine Below.setCell ?_ ?_ _) | (with_reducible refine below_adv ?_ ?_ _) | go_size | (simp; omega)))⟩
  · go_enter Try.func17, Try.ntmps17
    go_wp2_with (first | (go_at_call 23; refine (svalidPanel_c _ _ _ _ _).mono ?_; rintro e w1 ⟨rfl, hb1⟩; obtain ⟨os1, d1, rfl⟩ := is_plus hb1; clear hb1) | (go_at_call 29; refine (press_c _ _ _ _ _ _ hk).mono ?_; rintro e w1 ⟨rfl, hb1⟩; obtain ⟨os1, d1, rfl⟩ := is_plus hb1; clear hb1))
    go_returns
    exact ⟨by simp [pressV, hk, Pn.v], by (repeat' (first | (with_reducible exact Below.refl _ _) | (with_reducible assumption) | (with_reducible refine Below.alloc ?_ ?_ _) | (with_reducible refine below_plus ?_ ?_ _ _) | (with_reducible refine Below.drew ?_) | (with_reducible refine Below.setCell ?_ ?_ _) | (with_reducible refine below_adv ?_ ?_ _) | go_size | (simp; omega)))⟩
end Go.Proofs.Ytbekpfaghimmeaa
