/- The law PressPanelFire, walked. -/
import Derived.Test.YtbekpfaghimmeaaW4
import Derived.Test.YtbekpfaghimmeaaW7
import Derived.Test.YtbekpfaghimmeaaPl
import Derived.Test.YtbekpfaghimmeaaQuiet
set_option linter.unusedVariables false
set_option linter.unusedSimpArgs false
namespace Go.Proofs.Ytbekpfaghimmeaa
open Go.RowKit

set_option maxHeartbeats 4000000 in
theorem pressPanelFire_walk (A : Option Addr) (n c : Nat) (bs : List Int) (w : World) (h : Sl w w.heap.size BLit A n c bs) (hb : ∀ x ∈ bs, 0 ≤ x ∧ x ≤ 255) :
    Calls Try.prog 8 #[.slice A n c] w fun e w' => e = .returned (.bool true) ∧ Below w.heap.size w w' := by
  have hcap := h.cap
  obtain ⟨hca, hcb⟩ := hcap
  by_cases hn : 1048576 < n
  · go_enter Try.func8, Try.ntmps8
    go_wp2
    go_ret
    exact ⟨rfl, by (repeat' (first | (with_reducible exact Below.refl _ _) | (with_reducible assumption) | (with_reducible refine Below.alloc ?_ ?_ _) | (with_reducible refine below_plus ?_ ?_ _ _) | (with_reducible refine Below.drew ?_) | (with_reducible refine Below.setCell ?_ ?_ _) | (with_reducible refine below_adv ?_ ?_ _) | go_size | (simp; omega)))⟩
  · go_enter Try.func8, Try.ntmps8
    go_wp2_with fail
    refine (drawPressPanel_c _ _ _ _ bs h hb).mono ?_
    rintro e w1 ⟨m, f, mv, op, ev, rfl, hb1⟩
    have hz1 := hb1.size
    have c1 := fun w => pressPanel_c m f mv op ev w
    have c2 := fun w => sPressPanel_c m f mv op ev w
    obtain ⟨⟨qm, qf, qv, qo⟩, hq⟩ : ∃ q, pressV ⟨m, f, mv, op⟩ ev = q := ⟨_, rfl⟩
    rw [hq] at c1 c2
    have C1 := Lib.hid c1
    have C2 := Lib.hid c2
    have HQ := Lib.hid hq
    clear c1 c2 hq h hb hca hcb
    cases hk : Pn.ok ⟨m, f, mv, op⟩
    · go_wp2_with (go_at_call 16; refine (C1.out _).mono ?_; rintro e w1 ⟨rfl, hb1⟩; obtain ⟨os1, d1, rfl⟩ := is_plus hb1; clear hb1)
      refine wp_region_plus (by kernel_rfl) (by kernel_rfl) ?_; (repeat (go_big_quiet_step (first | (go_at_call 17; exact quiet_plus (C2.out _)) | (go_at_call 14; exact quiet_plus (validPanel_c _ _ _ _ _))))); refine wpQuiet_nil ?_; intro _ hw'; obtain ⟨⟨osq, dq⟩, hw''⟩ := hw'; subst hw''
      go_wp2_with fail
      refine wp_region_plus (by kernel_rfl) (by kernel_rfl) ?_; (repeat (go_big_quiet_step (first | (go_at_call 17; exact quiet_plus2 (C2.out _)) | (go_at_call 17; exact quiet_plus (C2.out _)) | (go_at_call 14; exact quiet_plus (validPanel_c _ _ _ _ _))))); refine wpQuiet_nil ?_; intro _ hw'; obtain ⟨⟨osq, dq⟩, hw''⟩ := hw'; subst hw''
      go_wp2_with fail
      go_returns
      exact ⟨rfl, by (repeat' (first | (with_reducible exact Below.refl _ _) | (with_reducible assumption) | (with_reducible refine Below.alloc ?_ ?_ _) | (with_reducible refine below_plus ?_ ?_ _ _) | (with_reducible refine Below.drew ?_) | (with_reducible refine Below.setCell ?_ ?_ _) | (with_reducible refine below_adv ?_ ?_ _) | go_size | (simp; omega)))⟩
    by_cases hm : m = 1
    · subst hm
      by_cases h2 : ev = 2
      · subst h2
        go_wp2_with (go_at_call 16; refine (C1.out _).mono ?_; rintro e w1 ⟨rfl, hb1⟩; obtain ⟨os1, d1, rfl⟩ := is_plus hb1; clear hb1)
        refine wp_region_plus (by kernel_rfl) (by kernel_rfl) ?_; (repeat (go_big_quiet_step (first | (go_at_call 17; exact quiet_plus (C2.out _)) | (go_at_call 14; exact quiet_plus (validPanel_c _ _ _ _ _))))); refine wpQuiet_nil ?_; intro _ hw'; obtain ⟨⟨osq, dq⟩, hw''⟩ := hw'; subst hw''
        go_wp2_with fail
        refine wp_region_plus (by kernel_rfl) (by kernel_rfl) ?_; (repeat (go_big_quiet_step (first | (go_at_call 17; exact quiet_plus2 (C2.out _)) | (go_at_call 17; exact quiet_plus (C2.out _)) | (go_at_call 14; exact quiet_plus (validPanel_c _ _ _ _ _))))); refine wpQuiet_nil ?_; intro _ hw'; obtain ⟨⟨osq, dq⟩, hw''⟩ := hw'; subst hw''
        go_wp2_with fail
        go_returns
        exact ⟨rfl, by (repeat' (first | (with_reducible exact Below.refl _ _) | (with_reducible assumption) | (with_reducible refine Below.alloc ?_ ?_ _) | (with_reducible refine below_plus ?_ ?_ _ _) | (with_reducible refine Below.drew ?_) | (with_reducible refine Below.setCell ?_ ?_ _) | (with_reducible refine below_adv ?_ ?_ _) | go_size | (simp; omega)))⟩
      by_cases h3 : ev = 3
      · subst h3
        go_wp2_with (go_at_call 16; refine (C1.out _).mono ?_; rintro e w1 ⟨rfl, hb1⟩; obtain ⟨os1, d1, rfl⟩ := is_plus hb1; clear hb1)
        refine wp_region_plus (by kernel_rfl) (by kernel_rfl) ?_; (repeat (go_big_quiet_step (first | (go_at_call 17; exact quiet_plus (C2.out _)) | (go_at_call 14; exact quiet_plus (validPanel_c _ _ _ _ _))))); refine wpQuiet_nil ?_; intro _ hw'; obtain ⟨⟨osq, dq⟩, hw''⟩ := hw'; subst hw''
        go_wp2_with fail
        refine wp_region_plus (by kernel_rfl) (by kernel_rfl) ?_; (repeat (go_big_quiet_step (first | (go_at_call 17; exact quiet_plus2 (C2.out _)) | (go_at_call 17; exact quiet_plus (C2.out _)) | (go_at_call 14; exact quiet_plus (validPanel_c _ _ _ _ _))))); refine wpQuiet_nil ?_; intro _ hw'; obtain ⟨⟨osq, dq⟩, hw''⟩ := hw'; subst hw''
        go_wp2_with fail
        go_returns
        exact ⟨rfl, by (repeat' (first | (with_reducible exact Below.refl _ _) | (with_reducible assumption) | (with_reducible refine Below.alloc ?_ ?_ _) | (with_reducible refine below_plus ?_ ?_ _ _) | (with_reducible refine Below.drew ?_) | (with_reducible refine Below.setCell ?_ ?_ _) | (with_reducible refine below_adv ?_ ?_ _) | go_size | (simp; omega)))⟩
      · have hd := press_fire f mv op ev hk h2 h3
        rw [HQ.out] at hd
        obtain ⟨hd1, hd2, hd3⟩ := hd
        simp only at hd1 hd2 hd3
        have e2 : (ev == 2) = false := by simpa using h2
        have e3 : (ev == 3) = false := by simpa using h3
        subst hd1
        go_wp2_with (go_at_call 16; refine (C1.out _).mono ?_; rintro e w1 ⟨rfl, hb1⟩; obtain ⟨os1, d1, rfl⟩ := is_plus hb1; clear hb1)
        refine wp_region_plus (by kernel_rfl) (by kernel_rfl) ?_; (repeat (go_big_quiet_step (first | (go_at_call 17; exact quiet_plus (C2.out _)) | (go_at_call 14; exact quiet_plus (validPanel_c _ _ _ _ _))))); refine wpQuiet_nil ?_; intro _ hw'; obtain ⟨⟨osq, dq⟩, hw''⟩ := hw'; subst hw''
        clear hk C1 C2 e2 e3
        cases op
        · by_cases he : qf = f
          · subst he
            go_wp2_with fail
            go_returns
            exact ⟨by simp, by (repeat' (first | (with_reducible exact Below.refl _ _) | (with_reducible assumption) | (with_reducible refine Below.alloc ?_ ?_ _) | (with_reducible refine below_plus ?_ ?_ _ _) | (with_reducible refine Below.drew ?_) | (with_reducible refine Below.setCell ?_ ?_ _) | (with_reducible refine below_adv ?_ ?_ _) | go_size | (simp; omega)))⟩
          · have hef : (qf == f) = false := by simpa using he
            go_wp2_with fail
            go_returns
            exact ⟨by simp, by (repeat' (first | (with_reducible exact Below.refl _ _) | (with_reducible assumption) | (with_reducible refine Below.alloc ?_ ?_ _) | (with_reducible refine below_plus ?_ ?_ _ _) | (with_reducible refine Below.drew ?_) | (with_reducible refine Below.setCell ?_ ?_ _) | (with_reducible refine below_adv ?_ ?_ _) | go_size | (simp; omega)))⟩
        · have hd4 := hd3 rfl
          subst hd4
          go_wp2_with fail
          go_returns
          exact ⟨by simp, by (repeat' (first | (with_reducible exact Below.refl _ _) | (with_reducible assumption) | (with_reducible refine Below.alloc ?_ ?_ _) | (with_reducible refine below_plus ?_ ?_ _ _) | (with_reducible refine Below.drew ?_) | (with_reducible refine Below.setCell ?_ ?_ _) | (with_reducible refine below_adv ?_ ?_ _) | go_size | (simp; omega)))⟩
    · have em : (m == 1) = false := by simpa using hm
      have em2 : (m != 1) = true := by simpa [bne] using hm
      go_wp2_with (go_at_call 16; refine (C1.out _).mono ?_; rintro e w1 ⟨rfl, hb1⟩; obtain ⟨os1, d1, rfl⟩ := is_plus hb1; clear hb1)
      refine wp_region_plus (by kernel_rfl) (by kernel_rfl) ?_; (repeat (go_big_quiet_step (first | (go_at_call 17; exact quiet_plus (C2.out _)) | (go_at_call 14; exact quiet_plus (validPanel_c _ _ _ _ _))))); refine wpQuiet_nil ?_; intro _ hw'; obtain ⟨⟨osq, dq⟩, hw''⟩ := hw'; subst hw''
      go_wp2_with fail
      refine wp_region_plus (by kernel_rfl) (by kernel_rfl) ?_; (repeat (go_big_quiet_step (first | (go_at_call 17; exact quiet_plus2 (C2.out _)) | (go_at_call 17; exact quiet_plus (C2.out _)) | (go_at_call 14; exact quiet_plus (validPanel_c _ _ _ _ _))))); refine wpQuiet_nil ?_; intro _ hw'; obtain ⟨⟨osq, dq⟩, hw''⟩ := hw'; subst hw''
      go_wp2_with fail
      go_returns
      exact ⟨rfl, by (repeat' (first | (with_reducible exact Below.refl _ _) | (with_reducible assumption) | (with_reducible refine Below.alloc ?_ ?_ _) | (with_reducible refine below_plus ?_ ?_ _ _) | (with_reducible refine Below.drew ?_) | (with_reducible refine Below.setCell ?_ ?_ _) | (with_reducible refine below_adv ?_ ?_ _) | go_size | (simp; omega)))⟩
end Go.Proofs.Ytbekpfaghimmeaa
