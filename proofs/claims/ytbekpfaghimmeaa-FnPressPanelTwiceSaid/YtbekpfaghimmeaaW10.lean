/- The law PressPanelTwice, walked. -/
import Derived.Test.YtbekpfaghimmeaaW4
import Derived.Test.YtbekpfaghimmeaaW7
import Derived.Test.YtbekpfaghimmeaaPl
import Derived.Test.YtbekpfaghimmeaaQuiet
set_option linter.unusedVariables false
set_option linter.unusedSimpArgs false
namespace Go.Proofs.Ytbekpfaghimmeaa
open Go.RowKit

set_option maxHeartbeats 4000000 in
theorem pressPanelTwice_walk (A : Option Addr) (n c : Nat) (bs : List Int) (w : World) (h : Sl w w.heap.size BLit A n c bs) (hb : ∀ x ∈ bs, 0 ≤ x ∧ x ≤ 255) :
    Calls Try.prog 10 #[.slice A n c] w fun e w' => e = .returned (.bool true) ∧ Below w.heap.size w w' := by
  have hcap := h.cap
  obtain ⟨hca, hcb⟩ := hcap
  by_cases hn : 1048576 < n
  · go_enter Try.func10, Try.ntmps10
    go_wp2
    go_ret
    exact ⟨rfl, by (repeat' (first | (with_reducible exact Below.refl _ _) | (with_reducible assumption) | (with_reducible refine Below.alloc ?_ ?_ _) | (with_reducible refine below_plus ?_ ?_ _ _) | (with_reducible refine Below.drew ?_) | (with_reducible refine Below.setCell ?_ ?_ _) | (with_reducible refine below_adv ?_ ?_ _) | go_size | (simp; omega)))⟩
  · go_enter Try.func10, Try.ntmps10
    go_wp2_with fail
    refine (drawPressPanel_c _ _ _ _ bs h hb).mono ?_
    rintro e w1 ⟨m, f, mv, op, ev, rfl, hb1⟩
    have hz1 := hb1.size
    have c1 := fun w => pressPanel_c m f mv op ev w
    have c2 := fun w => sPressPanel_c m f mv op ev w
    obtain ⟨⟨qm, qf, qv, qo⟩, hq⟩ : ∃ q, pressV ⟨m, f, mv, op⟩ ev = q := ⟨_, rfl⟩
    rw [hq] at c1 c2
    have C1 := Lib.hid c1
    have C2 := Lib.hid c2
    have HQ := Lib.hid hq
    clear c1 c2 hq h hb hca hcb
    cases hk : Pn.ok ⟨m, f, mv, op⟩
    · go_wp2_with (go_at_call 16; refine (C1.out _).mono ?_; rintro e w1 ⟨rfl, hb1⟩; obtain ⟨os1, d1, rfl⟩ := is_plus hb1; clear hb1)
      refine wp_region_plus (by kernel_rfl) (by kernel_rfl) ?_; (repeat (go_big_quiet_step (first | (go_at_call 17; exact quiet_plus (C2.out _)) | (go_at_call 14; exact quiet_plus (validPanel_c _ _ _ _ _))))); refine wpQuiet_nil ?_; intro _ hw'; obtain ⟨⟨osq, dq⟩, hw''⟩ := hw'; subst hw''
      go_wp2_with fail
      refine wp_region_plus (by kernel_rfl) (by kernel_rfl) ?_; (repeat (go_big_quiet_step (first | (go_at_call 17; exact quiet_plus2 (C2.out _)) | (go_at_call 17; exact quiet_plus (C2.out _)) | (go_at_call 14; exact quiet_plus (validPanel_c _ _ _ _ _))))); refine wpQuiet_nil ?_; intro _ hw'; obtain ⟨⟨osq, dq⟩, hw''⟩ := hw'; subst hw''
      go_wp2_with fail
      go_returns
      exact ⟨rfl, by (repeat' (first | (with_reducible exact Below.refl _ _) | (with_reducible assumption) | (with_reducible refine Below.alloc ?_ ?_ _) | (with_reducible refine below_plus ?_ ?_ _ _) | (with_reducible refine Below.drew ?_) | (with_reducible refine Below.setCell ?_ ?_ _) | (with_reducible refine below_adv ?_ ?_ _) | go_size | (simp; omega)))⟩
    · obtain ⟨ht1, ht2⟩ := press_twice m f mv op hk
      have a1 := fun w => pressPanel_c m f mv op 6 w
      have a3 := fun w => pressPanel_c m f mv op 2 w
      obtain ⟨⟨xm, xf, xv, xo⟩, hx⟩ : ∃ q, pressV ⟨m, f, mv, op⟩ 6 = q := ⟨_, rfl⟩
      obtain ⟨⟨ym, yf, yv, yo⟩, hy⟩ : ∃ q, pressV ⟨m, f, mv, op⟩ 2 = q := ⟨_, rfl⟩
      have a2 := fun w => pressPanel_c xm xf xv xo 6 w
      have a4 := fun w => pressPanel_c ym yf yv yo 2 w
      rw [hx] at a1 ht1
      rw [hy] at a3 ht2
      rw [ht1] at a2
      rw [ht2] at a4
      have A1 := Lib.hid a1
      have A2 := Lib.hid a2
      have A3 := Lib.hid a3
      have A4 := Lib.hid a4
      clear a1 a2 a3 a4 hx hy ht1 ht2
      go_wp2_with (go_at_call 16; refine (C1.out _).mono ?_; rintro e w1 ⟨rfl, hb1⟩; obtain ⟨os1, d1, rfl⟩ := is_plus hb1; clear hb1)
      refine wp_region_plus (by kernel_rfl) (by kernel_rfl) ?_; (repeat (go_big_quiet_step (first | (go_at_call 17; exact quiet_plus (C2.out _)) | (go_at_call 14; exact quiet_plus (validPanel_c _ _ _ _ _))))); refine wpQuiet_nil ?_; intro _ hw'; obtain ⟨⟨osq, dq⟩, hw''⟩ := hw'; subst hw''
      go_wp2_with fail
      refine (A1.out _).mono ?_
      rintro e w2 ⟨rfl, hb2⟩
      obtain ⟨os2, d2, rfl⟩ := is_plus hb2
      clear hb2
      go_wp2_with fail
      refine (A2.out _).mono ?_
      rintro e w2 ⟨rfl, hb2⟩
      obtain ⟨os3, d3, rfl⟩ := is_plus hb2
      clear hb2
      go_wp2_with fail
      refine (A3.out _).mono ?_
      rintro e w2 ⟨rfl, hb2⟩
      obtain ⟨os4, d4, rfl⟩ := is_plus hb2
      clear hb2
      go_wp2_with fail
      refine wp_region_plus (by kernel_rfl) (by kernel_rfl) ?_; (repeat (go_big_quiet_step ((go_at_call 16; exact quiet_plus (A4.out _))))); refine wpQuiet_nil ?_; intro _ hw'; obtain ⟨⟨osq, dq⟩, hw''⟩ := hw'; subst hw''
      go_wp2_with fail
      go_returns
      exact ⟨rfl, by (repeat' (first | (with_reducible exact Below.refl _ _) | (with_reducible assumption) | (with_reducible refine Below.alloc ?_ ?_ _) | (with_reducible refine below_plus ?_ ?_ _ _) | (with_reducible refine Below.drew ?_) | (with_reducible refine Below.setCell ?_ ?_ _) | (with_reducible refine below_adv ?_ ?_ _) | go_size | (simp; omega)))⟩
end Go.Proofs.Ytbekpfaghimmeaa
