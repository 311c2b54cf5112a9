/- The law PressPanelRise, walked. -/
import Derived.Test.YtbekpfaghimmeaaW4
import Derived.Test.YtbekpfaghimmeaaW7
import Derived.Test.YtbekpfaghimmeaaPl
import Derived.Test.YtbekpfaghimmeaaQuiet
set_option linter.unusedVariables false
set_option linter.unusedSimpArgs false
namespace Go.Proofs.Ytbekpfaghimmeaa
open Go.RowKit

set_option maxHeartbeats 4000000 in
theorem pressPanelRise_walk (A : Option Addr) (n c : Nat) (bs : List Int) (w : World) (h : Sl w w.heap.size BLit A n c bs) (hb : ∀ x ∈ bs, 0 ≤ x ∧ x ≤ 255) :
    Calls Try.prog 9 #[.slice A n c] w fun e w' => e = .returned (.bool true) ∧ Below w.heap.size w w' := by
  have hcap := h.cap
  obtain ⟨hca, hcb⟩ := hcap
  by_cases hn : 1048576 < n
  · go_enter Try.func9, Try.ntmps9
    go_wp2
    go_ret
    exact ⟨rfl, by (repeat' (first | (with_reducible exact Below.refl _ _) | (with_reducible assumption) | (with_reducible refine Below.alloc ?_ ?_ _) | (with_reducible refine below_plus ?_ ?_ _ _) | (with_reducible refine Below.drew ?_) | (with_reducible refine Below.setCell ?_ ?_ _) | (with_reducible refine below_adv ?_ ?_ _) | go_size | (simp; omega)))⟩
  · go_enter Try.func9, Try.ntmps9
    go_wp2_with fail
    refine (drawPressPanel_c _ _ _ _ bs h hb).mono ?_
    rintro e w1 ⟨m, f, mv, op, ev, rfl, hb1⟩
    have hz1 := hb1.size
    have c1 := fun w => pressPanel_c m f mv op ev w
    have c2 := fun w => sPressPanel_c m f mv op ev w
    obtain ⟨⟨qm, qf, qv, qo⟩, hq⟩ : ∃ q, pressV ⟨m, f, mv, op⟩ ev = q := ⟨_, rfl⟩
    rw [hq] at c1 c2
    have C1 := Lib.hid c1
    have C2 := Lib.hid c2
    have HQ := Lib.hid hq
    clear c1 c2 hq h hb hca hcb
    cases hk : Pn.ok ⟨m, f, mv, op⟩
    · go_wp2_with (go_at_call 16; refine (C1.out _).mono ?_; rintro e w1 ⟨rfl, hb1⟩; obtain ⟨os1, d1, rfl⟩ := is_plus hb1; clear hb1)
      refine wp_region_plus (by kernel_rfl) (by kernel_rfl) ?_; (repeat (go_big_quiet_step (first | (go_at_call 17; exact quiet_plus (C2.out _)) | (go_at_call 14; exact quiet_plus (validPanel_c _ _ _ _ _))))); refine wpQuiet_nil ?_; intro _ hw'; obtain ⟨⟨osq, dq⟩, hw''⟩ := hw'; subst hw''
      go_wp2_with fail
      refine wp_region_plus (by kernel_rfl) (by kernel_rfl) ?_; (repeat (go_big_quiet_step (first | (go_at_call 17; exact quiet_plus2 (C2.out _)) | (go_at_call 17; exact quiet_plus (C2.out _)) | (go_at_call 14; exact quiet_plus (validPanel_c _ _ _ _ _))))); refine wpQuiet_nil ?_; intro _ hw'; obtain ⟨⟨osq, dq⟩, hw''⟩ := hw'; subst hw''
      go_wp2_with fail
      go_returns
      exact ⟨rfl, by (repeat' (first | (with_reducible exact Below.refl _ _) | (with_reducible assumption) | (with_reducible refine Below.alloc ?_ ?_ _) | (with_reducible refine below_plus ?_ ?_ _ _) | (with_reducible refine Below.drew ?_) | (with_reducible refine Below.setCell ?_ ?_ _) | (with_reducible refine below_adv ?_ ?_ _) | go_size | (simp; omega)))⟩
    by_cases hm : m = 0
    · subst hm
      cases op
      · cases mv
        · have hf := Pn.ok_b hk
          obtain ⟨hf0, hf1⟩ := hf
          have a1 := fun w => pressPanel_c 0 f false false 5 w
          rw [start_up f hf0 hf1] at a1
          have A1 := Lib.hid a1
          have T := Lib.hid (tick_step f hf0 hf1)
          clear a1
          go_wp2_with (go_at_call 16; refine (C1.out _).mono ?_; rintro e w1 ⟨rfl, hb1⟩; obtain ⟨os1, d1, rfl⟩ := is_plus hb1; clear hb1)
          refine wp_region_plus (by kernel_rfl) (by kernel_rfl) ?_; (repeat (go_big_quiet_step (first | (go_at_call 17; exact quiet_plus (C2.out _)) | (go_at_call 14; exact quiet_plus (validPanel_c _ _ _ _ _))))); refine wpQuiet_nil ?_; intro _ hw'; obtain ⟨⟨osq, dq⟩, hw''⟩ := hw'; subst hw''
          clear C1 C2 HQ hk
          go_wp2_with fail
          refine (A1.out _).mono ?_
          rintro e w2 ⟨rfl, hb2⟩
          have hbw : Below w.heap.size w w2 := by
            refine Below.trans ?_ (hb2.mono ?_)
            · (repeat' (first | (with_reducible exact Below.refl _ _) | (with_reducible assumption) | (with_reducible refine Below.alloc ?_ ?_ _) | (with_reducible refine below_plus ?_ ?_ _ _) | (with_reducible refine Below.drew ?_) | (with_reducible refine Below.setCell ?_ ?_ _) | (with_reducible refine below_adv ?_ ?_ _) | go_size | (simp; omega)))
            · simp; omega
          have hzw := hbw.size
          clear hb2 A1
          go_wp2_with fail
          go_loopw [7] (fun i wr => ∃ k : Nat, k ≤ 15 ∧ i = .int .i64 k ∧ ∃ yf yv, Hid (yf = min (f + k) 15 ∧ yv = decide (yf < 15)) ∧ ∃ os d, wr = plus (w2.alloc (.cells #[.int .i64 0, .int .i64 yf, .bool yv, .bool false] 25)) os d) (fun i _ => 15 - (intOf i).toNat)
          case atStart =>
            have e0 : f = min (f + ((0 : Nat) : Int)) 15 := by omega
            exact ⟨0, by omega, rfl, f, decide (f < 15), ⟨e0, rfl⟩, #[], w2.drawn, by rw [alloc_is_plus, plus_plus]; rfl⟩
          case round =>
            obtain ⟨k, hk, rfl, yf, yv, hy, os3, d3, rfl⟩ := hrel
            by_cases hlt : k < 15
            · have a2 := fun w => pressPanel_c 0 yf yv false 4 w
              have t2 := T.out k
              obtain ⟨hy1, hy2⟩ := hy.out
              rw [← hy1, ← hy2] at t2
              obtain ⟨zf, hzf⟩ : ∃ zf, zf = min (f + ((k + 1 : Nat) : Int)) 15 := ⟨_, rfl⟩
              rw [← hzf] at t2
              obtain ⟨zv, hzv⟩ : ∃ zv, zv = decide (zf < 15) := ⟨_, rfl⟩
              rw [← hzv] at t2
              rw [t2] at a2
              have A2 := Lib.hid a2
              have Z := Lib.hid (And.intro hzf hzv)
              clear a2 t2 hy1 hy2 hy hzf hzv
              go_wp2_with (go_at_call 16; refine (A2.out _).mono ?_; rintro e w1 ⟨rfl, hb1⟩; obtain ⟨os1, d1, rfl⟩ := is_plus hb1; clear hb1)
              go_roundw
              case rel => exact ⟨k + 1, by omega, by go_num, zf, zv, Z.out, _, _, rfl⟩
              case measure => simp [intOf]; omega
            · obtain ⟨hy1, hy2⟩ := hy.out
              have e15 : yf = 15 := by omega
              subst e15
              have e16 : yv = false := by rw [hy2]; decide
              subst e16
              clear hy hy1 hy2
              go_wp2
              go_returns
              exact ⟨rfl, by (repeat' (first | (with_reducible exact Below.refl _ _) | (with_reducible assumption) | (with_reducible refine Below.alloc ?_ ?_ _) | (with_reducible refine below_plus ?_ ?_ _ _) | (with_reducible refine Below.drew ?_) | (with_reducible refine Below.setCell ?_ ?_ _) | (with_reducible refine below_adv ?_ ?_ _) | go_size | (simp; omega)))⟩
        · go_wp2_with (go_at_call 16; refine (C1.out _).mono ?_; rintro e w1 ⟨rfl, hb1⟩; obtain ⟨os1, d1, rfl⟩ := is_plus hb1; clear hb1)
          refine wp_region_plus (by kernel_rfl) (by kernel_rfl) ?_; (repeat (go_big_quiet_step (first | (go_at_call 17; exact quiet_plus (C2.out _)) | (go_at_call 14; exact quiet_plus (validPanel_c _ _ _ _ _))))); refine wpQuiet_nil ?_; intro _ hw'; obtain ⟨⟨osq, dq⟩, hw''⟩ := hw'; subst hw''
          go_wp2_with fail
          refine wp_region_plus (by kernel_rfl) (by kernel_rfl) ?_; (repeat (go_big_quiet_step (first | (go_at_call 17; exact quiet_plus2 (C2.out _)) | (go_at_call 17; exact quiet_plus (C2.out _)) | (go_at_call 14; exact quiet_plus (validPanel_c _ _ _ _ _))))); refine wpQuiet_nil ?_; intro _ hw'; obtain ⟨⟨osq, dq⟩, hw''⟩ := hw'; subst hw''
          go_wp2_with fail
          go_returns
          exact ⟨rfl, by (repeat' (first | (with_reducible exact Below.refl _ _) | (with_reducible assumption) | (with_reducible refine Below.alloc ?_ ?_ _) | (with_reducible refine below_plus ?_ ?_ _ _) | (with_reducible refine Below.drew ?_) | (with_reducible refine Below.setCell ?_ ?_ _) | (with_reducible refine below_adv ?_ ?_ _) | go_size | (simp; omega)))⟩
      · go_wp2_with (go_at_call 16; refine (C1.out _).mono ?_; rintro e w1 ⟨rfl, hb1⟩; obtain ⟨os1, d1, rfl⟩ := is_plus hb1; clear hb1)
        refine wp_region_plus (by kernel_rfl) (by kernel_rfl) ?_; (repeat (go_big_quiet_step (first | (go_at_call 17; exact quiet_plus (C2.out _)) | (go_at_call 14; exact quiet_plus (validPanel_c _ _ _ _ _))))); refine wpQuiet_nil ?_; intro _ hw'; obtain ⟨⟨osq, dq⟩, hw''⟩ := hw'; subst hw''
        go_wp2_with fail
        refine wp_region_plus (by kernel_rfl) (by kernel_rfl) ?_; (repeat (go_big_quiet_step (first | (go_at_call 17; exact quiet_plus2 (C2.out _)) | (go_at_call 17; exact quiet_plus (C2.out _)) | (go_at_call 14; exact quiet_plus (validPanel_c _ _ _ _ _))))); refine wpQuiet_nil ?_; intro _ hw'; obtain ⟨⟨osq, dq⟩, hw''⟩ := hw'; subst hw''
        go_wp2_with fail
        go_returns
        exact ⟨rfl, by (repeat' (first | (with_reducible exact Below.refl _ _) | (with_reducible assumption) | (with_reducible refine Below.alloc ?_ ?_ _) | (with_reducible refine below_plus ?_ ?_ _ _) | (with_reducible refine Below.drew ?_) | (with_reducible refine Below.setCell ?_ ?_ _) | (with_reducible refine below_adv ?_ ?_ _) | go_size | (simp; omega)))⟩
    · have em2 : (m != 0) = true := by simpa [bne] using hm
      go_wp2_with (go_at_call 16; refine (C1.out _).mono ?_; rintro e w1 ⟨rfl, hb1⟩; obtain ⟨os1, d1, rfl⟩ := is_plus hb1; clear hb1)
      refine wp_region_plus (by kernel_rfl) (by kernel_rfl) ?_; (repeat (go_big_quiet_step (first | (go_at_call 17; exact quiet_plus (C2.out _)) | (go_at_call 14; exact quiet_plus (validPanel_c _ _ _ _ _))))); refine wpQuiet_nil ?_; intro _ hw'; obtain ⟨⟨osq, dq⟩, hw''⟩ := hw'; subst hw''
      go_wp2_with fail
      refine wp_region_plus (by kernel_rfl) (by kernel_rfl) ?_; (repeat (go_big_quiet_step (first | (go_at_call 17; exact quiet_plus2 (C2.out _)) | (go_at_call 17; exact quiet_plus (C2.out _)) | (go_at_call 14; exact quiet_plus (validPanel_c _ _ _ _ _))))); refine wpQuiet_nil ?_; intro _ hw'; obtain ⟨⟨osq, dq⟩, hw''⟩ := hw'; subst hw''
      go_wp2_with fail
      go_returns
      exact ⟨rfl, by (repeat' (first | (with_reducible exact Below.refl _ _) | (with_reducible assumption) | (with_reducible refine Below.alloc ?_ ?_ _) | (with_reducible refine below_plus ?_ ?_ _ _) | (with_reducible refine Below.drew ?_) | (with_reducible refine Below.setCell ?_ ?_ _) | (with_reducible refine below_adv ?_ ?_ _) | go_size | (simp; omega)))⟩
end Go.Proofs.Ytbekpfaghimmeaa
