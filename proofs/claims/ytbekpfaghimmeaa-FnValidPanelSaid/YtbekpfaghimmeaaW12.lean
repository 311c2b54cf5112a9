/- The law ValidPanel, walked. -/
import Derived.Test.YtbekpfaghimmeaaW4
import Derived.Test.YtbekpfaghimmeaaW7
import Derived.Test.YtbekpfaghimmeaaPl
import Derived.Test.YtbekpfaghimmeaaQuiet
set_option linter.unusedVariables false
set_option linter.unusedSimpArgs false
namespace Go.Proofs.Ytbekpfaghimmeaa
open Go.RowKit

set_option maxHeartbeats 1000000 in
theorem validPanelLaw_walk (A : Option Addr) (n c : Nat) (bs : List Int) (w : World) (h : Sl w w.heap.size BLit A n c bs) (hb : ∀ x ∈ bs, 0 ≤ x ∧ x ≤ 255) :
    Calls Try.prog 4 #[.slice A n c] w fun e w' => e = .returned (.bool true) ∧ Below w.heap.size w w' := by
  have hcap := h.cap
  obtain ⟨hca, hcb⟩ := hcap
  by_cases hn : 1048576 < n
  · go_enter Try.func4, Try.ntmps4
    go_wp2
    go_ret
    exact ⟨rfl, by (repeat' (first | (with_reducible exact Below.refl _ _) | (with_reducible assumption) | (with_reducible refine Below.alloc ?_ ?_ _) | (with_reducible refine below_plus ?_ ?_ _ _) | (with_reducible refine Below.drew ?_) | (with_reducible refine Below.setCell ?_ ?_ _) | (with_reducible refine below_adv ?_ ?_ _) | go_size | (simp; omega)))⟩
  · go_enter Try.func4, Try.ntmps4
    go_wp2_with fail
    refine (drawValidPanel_c _ _ _ _ bs h hb).mono ?_
    rintro e w1 ⟨m, f, mv, op, rfl, hb1⟩
    have hz1 := hb1.size
    clear h hb hca hcb
    cases hk : Pn.ok ⟨m, f, mv, op⟩
    · go_wp2_with (first | (go_at_call 14; refine (validPanel_c _ _ _ _ _).mono ?_; rintro e w1 ⟨rfl, hb1⟩; obtain ⟨os1, d1, rfl⟩ := is_plus hb1; clear hb1) | (go_at_call 12; refine (sValidPanel_c _ _ _ _ _).mono ?_; rintro e w1 ⟨rfl, hb1⟩; obtain ⟨os1, d1, rfl⟩ := is_plus hb1; clear hb1))
      go_returns
      exact ⟨rfl, by (repeat' (first | (with_reducible exact Below.refl _ _) | (with_reducible assumption) | (with_reducible refine Below.alloc ?_ ?_ _) | (with_reducible refine below_plus ?_ ?_ _ _) | (with_reducible refine Below.drew ?_) | (with_reducible refine Below.setCell ?_ ?_ _) | (with_reducible refine below_adv ?_ ?_ _) | go_size | (simp; omega)))⟩
    · have K := Lib.hid (fun ev => press_ok m f mv op ev hk)
      go_wp2_with (first | (go_at_call 14; refine (validPanel_c _ _ _ _ _).mono ?_; rintro e w1 ⟨rfl, hb1⟩; obtain ⟨os1, d1, rfl⟩ := is_plus hb1; clear hb1) | (go_at_call 12; refine (sValidPanel_c _ _ _ _ _).mono ?_; rintro e w1 ⟨rfl, hb1⟩; obtain ⟨os1, d1, rfl⟩ := is_plus hb1; clear hb1))
      clear hk
      go_loopw [5] (fun i wr => ∃ k : Nat, k ≤ 8 ∧ i = .int .i64 k ∧ ∃ os d, wr = plus (w1.alloc (.cells #[.int .i64 m, .int .i64 f, .bool mv, .bool op] 25)) os d) (fun i _ => 8 - (intOf i).toNat)
      case atStart => exact ⟨0, by omega, rfl, _, _, rfl⟩
      case round =>
        obtain ⟨k, hk, rfl, os3, d3, rfl⟩ := hrel
        by_cases hlt : k < 8
        · have c1 := fun w => pressPanel_c m f mv op k w
          have k1 := K.out k
          obtain ⟨⟨qm, qf, qv, qo⟩, hq⟩ : ∃ q, pressV ⟨m, f, mv, op⟩ k = q := ⟨_, rfl⟩
          rw [hq] at c1 k1
          have c2 := fun w => validPanel_c qm qf qv qo w
          rw [k1] at c2
          have C1 := Lib.hid c1
          have C2 := Lib.hid c2
          clear c1 c2 k1 hq
          go_wp2_with (first | (go_at_call 16; refine (C1.out _).mono ?_; rintro e w1 ⟨rfl, hb1⟩; obtain ⟨os1, d1, rfl⟩ := is_plus hb1; clear hb1) | (go_at_call 14; refine (C2.out _).mono ?_; rintro e w1 ⟨rfl, hb1⟩; obtain ⟨os1, d1, rfl⟩ := is_plus hb1; clear hb1))
          go_roundw
          case rel => exact ⟨k + 1, by omega, by go_num, _, _, rfl⟩
          case measure => simp [intOf]; omega
        · go_wp2
          go_returns
          exact ⟨rfl, by (repeat' (first | (with_reducible exact Below.refl _ _) | (with_reducible assumption) | (with_reducible refine Below.alloc ?_ ?_ _) | (with_reducible refine below_plus ?_ ?_ _ _) | (with_reducible refine Below.drew ?_) | (with_reducible refine Below.setCell ?_ ?_ _) | (with_reducible refine below_adv ?_ ?_ _) | go_size | (simp; omega)))⟩

end Go.Proofs.Ytbekpfaghimmeaa
