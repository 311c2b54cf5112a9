/- The laws' helper equalBools. -/
import Derived.Test.YtlpbmnmhpknppaaFrb
set_option linter.unusedVariables false
set_option linter.unusedSimpArgs false
namespace Go.Proofs.Ytlpbmnmhpknppaa
open Go.RowKit

theorem equalBools_c (A : Option Addr) (n c : Nat) (xs : List Bool) (A2 : Option Addr) (n2 c2 : Nat) (ys : List Bool) (w : World) (B B2 : Nat) (hS : Sl w B OLit A n c xs) (hB : B ≤ w.heap.size) (hT : Sl w B2 OLit A2 n2 c2 ys) (hB2 : B2 ≤ w.heap.size) :
    Calls Try.prog 52 #[.slice A n c, .slice A2 n2 c2] w fun e w' => e = .returned (.bool (eqL xs ys)) ∧ Below w.heap.size w w' := by
  have hl1 := hS.len
  have hl2 := hT.len
  obtain ⟨hc0, hc1⟩ := hS.cap
  by_cases hn : n = n2
  · subst hn
    have HL := Lib.hid (And.intro hl1 hl2)
    clear hl1 hl2
    go_enter Try.func52, Try.ntmps52
    go_wp2
    go_loopw [5] (fun i wr => ∃ k : Nat, k ≤ n ∧ i = .int .i64 k ∧ Hid (xs.take k = ys.take k) ∧ ∃ os d, wr = plus w os d) (fun i _ => n - (intOf i).toNat)
    case atStart => exact ⟨0, Nat.zero_le _, rfl, rfl, #[], w.drawn, (plus_zero w).symm⟩
    case round =>
      obtain ⟨k, hk, rfl, htk, os, d, rfl⟩ := hrel
      by_cases hlt : k < n
      · obtain ⟨b, o, x, rfl, hb, hx, hcell⟩ := hS.at_ hlt
        obtain ⟨b2, o2, y, rfl, hb2, hy, hcell2⟩ := hT.at_ hlt
        have hcell' : w.cell? ⟨b, o + k, none⟩ = some (.bool x) := hcell
        have hcell2' : w.cell? ⟨b2, o2 + k, none⟩ = some (.bool y) := hcell2
        have hbw : b < w.heap.size := by omega
        have hbw2 : b2 < w.heap.size := by omega
        have hki : (k : Int) < (n : Int) := by omega
        by_cases hxy : x = y
        · subst hxy
          have HT : Hid (xs.take (k + 1) = ys.take (k + 1)) := by
            show xs.take (k + 1) = ys.take (k + 1)
            rw [take_snoc hx, take_snoc hy, htk.out]
          clear hx hy hS hT hcell hcell2
          go_wp2_with fail
          refine wp_region_plus (by kernel_rfl) (by kernel_rfl) ?_; (repeat (go_big_quiet_step (fail))); refine wpQuiet_nil ?_; intro _ hw'; obtain ⟨⟨osq, dq⟩, hw''⟩ := hw'; subst hw''
          go_wp2_with fail
          go_roundw
          case rel => exact ⟨k + 1, by omega, by go_num, HT, _, _, rfl⟩
          case measure => simp [intOf]; omega
        · have hne := Lib.hid (eqL_at hx hy hxy)
          have hxy2 : (x != y) = true := by simpa [bne] using hxy
          clear hx hy hS hT hcell hcell2
          all_goals (cases x <;> cases y <;> first | exact absurd rfl hxy | skip)
          all_goals
            go_wp2_with fail
            refine wp_region_plus (by kernel_rfl) (by kernel_rfl) ?_; (repeat (go_big_quiet_step (fail))); refine wpQuiet_nil ?_; intro _ hw'; obtain ⟨⟨osq, dq⟩, hw''⟩ := hw'; subst hw''
            go_wp2_with fail
            go_ret
            exact ⟨by rw [hne.out]; rfl, by (repeat' (first | (with_reducible exact Below.refl _ _) | (with_reducible assumption) | (with_reducible refine Below.alloc ?_ ?_ _) | (with_reducible refine below_plus ?_ ?_ _ _) | (with_reducible refine Below.drew ?_) | (with_reducible refine Below.setCell ?_ ?_ _) | (with_reducible refine below_adv ?_ ?_ _) | go_size | (simp; done) | (simp; omega)))⟩
      · obtain rfl : k = n := by omega
        have heq : xs = ys := by
          have := htk.out
          rwa [List.take_of_length_le (by rw [HL.out.1]; exact Nat.le_refl _), List.take_of_length_le (by rw [HL.out.2]; exact Nat.le_refl _)] at this
        clear hS hT
        go_wp2_with fail
        go_ret
        exact ⟨by rw [eqL_true heq]; rfl, by (repeat' (first | (with_reducible exact Below.refl _ _) | (with_reducible assumption) | (with_reducible refine Below.alloc ?_ ?_ _) | (with_reducible refine below_plus ?_ ?_ _ _) | (with_reducible refine Below.drew ?_) | (with_reducible refine Below.setCell ?_ ?_ _) | (with_reducible refine below_adv ?_ ?_ _) | go_size | (simp; done) | (simp; omega)))⟩
  · have hne := eqL_len (xs := xs) (ys := ys) (by omega)
    rw [hne]
    have hnn : ((n : Int) != (n2 : Int)) = true := by simp [bne]; omega
    clear hS hT hne hl1 hl2
    go_enter Try.func52, Try.ntmps52
    go_wp2
    go_ret
    exact ⟨rfl, by (repeat' (first | (with_reducible exact Below.refl _ _) | (with_reducible assumption) | (with_reducible refine Below.alloc ?_ ?_ _) | (with_reducible refine below_plus ?_ ?_ _ _) | (with_reducible refine Below.drew ?_) | (with_reducible refine Below.setCell ?_ ?_ _) | (with_reducible refine below_adv ?_ ?_ _) | go_size | (simp; done) | (simp; omega)))⟩
theorem equalBools_t (A : Option Addr) (n c : Nat) (xs : List Bool) (A2 : Option Addr) (n2 c2 : Nat) (w : World) (B B2 : Nat) (hS : Sl w B OLit A n c xs) (hB : B ≤ w.heap.size) (hT : Sl w B2 OLit A2 n2 c2 xs) (hB2 : B2 ≤ w.heap.size) :
    Calls Try.prog 52 #[.slice A n c, .slice A2 n2 c2] w fun e w' => e = .returned (.bool true) ∧ Below w.heap.size w w' := by
  have := equalBools_c A n c xs A2 n2 c2 xs w B B2 hS hB hT hB2
  rwa [eqL_true rfl] at this
end Go.Proofs.Ytlpbmnmhpknppaa
