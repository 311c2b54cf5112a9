/- The laws' helpers on []bool: toBoolS, eqBoolS, markBoolS, heldBoolS. -/
import Derived.Test.YtpngddcdcpepmaaRows
import Derived.Test.YtpngddcdcpepmaaOw
set_option linter.unusedVariables false
set_option linter.unusedSimpArgs false
namespace Go.Proofs.Ytpngddcdcpepmaa
open Go.RowKit

theorem info_bool : (Try.prog.info? 4).map (fun i => (i.zero, i.size, i.bytes)) = some (some (.bool false), 1, 1) := by kernel_rfl

theorem toBoolS_c (A : Option Addr) (n c : Nat) (xs : List Bool) (w : World) (B : Nat) (hS : Sl w B OLit A n c xs) (hB : B ≤ w.heap.size) (hn : n ≤ 1099511627776) :
    Calls Try.prog 20 #[.slice A n c] w fun e w' => e = .returned (.slice (some ⟨w.heap.size, 0, none⟩) n n) ∧ w.alloc (.cells (xs.map OLit).toArray 4) = w' := by
  have hlen := hS.len
  have hmk := run_make_row' (P := Try.prog) 31 4 (.bool false) 1 Try.underlying31 info_bool rfl .i64 .i64 n (by omega) (by omega)
  rw [show madeCells #[.bool false] n = part OLit (.bool false) xs 0 from by rw [part_zero, hlen]] at hmk
  have HL := Lib.hid hlen
  obtain ⟨hc0, hc1⟩ := hS.cap
  clear hlen
  go_enter Try.func20, Try.ntmps20
  go_wp2
  go_loopw [4] (fun i wr => ∃ k : Nat, k ≤ n ∧ i = .int .i64 k ∧ wr = w.alloc (.cells (part OLit (.bool false) xs k) 4)) (fun i _ => n - (intOf i).toNat)
  case atStart => exact ⟨0, Nat.zero_le _, rfl, rfl⟩
  case round =>
    obtain ⟨k, hk, rfl, rfl⟩ := hrel
    by_cases hlt : k < n
    · obtain ⟨b, o, x, rfl, hb, hx, hcell⟩ := hS.at_ hlt
      have hcell' : w.cell? ⟨b, o + k, none⟩ = some (.bool x) := hcell
      have hbw : b < w.heap.size := by omega
      have hold := part_old OLit (.bool false) xs (k := k) (by rw [HL.out]; exact hlt)
      have hset := part_set OLit (.bool false) xs hx
      have hset' : (part OLit (.bool false) xs k).setIfInBounds k (.bool x) = part OLit (.bool false) xs (k + 1) := hset
      have HS := Lib.hid hset'
      obtain ⟨cs, hcs⟩ : ∃ cs, part OLit (.bool false) xs k = cs := ⟨_, rfl⟩
      rw [hcs] at hold ⊢
      have HC := Lib.hid hcs
      clear hcell hx hset hset' hS hcs hmk
      go_wp2
      go_roundw
      case rel => exact ⟨k + 1, by omega, by go_num, by rw [← HC.out, HS.out]⟩
      case measure => simp [intOf]; omega
    · obtain rfl : k = n := by omega
      clear hmk
      go_wp2
      go_ret
      exact ⟨rfl, by rw [← HL.out, part_all]⟩

theorem eqBoolS_c (A : Option Addr) (n c : Nat) (xs : List Bool) (A2 : Option Addr) (n2 c2 : Nat) (ys : List Bool) (w : World) (B B2 : Nat) (hS : Sl w B OLit A n c xs) (hB : B ≤ w.heap.size) (hT : Sl w B2 OLit A2 n2 c2 ys) (hB2 : B2 ≤ w.heap.size) :
    Calls Try.prog 22 #[.slice A n c, .slice A2 n2 c2] w fun e w' => e = .returned (.bool (eqL xs ys)) ∧ Below w.heap.size w w' := by
  have hl1 := hS.len
  have hl2 := hT.len
  obtain ⟨hc0, hc1⟩ := hS.cap
  by_cases hn : n = n2
  · subst hn
    have HL := Lib.hid (And.intro hl1 hl2)
    clear hl1 hl2
    go_enter Try.func22, Try.ntmps22
    go_wp2
    go_loopw [5] (fun i wr => ∃ k : Nat, k ≤ n ∧ i = .int .i64 k ∧ Hid (xs.take k = ys.take k) ∧ ∃ os d, wr = plus w os d) (fun i _ => n - (intOf i).toNat)
    case atStart => exact ⟨0, Nat.zero_le _, rfl, rfl, #[], w.drawn, (plus_zero w).symm⟩
    case round =>
      obtain ⟨k, hk, rfl, htk, os, d, rfl⟩ := hrel
      by_cases hlt : k < n
      · obtain ⟨b, o, x, rfl, hb, hx, hcell⟩ := hS.at_ hlt
        obtain ⟨b2, o2, y, rfl, hb2, hy, hcell2⟩ := hT.at_ hlt
        have hcell' : w.cell? ⟨b, o + k, none⟩ = some (.bool x) := hcell
        have hcell2' : w.cell? ⟨b2, o2 + k, none⟩ = some (.bool y) := hcell2
        have hbw : b < w.heap.size := by omega
        have hbw2 : b2 < w.heap.size := by omega
        have hki : (k : Int) < (n : Int) := by omega
        by_cases hxy : x = y
        · subst hxy
          have HT : Hid (xs.take (k + 1) = ys.take (k + 1)) := by
            show xs.take (k + 1) = ys.take (k + 1)
            rw [take_snoc hx, take_snoc hy, htk.out]
          clear hx hy hS hT hcell hcell2
          go_wp2_with fail
          refine wp_region_plus (by kernel_rfl) (by kernel_rfl) ?_; (repeat (go_big_quiet_step (fail))); refine wpQuiet_nil ?_; intro _ hw'; obtain ⟨⟨osq, dq⟩, hw''⟩ := hw'; subst hw''
          go_wp2_with fail
          go_roundw
          case rel => exact ⟨k + 1, by omega, by go_num, HT, _, _, rfl⟩
          case measure => simp [intOf]; omega
        · have hne := Lib.hid (eqL_at hx hy hxy)
          have hxy2 : (x != y) = true := by simpa [bne] using hxy
          clear hx hy hS hT hcell hcell2
          all_goals (cases x <;> cases y <;> first | exact absurd rfl hxy | skip)
          all_goals
            go_wp2_with fail
            refine wp_region_plus (by kernel_rfl) (by kernel_rfl) ?_; (repeat (go_big_quiet_step (fail))); refine wpQuiet_nil ?_; intro _ hw'; obtain ⟨⟨osq, dq⟩, hw''⟩ := hw'; subst hw''
            go_wp2_with fail
            go_ret
            exact ⟨by rw [hne.out]; rfl, by (repeat' (first | (with_reducible exact Below.refl _ _) | (with_reducible assumption) | (with_reducible refine Below.alloc ?_ ?_ _) | (with_reducible refine below_plus ?_ ?_ _ _) | (with_reducible refine Below.drew ?_) | (with_reducible refine Below.setCell ?_ ?_ _) | (with_reducible refine below_adv ?_ ?_ _) | go_size | (simp; done) | (simp; omega)))⟩
      · obtain rfl : k = n := by omega
        have heq : xs = ys := by
          have := htk.out
          rwa [List.take_of_length_le (by rw [HL.out.1]; exact Nat.le_refl _), List.take_of_length_le (by rw [HL.out.2]; exact Nat.le_refl _)] at this
        clear hS hT
        go_wp2_with fail
        go_ret
        exact ⟨by rw [eqL_true heq]; rfl, by (repeat' (first | (with_reducible exact Below.refl _ _) | (with_reducible assumption) | (with_reducible refine Below.alloc ?_ ?_ _) | (with_reducible refine below_plus ?_ ?_ _ _) | (with_reducible refine Below.drew ?_) | (with_reducible refine Below.setCell ?_ ?_ _) | (with_reducible refine below_adv ?_ ?_ _) | go_size | (simp; done) | (simp; omega)))⟩
  · have hne := eqL_len (xs := xs) (ys := ys) (by omega)
    rw [hne]
    have hnn : ((n : Int) != (n2 : Int)) = true := by simp [bne]; omega
    clear hS hT hne hl1 hl2
    go_enter Try.func22, Try.ntmps22
    go_wp2
    go_ret
    exact ⟨rfl, by (repeat' (first | (with_reducible exact Below.refl _ _) | (with_reducible assumption) | (with_reducible refine Below.alloc ?_ ?_ _) | (with_reducible refine below_plus ?_ ?_ _ _) | (with_reducible refine Below.drew ?_) | (with_reducible refine Below.setCell ?_ ?_ _) | (with_reducible refine below_adv ?_ ?_ _) | go_size | (simp; done) | (simp; omega)))⟩


end Go.Proofs.Ytpngddcdcpepmaa
