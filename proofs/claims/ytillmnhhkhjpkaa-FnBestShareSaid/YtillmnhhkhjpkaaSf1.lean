/- The generator anyFleet, walked. -/
import Derived.Test.YtillmnhhkhjpkaaSc6
set_option linter.unusedVariables false
set_option linter.unusedSimpArgs false
namespace Go.Proofs.Ytillmnhhkhjpkaa
open Go.RowKit

set_option maxHeartbeats 1000000 in
theorem anyFleet_c (w : World) (r n c p : Nat) (A : Option Addr) (bs : List Int) (hR : Rd w r A n c bs p) (hp : p ≤ 400000) :
    Calls Try.prog 22 #[.pointer (some ⟨r, 0, none⟩)] w (IntsOf w r p 5 8) := by
  have hlt := hR.lt
  obtain ⟨i0, hi, hi0, hi1, hi2⟩ := info_parts info_int
  go_enter Try.func22, Try.ntmps22
  go_wp2_with fail
  refine (one_lit_c _ r n c (p) A bs _ _ _ _ [2, 3, 1, 2, 0, 4] (by rfl) (by rfl) (by decide) (by decide) (by (repeat' (first | (with_reducible exact hR) | (with_reducible exact RdX.of hR) | (with_reducible refine Rd.alloc ?_ _) | (with_reducible refine Rd.plus ?_ _ _) | (with_reducible refine Rd.drew ?_) | (with_reducible refine RdX.to ?_ _) | (with_reducible refine RdX.alloc ?_ _) | (with_reducible refine RdX.plus ?_ _ _) | (with_reducible refine RdX.adv ?_ _)))) (by omega) (by first | rfl | (simp; done) | (simp; omega))).mono ?_; rintro e w1 ⟨x1, hx1, rfl, os1, d1, rfl⟩
  have hx : 0 ≤ x1 ∧ x1 ≤ 4 := by simp at hx1; omega
  clear hx1
  obtain ⟨hx0, hx4⟩ := hx
  obtain ⟨m, rfl⟩ := Int.eq_ofNat_of_zero_le hx0
  go_wp2_with fail
  go_loopw [3, 4] (fun v i wr => ∃ (k j : Nat) (xs : List Int), k + j = m ∧ i = .int .i64 j ∧ Below w.heap.size (adv w r (p + 1 + k)) wr ∧ wr.ownsRow w.heap.size 3 1 v k (xs.map ILit)) (fun _ i _ => (intOf i).toNat)
  case atStart =>
    refine ⟨0, m, [], by omega, rfl, by (repeat' (first | (with_reducible exact Below.refl _ _) | (with_reducible assumption) | (with_reducible refine Below.alloc ?_ ?_ _) | (with_reducible refine below_plus ?_ ?_ _ _) | (with_reducible refine Below.drew ?_) | (with_reducible refine Below.setCell ?_ ?_ _) | (with_reducible refine below_adv ?_ ?_ _) | go_size | (simp; done) | (simp; omega))), ?_⟩
    have h0 := World.ownsRow_made (base := w.heap.size) (e := 3) (size := 1) w #[] 0 (Nat.le_refl _) (by decide) rfl
    refine own_go (h0.alloc (.cells #[.int .i64 2, .int .i64 3, .int .i64 1, .int .i64 2, .int .i64 0, .int .i64 4] 3)) hlt (q := p + 1) ?_
    rw [adv_alloc _ _ _ _ (by simp; omega), adv_alloc _ _ _ _ hlt]
    (repeat' (first | (with_reducible exact Below.refl _ _) | (with_reducible assumption) | (with_reducible refine Below.alloc ?_ ?_ _) | (with_reducible refine below_plus ?_ ?_ _ _) | (with_reducible refine Below.drew ?_) | (with_reducible refine Below.setCell ?_ ?_ _) | (with_reducible refine below_adv ?_ ?_ _) | go_size | (simp; done) | (simp; omega)))
  case round =>
    obtain ⟨k, j, xs, hkj, rfl, hb, hB⟩ := hrel
    have hsz := hb.size
    rw [size_adv] at hsz
    by_cases hj : 0 < j
    · go_wp2_with fail
      refine (pick_g w wr r n c p (p + 1 + k) A bs _ hR hb (by omega)).mono ?_
      rintro e w1 ⟨k2, ⟨hk0, hk1, -⟩, rfl, hb1, hg1⟩
      have hk2 := hk1 (by omega)
      have hB1 := own_go hB hlt hg1
      have hsz1 := hb1.size
      rw [size_adv] at hsz1
      clear hg1 hB hb hk1
      go_wp2_with (at_builtin; refine wpList_app1 (adv w r (p + 1 + k + 1)) w1 rfl _ _ 23 rfl 3 i0 (.int .i64 0) 8 Try.underlying23 hi hi0 hi1 hi2 rfl (by decide) w.heap.size _ k _ (by rfl) hB1 _ rfl _ (by rfl) rfl (by omega) hb1 hsz1 ?_; intro v2 w2 hB2 hb2 hg2)
      rw [ints_snoc] at hB2
      go_roundw
      case rel => exact ⟨k + 1, j - 1, _, by omega, by go_num, hb2, hB2⟩
      case measure => simp [intOf]; omega
    · obtain rfl : j = 0 := by omega
      obtain ⟨A', c', rfl, hO⟩ := Ow.of_own hB
      have hRr := (hR.adv (p + 1 + k)).below hb hlt
      clear hB
      go_wp2_with fail
      refine (spoil_c wr r n c (p + 1 + k) A bs hRr (by omega) A' k c' _ xs 16 hO.sl (Nat.le_refl _) (by omega)).mono ?_
      rintro e w5 ⟨A5, n5, c5, q5, ys, rfl, hS5, hn5, hq5, hb5, hlo5⟩
      have HLO := Lib.hid (fun (h : 0 < n5) b o hA => Nat.le_trans hsz (hlo5 h b o hA))
      clear hlo5
      go_wp2_with fail
      go_ret
      exact ⟨_, _, _, q5, ys, rfl, hS5, by omega, by omega, (below_adv2 hb q5).trans (hb5.mono hsz), HLO.out⟩
end Go.Proofs.Ytillmnhhkhjpkaa
