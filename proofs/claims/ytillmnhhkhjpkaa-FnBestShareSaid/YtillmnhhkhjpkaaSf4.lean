/- The generator fewCalls, walked. -/
import Derived.Test.YtillmnhhkhjpkaaSf3
set_option linter.unusedVariables false
set_option linter.unusedSimpArgs false
namespace Go.Proofs.Ytillmnhhkhjpkaa
open Go.RowKit

set_option maxHeartbeats 2000000 in
theorem fewCalls_c (w : World) (r n c p : Nat) (A : Option Addr) (bs : List Int) (hR : Rd w r A n c bs p) (hp : p ≤ 300000) :
    Calls Try.prog 23 #[.pointer (some ⟨r, 0, none⟩)] w (CallsOf w r p 7 30) := by
  have hlt := hR.lt
  obtain ⟨i0, hi, hi0, hi1, hi2⟩ := info_parts info_call
  go_enter Try.func23, Try.ntmps23
  go_wp2_with fail
  refine (one_lit_c _ r n c (p) A bs _ _ _ _ [3, 4, 2, 5, 1, 0, 6, 7] (by rfl) (by rfl) (by decide) (by decide) (by (repeat' (first | (with_reducible exact hR) | (with_reducible exact RdX.of hR) | (with_reducible refine Rd.alloc ?_ _) | (with_reducible refine Rd.plus ?_ _ _) | (with_reducible refine Rd.drew ?_) | (with_reducible refine RdX.to ?_ _) | (with_reducible refine RdX.alloc ?_ _) | (with_reducible refine RdX.plus ?_ _ _) | (with_reducible refine RdX.adv ?_ _)))) (by omega) (by first | rfl | (simp; done) | (simp; omega))).mono ?_; rintro e w1 ⟨x1, hx1, rfl, os1, d1, rfl⟩
  have hx : 0 ≤ x1 ∧ x1 ≤ 7 := by simp at hx1; omega
  clear hx1
  obtain ⟨hx0, hx4⟩ := hx
  obtain ⟨m, rfl⟩ := Int.eq_ofNat_of_zero_le hx0
  go_wp2_with fail
  go_loopw [3, 4] (fun v i wr => ∃ (k j : Nat) (cs : List CallT), k + j = m ∧ i = .int .i64 j ∧ Below w.heap.size (adv w r (p + 1 + 3 * k)) wr ∧ wr.ownsRow w.heap.size 41 3 v k (fc cs)) (fun _ i _ => (intOf i).toNat)
  case atStart =>
    refine ⟨0, m, [], by omega, rfl, by (repeat' (first | (with_reducible exact Below.refl _ _) | (with_reducible assumption) | (with_reducible refine Below.alloc ?_ ?_ _) | (with_reducible refine below_plus ?_ ?_ _ _) | (with_reducible refine Below.drew ?_) | (with_reducible refine Below.setCell ?_ ?_ _) | (with_reducible refine below_adv ?_ ?_ _) | go_size | (simp; done) | (simp; omega))), ?_⟩
    have h0 := World.ownsRow_made (base := w.heap.size) (e := 41) (size := 3) w #[] 0 (Nat.le_refl _) (by decide) rfl
    refine own_go (h0.alloc (.cells #[.int .i64 3, .int .i64 4, .int .i64 2, .int .i64 5, .int .i64 1, .int .i64 0, .int .i64 6, .int .i64 7] 3)) hlt (q := p + 1) ?_
    rw [adv_alloc _ _ _ _ (by simp; omega), adv_alloc _ _ _ _ hlt]
    (repeat' (first | (with_reducible exact Below.refl _ _) | (with_reducible assumption) | (with_reducible refine Below.alloc ?_ ?_ _) | (with_reducible refine below_plus ?_ ?_ _ _) | (with_reducible refine Below.drew ?_) | (with_reducible refine Below.setCell ?_ ?_ _) | (with_reducible refine below_adv ?_ ?_ _) | go_size | (simp; done) | (simp; omega)))
  case round =>
    obtain ⟨k, j, cs, hkj, rfl, hb, hB⟩ := hrel
    have hsz := hb.size
    rw [size_adv] at hsz
    by_cases hj : 0 < j
    · go_wp2_with fail
      refine (randomCall_c w wr r n c p (p + 1 + 3 * k) A bs hR hb (by omega)).mono ?_
      rintro e w1 ⟨x, y, z, rfl, hb1, hg1⟩
      have hB1 := own_go hB hlt hg1
      have hsz1 := hb1.size
      rw [size_adv] at hsz1
      clear hg1 hB hb
      go_wp2_with (at_builtin; refine wpList_app3 (adv w r (p + 1 + 3 * k + 3)) w1 rfl _ _ 24 rfl 41 i0 (.agg #[.int .i64 0, .int .i64 0, .int .i64 0]) 24 Try.underlying24 hi hi0 hi1 hi2 rfl (by decide) w.heap.size _ k _ (by rfl) hB1 _ _ _ rfl rfl rfl _ (by rfl) rfl (by omega) hb1 hsz1 ?_; intro v2 w2 hB2 hb2 hg2)
      rw [fc_snoc] at hB2
      go_roundw
      case rel => exact ⟨k + 1, j - 1, _, by omega, by go_num, by rw [show p + 1 + 3 * (k + 1) = p + 1 + 3 * k + 3 by omega]; exact hb2, hB2⟩
      case measure => simp [intOf]; omega
    · obtain rfl : j = 0 := by omega
      obtain ⟨A', c', rfl, hO, hlo, hstore⟩ := own_slC hB
      have hcap := hO.cap
      have HO := Lib.hid hO
      have HLO := Lib.hid hlo
      have hRr := (hR.adv (p + 1 + 3 * k)).below hb hlt
      clear hB hO hlo
      by_cases hk0 : k = 0
      · subst hk0
        clear hstore
        go_wp2_with fail
        go_ret
        exact ⟨_, _, _, _, cs, rfl, HO.out, by omega, by omega, hb, HLO.out⟩
      · obtain ⟨g, x, y, z, rfl, hg0, hgl, c0, c1, cf, hst⟩ := hstore (by omega)
        have HST := Lib.hid hst
        have hk1 : (0 : Int) < (k : Int) := by omega
        clear hst hstore
        go_wp2_with fail
        refine (pick_g w wr r n c p (p + 1 + 3 * k) A bs 20 hR hb (by omega)).mono ?_
        rintro e w1 ⟨k2, ⟨hk0, -, -⟩, rfl, hb1, hg1⟩
        have hz1 := hg1.size
        rw [size_adv] at hz1
        have hgr : g ≠ r := by omega
        have hcl := fun i => (hg1.cell (p := ⟨g, i, none⟩) hgl).trans (cell?_adv wr r (p + 1 + 3 * k + 1) g i hgr)
        have c01 := (hcl 0).trans c0
        have c11 := (hcl 1).trans c1
        have cf1 := (hg1.frozen (p := ⟨g, 1, none⟩) hgl).trans ((frozen?_adv wr r (p + 1 + 3 * k + 1) g 1 hgr).trans cf)
        have HB1 := Lib.hid hb1
        by_cases hk2 : k2 = 0
        · subst hk2
          have hst1 : SlC (w1.setCell ⟨g, 1, none⟩ (.int .i64 x)) wr.heap.size (some ⟨g, 0, none⟩) k c' (cs.set 0 (x, x, z)) := by
            have h1 := HST.out.adv (r := r) (q := p + 1 + 3 * k + 1) (fun h b o hA => by injection hA with hA; injection hA with hA; omega)
            rw [show adv (wr.setCell ⟨g, 1, none⟩ (.int .i64 x)) r (p + 1 + 3 * k + 1) = (adv wr r (p + 1 + 3 * k + 1)).setCell ⟨g, 1, none⟩ (.int .i64 x) from (setCell_adv wr r _ g 1 _ hgr).symm] at h1
            exact h1.below (below_setCell2 hg1 _ _)
          have HST1 := Lib.hid (hst1.more hz1)
          have hbf := Lib.hid (hb1.setCell (p := ⟨g, 1, none⟩) hg0 (.int .i64 x))
          have hzs : (w1.setCell ⟨g, 1, none⟩ (.int .i64 x)).heap.size = w1.heap.size := by simp [World.setCell]
          clear hst1 hg1 hb1 hcl c0 c1 cf hb
          go_wp2_with fail
          go_ret
          exact ⟨_, _, _, _, _, rfl, by rw [hzs]; exact HST1.out, by omega, by omega, hbf.out, HLO.out⟩
        · have hk3 : (k2 == 0) = false := by simpa using hk2
          have hO1 : SlC w1 wr.heap.size (some ⟨g, 0, none⟩) k c' cs := (HO.out.adv (r := r) (q := p + 1 + 3 * k + 1) (fun h b o hA => by injection hA with hA; injection hA with hA; omega)).below hg1
          have HO1 := Lib.hid (hO1.more hz1)
          clear hO1 hg1 hb1 hcl c0 c1 cf hb
          go_wp2_with fail
          go_ret
          exact ⟨_, _, _, _, _, rfl, HO1.out, by omega, by omega, HB1.out, HLO.out⟩
end Go.Proofs.Ytillmnhhkhjpkaa
