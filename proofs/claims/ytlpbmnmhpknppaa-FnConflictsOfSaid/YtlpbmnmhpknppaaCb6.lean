/- The law ConflictsOf. -/
import Derived.Test.YtlpbmnmhpknppaaCb4
import Derived.Test.YtlpbmnmhpknppaaHbb
set_option linter.unusedVariables false
set_option linter.unusedSimpArgs false
namespace Go.Proofs.Ytlpbmnmhpknppaa
open Go.RowKit

set_option maxHeartbeats 4000000 in
theorem conflictsOfLaw_walk (A : Option Addr) (n c : Nat) (bs : List Int) (w : World) (hS : Sl w w.heap.size BLit A n c bs) (hbs : ∀ x ∈ bs, 0 ≤ x ∧ x ≤ 255) :
    Calls Try.prog 5 #[.slice A n c] w fun e w' => e = .returned (.bool true) ∧ Below w.heap.size w w' := by
  obtain ⟨hc0, hc1⟩ := hS.cap
  by_cases hn : 1048576 < n
  · go_enter Try.func5, Try.ntmps5
    go_wp2
    go_ret
    exact ⟨rfl, by (repeat' (first | (with_reducible exact Below.refl _ _) | (with_reducible assumption) | (with_reducible refine Below.alloc ?_ ?_ _) | (with_reducible refine below_plus ?_ ?_ _ _) | (with_reducible refine Below.drew ?_) | (with_reducible refine Below.setCell ?_ ?_ _) | (with_reducible refine below_adv ?_ ?_ _) | go_size | (simp; done) | (simp; omega)))⟩
  · go_enter Try.func5, Try.ntmps5
    go_wp2_with fail
    refine (drawConflictsOf_c A n c bs w _ hS (Nat.le_refl _) hbs).mono ?_
    rintro e w1 ⟨A1, m, c1, t, rfl, hT1, hm8, hb1⟩
    have hz1 := hb1.size
    obtain ⟨hm0, hm1⟩ := hT1.cap
    have hTl := hT1.len
    clear hS hbs
    have C1 := Lib.hid (fun w' (hw : Below w1.heap.size w1 w') => conflictsOf_c A1 m c1 t w' _ (hT1.below hw) hw.size)
    have C2 := Lib.hid (fun w' (hw : Below w1.heap.size w1 w') => sConflictsOf_c A1 m c1 t w' _ (hT1.below hw) hw.size)
    go_wp2_with fail
    refine (C1.out w1 (Below.refl _ _)).mono ?_
    rintro e w2 ⟨A2, n2, c2, rfl, hO2, hb2⟩
    have hz2 := hb2.size
    go_wp2_with fail
    refine (C2.out w2 hb2).mono ?_
    rintro e w3 ⟨A3, n3, c3, rfl, hO3, hb3⟩
    have hz3 := hb3.size
    have hb13 := hb2.trans (hb3.mono hz2)
    have hO23 := hO2.below hb3
    have E1 := Lib.hid (equalTables_t A2 n2 c2 _ A3 n3 c3 w3 _ _ hO23.sl2 (by omega) hO3.sl2 (Nat.le_refl _))
    have hn2 := hO2.len
    obtain ⟨k20, k21⟩ := hO2.cap
    clear hO2 hO3
    go_wp2_with fail
    refine E1.out.mono ?_
    rintro e w4 ⟨rfl, hb4⟩
    have hz4 := hb4.size
    have hb14 := hb13.trans (hb4.mono (by omega))
    have hO24 := hO23.below hb4
    clear hO23
    clear E1
    cases hok : cOk t
    · have HE := Lib.hid (confF_no hok)
      rw [HE.out] at hn2 hO24
      have hn20 : n2 = 0 := by rw [← hn2]; rfl
      subst hn20
      clear hok
      go_wp2_with fail
      refine (C2.out w4 hb14).mono ?_
      rintro e w5 ⟨A5, n5, c5, rfl, hO5, hb5⟩
      have hz5 := hb5.size
      have hb15 := hb14.trans (hb5.mono (by omega))
      rw [HE.out] at hO5
      have E2 := Lib.hid (equalTables_t A2 0 c2 _ A5 n5 c5 w5 _ _ (hO24.below hb5).sl2 (by omega) hO5.sl2 (Nat.le_refl _))
      clear hO24 hO5
      go_wp2_with fail
      refine E2.out.mono ?_
      rintro e w6 ⟨rfl, hb6⟩
      go_wp2_with fail
      go_ret
      exact ⟨rfl, (hb1.trans (hb15.mono hz1)).trans (hb6.mono (by omega))⟩
    · obtain ⟨h1m, -, hsq, -, -⟩ := cOk_iff.1 hok
      have HE := Lib.hid (confF_yes hok)
      rw [HE.out] at hn2 hO24
      rw [conf_len, hTl] at hn2
      subst hn2
      rw [hTl] at h1m
      have HSQ := Lib.hid hsq
      have HSQ2 := Lib.hid (conf_sq hsq)
      have hS2 := hO24.sl2
      have hT4 := (hT1.below hb14).more (B' := w4.heap.size) (by omega)
      have hb04 := hb1.trans (hb14.mono hz1)
      have hm0' : ((m : Int) == 0) = false := by simp; omega
      clear hok hsq hO24 C1 C2
      go_wp2_with fail
      go_loopw [5] (fun i wr => ∃ (k : Nat), k ≤ m ∧ i = .int .i64 k ∧ Below w4.heap.size w4 wr) (fun i _ => m - (intOf i).toNat)
      case atStart => exact ⟨0, by omega, rfl, Below.refl _ _⟩
      case round =>
        obtain ⟨k, hk, rfl, hb⟩ := hrel
        have hzr := hb.size
        by_cases hlt : k < m
        · go_wp2_with fail
          go_loopw [6] (fun i wr2 => ∃ (j : Nat), j ≤ m ∧ i = .int .i64 j ∧ Below w4.heap.size w4 wr2) (fun i _ => m - (intOf i).toNat)
          case atStart => exact ⟨0, by omega, rfl, hb⟩
          case round =>
            clear hb hzr
            obtain ⟨j, hj, rfl, hb⟩ := hrel
            have hzr := hb.size
            by_cases hjm : j < m
            · obtain ⟨b, o, b1, o1, d1, ra, rfl, hbl, hbl1, hra, hral, hrac, hcell, hrow⟩ := (hT4.below hb).entry HSQ.out hlt
              obtain ⟨g, p, g1, p1, e1, rb, rfl, hgl, hgl1, hrb, hrbl, hrbc, hcellB, hrowB⟩ := (hS2.below hb).entry HSQ2.out hlt
              rw [conf_row hra] at hrb
              injection hrb with hrb
              subst hrb
              obtain ⟨x, hx⟩ : ∃ x, ra[j]? = some x := ⟨_, List.getElem?_eq_getElem (by omega)⟩
              have r1 : wr.cell? ⟨b, o + k, none⟩ = some (.slice (some ⟨b1, o1, none⟩) m d1) := hcell
              have r2 : wr.cell? ⟨b1, o1 + j, none⟩ = some (.int .i64 x) := hrow j x hx
              have r3 : wr.cell? ⟨g, p + k, none⟩ = some (.slice (some ⟨g1, p1, none⟩) m e1) := hcellB
              have r4 : wr.cell? ⟨g1, p1 + j, none⟩ = some (.bool (decide (0 < x))) := hrowB j _ (by rw [List.getElem?_map, hx]; rfl)
              have q1 : b < wr.heap.size := by omega
              have q2 : b1 < wr.heap.size := by omega
              have q3 : g < wr.heap.size := by omega
              have q4 : g1 < wr.heap.size := by omega
              have j0 : (0 : Int) ≤ (j : Int) := by omega
              have j1 : (j : Int) < (m : Int) := by omega
              have i0 : (0 : Int) ≤ (k : Int) := by omega
              have i1 : (k : Int) < (m : Int) := by omega
              have i2 : decide (m ≤ k) = false := by simp; omega
              have j2 : decide (m ≤ j) = false := by simp; omega
              have hbb := Lib.hid hb
              clear hcell hrow hcellB hrowB hra hral hrbl hx hb hT4 hS2 hT1
              cases hdx : decide (0 < x)
              · rw [hdx] at r4
                go_wp2_with fail
                refine wp_region_plus (by kernel_rfl) (by kernel_rfl) ?_; (repeat (go_big_quiet_step (fail))); refine wpQuiet_nil ?_; intro _ hw'; obtain ⟨⟨osq, dq⟩, hw''⟩ := hw'; subst hw''
                go_wp2_with fail
                go_roundw
                case rel => exact ⟨j + 1, by omega, by go_num, by have hb := hbb.out; (repeat' (first | (with_reducible exact Below.refl _ _) | (with_reducible assumption) | (with_reducible refine Below.alloc ?_ ?_ _) | (with_reducible refine below_plus ?_ ?_ _ _) | (with_reducible refine Below.drew ?_) | (with_reducible refine Below.setCell ?_ ?_ _) | (with_reducible refine below_adv ?_ ?_ _) | go_size | (simp; done) | (simp; omega)))⟩
                case measure => simp [intOf]; omega
              · rw [hdx] at r4
                go_wp2_with fail
                refine wp_region_plus (by kernel_rfl) (by kernel_rfl) ?_; (repeat (go_big_quiet_step (fail))); refine wpQuiet_nil ?_; intro _ hw'; obtain ⟨⟨osq, dq⟩, hw''⟩ := hw'; subst hw''
                go_wp2_with fail
                go_roundw
                case rel => exact ⟨j + 1, by omega, by go_num, by have hb := hbb.out; (repeat' (first | (with_reducible exact Below.refl _ _) | (with_reducible assumption) | (with_reducible refine Below.alloc ?_ ?_ _) | (with_reducible refine below_plus ?_ ?_ _ _) | (with_reducible refine Below.drew ?_) | (with_reducible refine Below.setCell ?_ ?_ _) | (with_reducible refine below_adv ?_ ?_ _) | go_size | (simp; done) | (simp; omega)))⟩
                case measure => simp [intOf]; omega
            · obtain rfl : j = m := by omega
              go_wp2_with fail
              go_roundw
              case rel => exact ⟨k + 1, by omega, by go_num, hb⟩
              case measure => simp [intOf]; omega
        · obtain rfl : k = m := by omega
          go_wp2_with fail
          go_ret
          exact ⟨rfl, hb04.trans (hb.mono (by omega))⟩
end Go.Proofs.Ytlpbmnmhpknppaa
