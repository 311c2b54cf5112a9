/- The law FullPhasesApart. -/
import Derived.Test.YtfdlcphiidfkcaaDoorFd1
import Derived.Test.YtfdlcphiidfkcaaDoorFd2
import Derived.Test.YtfdlcphiidfkcaaDoorFc3
import Derived.Test.YtfdlcphiidfkcaaDoorPg
import Derived.Test.YtfdlcphiidfkcaaDoorBb
set_option linter.unusedVariables false
set_option linter.unusedSimpArgs false
namespace Go.Proofs.YtfdlcphiidfkcaaDoor
open Go.RowKit

set_option maxRecDepth 4000 in
set_option maxHeartbeats 8000000 in
theorem fullPhasesApartLaw_walk (A : Option Addr) (n c : Nat) (bs : List Int) (w : World) (hS : Sl w w.heap.size BLit A n c bs) (hbs : ∀ x ∈ bs, 0 ≤ x ∧ x ≤ 255) (hTab : TabB w) :
    Calls Tryd.prog 9 #[.slice A n c] w fun e w' => e = .returned (.bool true) ∧ Below w.heap.size w w' := by
  obtain ⟨hc0, hc1⟩ := hS.cap
  by_cases hn : 1048576 < n
  · go_enter Tryd.func9, Tryd.ntmps9
    go_wp2
    go_ret
    exact ⟨rfl, by (repeat' (first | (with_reducible exact Below.refl _ _) | (with_reducible assumption) | (with_reducible refine Below.alloc ?_ ?_ _) | (with_reducible refine below_plus ?_ ?_ _ _) | (with_reducible refine Below.drew ?_) | (with_reducible refine Below.setCell ?_ ?_ _) | (with_reducible refine below_adv ?_ ?_ _) | go_size | (simp; done) | (simp; omega)))⟩
  · go_enter Tryd.func9, Tryd.ntmps9
    go_wp2_with fail
    refine (drawFullPhases_c A n c bs w _ hS (Nat.le_refl _) hbs).mono ?_
    rintro e w1 ⟨At, m, ct, t, rfl, hT1, hm8, hb1⟩
    have hz1 := hb1.size
    have htl := hT1.len
    obtain ⟨hct0, hct1⟩ := hT1.cap
    have HT := Lib.hid hT1
    have HTB := Lib.hid (hTab.below hb1)
    have CI := Lib.hid (fun w' (hw : Below w1.heap.size w1 w') => fullPhases_c At m ct t w' _ (HT.out.below hw) hw.size (HTB.out.below hw))
    have CS := Lib.hid (fun w' (hw : Below w1.heap.size w1 w') => sFullPhases_c At m ct t w' _ (HT.out.below hw) hw.size)
    have HB1 := Lib.hid hb1
    obtain ⟨L, hL⟩ : ∃ L, fullL t = L := ⟨_, rfl⟩
    rw [hL] at CI CS
    clear hS hbs hT1 hb1 hTab
    go_wp2_with fail
    refine (CI.out w1 (Below.refl _ _)).mono ?_
    rintro e w2 ⟨A4, n4, c4, rfl, hO4, hb2⟩
    have hz2 := hb2.size
    have hl4 := hO4.len
    obtain ⟨hk0, hk1⟩ := hO4.cap
    have HL := Lib.hid hO4.sl2
    have HB2 := Lib.hid hb2
    have EQ := Lib.hid (fun w' (hb : Below w2.heap.size w2 w') A3 n3 c3 (h3 : Sl2 w' w'.heap.size ILit A3 n3 c3 L) => by
      have := equalLists_c A4 n4 c4 L A3 n3 c3 L w' _ _ (HL.out.below hb) hb.size h3 (Nat.le_refl _)
      rwa [eqL_true rfl] at this)
    have CS2 := Lib.hid (fun w' (hb : Below w2.heap.size w2 w') => CS.out w' (hb2.trans (hb.mono hz2)))
    clear hO4 hb2
    go_wp2_with fail
    refine (CS2.out w2 (Below.refl _ _)).mono ?_
    rintro e w3 ⟨A3, n3, c3, rfl, hO3, hb3⟩
    have hz3 := hb3.size
    have E3 := Lib.hid (EQ.out w3 hb3 A3 n3 c3 hO3.sl2)
    clear hO3
    go_wp2_with fail
    refine E3.out.mono ?_
    rintro e w4 ⟨rfl, hb4⟩
    have hb24 := hb3.trans (hb4.mono hz3)
    have hz24 := hb24.size
    clear hb3 hb4 E3
    go_wp2_with fail
    go_loopw [5] (fun i wr => ∃ (k : Nat), k ≤ n4 ∧ i = .int .i64 k ∧ Below w2.heap.size w2 wr) (fun i _ => n4 - (intOf i).toNat)
    case atStart => exact ⟨0, by omega, rfl, hb24⟩
    case round =>
      clear hb24 hz24
      obtain ⟨k, hk, rfl, hb⟩ := hrel
      by_cases hlt : k < n4
      · go_wp2_with fail
        go_loopw [6] (fun i wr => ∃ (j : Nat), j ≤ n4 ∧ i = .int .i64 j ∧ Below w2.heap.size w2 wr) (fun i _ => n4 - (intOf i).toNat)
        case atStart => exact ⟨0, by omega, rfl, hb⟩
        case round =>
          clear hb
          obtain ⟨j, hj, rfl, hb⟩ := hrel
          have hzr := hb.size
          by_cases hjn : j < n4
          · obtain ⟨b, o, p, A5, n5, c5, rfl, hbl, hp, hcp, hrp⟩ := (HL.out.below hb).at_ hlt
            obtain ⟨b', o', q, A6, n6, c6, hA', hbl', hq, hcq, hrq⟩ := (HL.out.below hb).at_ hjn
            injection hA' with hA'
            injection hA' with hA1 hA2
            subst hA1 hA2
            have r1 : wr.cell? ⟨b, o + k, none⟩ = some (.slice A5 n5 c5) := hcp
            have r2 : wr.cell? ⟨b, o + j, none⟩ = some (.slice A6 n6 c6) := hcq
            have i0 : (0 : Int) ≤ (k : Int) := by omega
            have i1 : (k : Int) < (n4 : Int) := by omega
            have i2 : (0 : Int) ≤ (j : Int) := by omega
            have i3 : (j : Int) < (n4 : Int) := by omega
            have u1 : b < wr.heap.size := by omega
            have HBR := Lib.hid hb
            by_cases hkj : k = j
            · subst hkj
              clear hcp hcq hrp hrq hp hq hb
              go_wp2_with fail
              refine wp_region_plus (by kernel_rfl) (by kernel_rfl) ?_; (repeat (go_big_quiet_step (fail))); refine wpQuiet_nil ?_; intro _ hw'; obtain ⟨⟨osq, dq⟩, hw''⟩ := hw'; subst hw''
              clear r1 r2
              go_wp2_with fail
              go_roundw
              case rel => exact ⟨k + 1, by omega, by go_num, by have hb := HBR.out; (repeat' (first | (with_reducible exact Below.refl _ _) | (with_reducible assumption) | (with_reducible refine Below.alloc ?_ ?_ _) | (with_reducible refine below_plus ?_ ?_ _ _) | (with_reducible refine Below.drew ?_) | (with_reducible refine Below.setCell ?_ ?_ _) | (with_reducible refine below_adv ?_ ?_ _) | go_size | (simp; done) | (simp; omega)))⟩
              case measure => simp [intOf]; omega
            · have hne : ((k : Int) != (j : Int)) = true := by simpa [bne] using fun h : (k : Int) = (j : Int) => hkj (by omega)
              have hne2 : ¬ (k : Int) = (j : Int) := by omega
              have hpq : (p.all fun x => decide (x ∈ q)) = false := by
                cases hc : p.all fun x => decide (x ∈ q)
                · rfl
                · have ht : tOk t = true := fullL_ok (by rw [hL, hl4]; omega)
                  have hpL := List.mem_of_getElem? hp
                  have hqL := List.mem_of_getElem? hq
                  rw [← hL] at hpL hqL
                  have he := full_apart ht hpL hqL (fun x hx => by simpa using List.all_eq_true.1 hc x hx)
                  subst he
                  have hnd := fullL_nodup (t := t)
                  rw [hL] at hnd
                  obtain ⟨l1, e1⟩ := List.getElem?_eq_some_iff.1 hp
                  obtain ⟨l2, e2⟩ := List.getElem?_eq_some_iff.1 hq
                  rw [List.Nodup, List.pairwise_iff_getElem] at hnd
                  rcases Nat.lt_trichotomy k j with h | h | h
                  · exact absurd (e1.trans e2.symm) (hnd k j l1 l2 h)
                  · exact absurd h hkj
                  · exact absurd (e2.trans e1.symm) (hnd j k l2 l1 h)
              have ht : tOk t = true := fullL_ok (by rw [hL, hl4]; omega)
              have hpl := full_len ht (ph := p) (by rw [hL]; exact List.mem_of_getElem? hp)
              have hql := full_len ht (ph := q) (by rw [hL]; exact List.mem_of_getElem? hq)
              rw [hrp.len] at hpl
              rw [hrq.len] at hql
              have CP := Lib.hid (fun (os : Array Obj) (d : Nat) => by
                have := isPart_c A5 n5 c5 p A6 n6 c6 q (plus wr os d) _ ((hrp.more (B' := wr.heap.size) hzr).plus (Nat.le_refl _) os d) ((hrq.more (B' := wr.heap.size) hzr).plus (Nat.le_refl _) os d) (by simp) (by omega) (by omega)
                rwa [hpq] at this)
              clear hcp hcq hrp hrq hp hq hb hpq ht hpl hql
              go_wp2_with fail
              refine wp_region_plus (by kernel_rfl) (by kernel_rfl) ?_; (repeat (go_big_quiet_step ((go_at_call 30; exact quiet_plus (CP.out _ _))))); refine wpQuiet_nil ?_; intro _ hw'; obtain ⟨⟨osq, dq⟩, hw''⟩ := hw'; subst hw''
              clear r1 r2 hne hne2
              go_wp2_with fail
              go_roundw
              case rel => exact ⟨j + 1, by omega, by go_num, by have hb := HBR.out; (repeat' (first | (with_reducible exact Below.refl _ _) | (with_reducible assumption) | (with_reducible refine Below.alloc ?_ ?_ _) | (with_reducible refine below_plus ?_ ?_ _ _) | (with_reducible refine Below.drew ?_) | (with_reducible refine Below.setCell ?_ ?_ _) | (with_reducible refine below_adv ?_ ?_ _) | go_size | (simp; done) | (simp; omega)))⟩
              case measure => simp [intOf]; omega
          · obtain rfl : j = n4 := by omega
            go_wp2_with fail
            go_roundw
            case rel => exact ⟨k + 1, by omega, by go_num, hb⟩
            case measure => simp [intOf]; omega
      · go_wp2_with fail
        go_ret
        exact ⟨rfl, HB1.out.trans ((HB2.out.trans (hb.mono hz2)).mono HB1.out.size)⟩
end Go.Proofs.YtfdlcphiidfkcaaDoor
