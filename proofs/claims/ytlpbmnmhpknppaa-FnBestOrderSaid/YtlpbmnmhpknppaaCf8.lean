/- The law BestOrder. -/
import Derived.Test.YtlpbmnmhpknppaaCf3
import Derived.Test.YtlpbmnmhpknppaaCf6
import Derived.Test.YtlpbmnmhpknppaaCg6
import Derived.Test.YtlpbmnmhpknppaaBb
import Derived.Test.YtlpbmnmhpknppaaBc
set_option linter.unusedVariables false
set_option linter.unusedSimpArgs false
namespace Go.Proofs.Ytlpbmnmhpknppaa
open Go.RowKit

theorem ring_arr {t list : List (List Int)} (h : ringB t list = true) {o : List Int} (ho : isOrd list.length o) (hl : o.length = list.length) : ringB t (arrL list o) = true := by
  obtain ⟨⟨h1, h5⟩, hp⟩ := ringB_iff.1 h
  exact ringB_iff.2 ⟨by rw [arrL_len]; omega, fun p hm => hp p (arrL_mem ho.2 p hm)⟩
theorem lostF_arr {t list : List (List Int)} (h : ringB t list = true) {o : List Int} (ho : isOrd list.length o) (hl : o.length = list.length) : lostF t (arrL list o) = lostN t (arrL list o) := by rw [lostF, if_pos (ring_arr h ho hl)]
theorem head_zero {o : List Int} (h : o.take 1 = [0]) : o[0]? = some 0 := by
  cases o with
  | nil => simp at h
  | cons x r => simp at h; simp [h]

set_option maxHeartbeats 8000000 in
set_option maxRecDepth 100000 in
theorem bestOrderLaw_walk (A : Option Addr) (n c : Nat) (bs : List Int) (w : World) (hS : Sl w w.heap.size BLit A n c bs) (hbs : ∀ x ∈ bs, 0 ≤ x ∧ x ≤ 255) :
    Calls Try.prog 15 #[.slice A n c] w fun e w' => e = .returned (.bool true) ∧ Below w.heap.size w w' := by
  obtain ⟨hc0, hc1⟩ := hS.cap
  by_cases hn : 1048576 < n
  · go_enter Try.func15, Try.ntmps15
    go_wp2
    go_ret
    exact ⟨rfl, by (repeat' (first | (with_reducible exact Below.refl _ _) | (with_reducible assumption) | (with_reducible refine Below.alloc ?_ ?_ _) | (with_reducible refine below_plus ?_ ?_ _ _) | (with_reducible refine Below.drew ?_) | (with_reducible refine Below.setCell ?_ ?_ _) | (with_reducible refine below_adv ?_ ?_ _) | go_size | (simp; done) | (simp; omega)))⟩
  · go_enter Try.func15, Try.ntmps15
    go_wp2_with fail
    refine (drawBestOrder_c A n c bs w _ hS (Nat.le_refl _) hbs).mono ?_
    rintro e w1 ⟨A1, m, c1, t, A2, n2, c2, list, rfl, hT1, hL1, hm8, hn2, hpl, hb1⟩
    have hz1 := hb1.size
    obtain ⟨hm0, hm1⟩ := hT1.cap
    obtain ⟨hf0, hf1⟩ := hL1.cap
    clear hS hbs
    have hpl6 : ∀ p ∈ list, p.length ≤ 1048576 := fun p hp => by have := hpl p hp; omega
    have c1' := fun w' (hw : Below w1.heap.size w1 w') => bestOrder_c A1 m c1 t A2 n2 c2 list w' _ (hT1.below hw) (hL1.below hw) hw.size hpl6
    have c2' := fun w' (hw : Below w1.heap.size w1 w') => sBestOrder_c A1 m c1 t A2 n2 c2 list w' _ (hT1.below hw) (hL1.below hw) hw.size hpl6
    cases hr : ringB t list
    · have hE : bestOrdF t list = [] := by simp [bestOrdF, hr]
      rw [hE] at c1' c2'
      have C1 := Lib.hid c1'
      have C2 := Lib.hid c2'
      clear c1' c2' hr hE hT1 hL1 hpl hpl6
      go_wp2_with fail
      refine (C1.out w1 (Below.refl _ _)).mono ?_
      rintro e w2 ⟨A4, n4, c4, rfl, hO2, hb2⟩
      have hz2 := hb2.size
      have hn4 : n4 = 0 := by rw [← hO2.len]; rfl
      subst hn4
      go_wp2_with fail
      refine (C2.out w2 hb2).mono ?_
      rintro e w3 ⟨A5, n5, c5, rfl, hS3, hb3⟩
      have hb13 := hb2.trans (hb3.mono hz2)
      have hz3 := hb13.size
      have hO23 := hO2.below hb3
      have E1 := Lib.hid (equalInts_t A4 0 c4 [] A5 n5 c5 w3 _ _ hO23.sl (Nat.le_refl _) hS3 (Nat.le_refl _))
      clear hb2 hb3 hO2 hS3
      go_wp2_with fail
      refine E1.out.mono ?_
      rintro e w4 ⟨rfl, hb4⟩
      have hb14 := hb13.trans (hb4.mono hz3)
      have hO24 := hO23.below hb4
      clear E1 hO23 hb13 hb4
      go_wp2_with fail
      refine (C2.out w4 hb14).mono ?_
      rintro e w5 ⟨A6, n6, c6, rfl, hS5, hb5⟩
      have hb15 := hb14.trans (hb5.mono hb14.size)
      have E2 := Lib.hid (equalInts_t A4 0 c4 [] A6 n6 c6 w5 _ _ (hO24.below hb5).sl (Nat.le_refl _) hS5 (Nat.le_refl _))
      clear hO24 hS5 hb14 hb5
      go_wp2_with fail
      refine E2.out.mono ?_
      rintro e w6 ⟨rfl, hb6⟩
      go_wp2_with fail
      go_ret
      exact ⟨rfl, hb1.trans ((hb15.trans (hb6.mono hb15.size)).mono hz1)⟩
    · obtain ⟨i1, hj, hj0, hj1, hj2⟩ := info_parts info_rowI
      have hE : bestOrdF t list = bestOrd t list := by simp [bestOrdF, hr]
      obtain ⟨⟨hl1, hl5⟩, -⟩ := ringB_iff.1 hr
      obtain ⟨b1, b2, b3, b4⟩ := bestOrd_all (t := t) hl1
      have hb4' := lostF_arr hr b1 b2
      have hlf : lostF t list = lostN t list := by rw [lostF, if_pos hr]
      rw [hE] at c1' c2'
      obtain ⟨R, hR⟩ : ∃ R, bestOrd t list = R := ⟨_, rfl⟩
      rw [hR] at c1' c2' b1 b2 b3 b4 hb4'
      have hlen := hL1.len
      rw [hlen] at b1 b2 hl1 hl5
      have h0 := head_zero b3
      have hall := (ord_le n2 R b1).2 b2
      obtain ⟨X, hX⟩ : ∃ X, lostN t (arrL list R) = X := ⟨_, rfl⟩
      obtain ⟨Y, hY⟩ : ∃ Y, lostN t list = Y := ⟨_, rfl⟩
      rw [hX] at hb4' b4
      rw [hY] at hlf b4
      have CL := Lib.hid (fun w' (hw : Below w1.heap.size w1 w') (hT : Sl2 w' w1.heap.size ILit A1 m c1 t) (hL : Sl2 w' w1.heap.size ILit A2 n2 c2 list) => lostTime_c A1 m c1 t A2 n2 c2 list w' _ hT hL hw.size hpl6)
      rw [hlf] at CL
      have CB := Lib.hid (fun (Ax : Option Addr) (cx : Nat) w' (hT : Sl2 w' w'.heap.size ILit A1 m c1 t) (hx : Sl2 w' w'.heap.size ILit Ax n2 cx (arrL list R)) => lostTime_c A1 m c1 t Ax n2 cx (arrL list R) w' _ hT hx (Nat.le_refl _) (fun p hp => hpl6 p (arrL_mem (by rw [hlen]; exact b1.2) p hp)))
      rw [hb4'] at CB
      have HALL := Lib.hid hall
      have HB1 := Lib.hid b1
      have HH0 := Lib.hid h0
      have HRL := Lib.hid b2
      have HT := Lib.hid hT1
      have HL := Lib.hid hL1
      have C1 := Lib.hid c1'
      have C2 := Lib.hid c2'
      clear c1' c2' hr hE hT1 hL1 hpl hpl6 b1 b2 b3 hb4' hlf hR hlen h0 hall hX hY
      go_wp2_with fail
      refine (C1.out w1 (Below.refl _ _)).mono ?_
      rintro e w2 ⟨A4, n4, c4, rfl, hO2, hb2⟩
      have hz2 := hb2.size
      have hn4 : n4 = n2 := by rw [← hO2.len]; exact HRL.out
      subst hn4
      obtain ⟨g, hA4⟩ : ∃ g, A4 = some ⟨g, 0, none⟩ := by
        obtain ⟨g, cs, hA, -⟩ := hO2.2.2.2 (by omega)
        exact ⟨g, hA⟩
      subst hA4
      go_wp2_with fail
      refine (C2.out w2 hb2).mono ?_
      rintro e w3 ⟨A5, n5, c5, rfl, hS3, hb3⟩
      have hb13 := hb2.trans (hb3.mono hz2)
      have hz3 := hb13.size
      have hO23 := hO2.below hb3
      have E1 := Lib.hid (equalInts_t _ n4 c4 R A5 n5 c5 w3 _ _ hO23.sl (Nat.le_refl _) hS3 (Nat.le_refl _))
      have hn40 : ((n4 : Int) == 0) = false := by simp; omega
      have hn41 : (n4 == 0) = false := by simp; omega
      clear hb2 hb3 hO2 hS3
      go_wp2_with fail
      refine E1.out.mono ?_
      rintro e w4 ⟨rfl, hb4⟩
      have hb14 := hb13.trans (hb4.mono hz3)
      have hz4 := hb14.size
      have hO4 := (hO23.below hb4).sl
      obtain ⟨hk0, hk1⟩ := hO4.cap
      have HT4 := Lib.hid ((HT.out.below hb14).more (B' := w4.heap.size) hz4)
      have HL4 := Lib.hid ((HL.out.below hb14).more (B' := w4.heap.size) hz4)
      clear E1 hO23 hb13 hb4
      go_wp2_with fail
      go_loopw [6, 7] (fun v i wr => ∃ (k : Nat), k ≤ n4 ∧ i = .int .i64 k ∧ Shr wr w4.heap.size w4.heap.size 35 ILit v k (arrL list (R.take k)) ∧ Below w4.heap.size w4 wr) (fun _ i _ => n4 - (intOf i).toNat)
      case atStart => exact ⟨0, by omega, rfl, Shr.nil (World.ownsRow_made _ #[] 0 (Nat.le_refl _) (by decide) rfl), by (repeat' (first | (with_reducible exact Below.refl _ _) | (with_reducible assumption) | (with_reducible refine Below.alloc ?_ ?_ _) | (with_reducible refine below_plus ?_ ?_ _ _) | (with_reducible refine Below.drew ?_) | (with_reducible refine Below.setCell ?_ ?_ _) | (with_reducible refine below_adv ?_ ?_ _) | go_size | (simp; done) | (simp; omega)))⟩
      case round =>
        obtain ⟨k, hk, rfl, hSh, hb⟩ := hrel
        have hzr := hb.size
        by_cases hlt : k < n4
        · obtain ⟨b, o, x, hbo, hbl, hx, hcell⟩ := (hO4.below hb).at_ hlt
          injection hbo with hbo
          injection hbo with hbo1 hbo2
          subst hbo1 hbo2
          rw [Nat.zero_add] at hcell
          obtain ⟨hx0, hx1⟩ := HB1.out.2 x (List.mem_of_getElem? hx)
          obtain ⟨x, rfl⟩ := Int.eq_ofNat_of_zero_le hx0
          have hxn : x < n4 := by omega
          obtain ⟨b2, p2, xs, A3, n3, c3, rfl, hbl2, hxs, hcell2, hrow⟩ := (HL4.out.below hb).at_ hxn
          have r1 : wr.cell? ⟨g, k, none⟩ = some (.int .i64 (x : Int)) := hcell
          have r2 : wr.cell? ⟨b2, p2 + x, none⟩ = some (.slice A3 n3 c3) := hcell2
          have HE := Lib.hid (arr_take list hx (by simpa using hxs))
          have CI := Lib.hid (lIsIn_c _ n4 c4 R (k : Int) wr _ (hO4.below hb) hzr (by omega))
          rw [decide_eq_true (HALL.out k hlt)] at CI
          have HR := Lib.hid hrow
          have q1 : g < wr.heap.size := by omega
          have q2 : b2 < wr.heap.size := by omega
          have hx0' : ¬ (x : Int) < 0 := by omega
          have hx1' : ¬ (n4 : Int) ≤ (x : Int) := by omega
          have hx2' : ¬ n4 ≤ x := by omega
          clear hcell hcell2 hx hxs hrow
          go_wp2_with fail
          refine CI.out.mono ?_
          rintro e w5 ⟨rfl, hb5⟩
          have hb45 := hb.trans (hb5.mono hzr)
          have hz5 := hb45.size
          have r15 := (hb5.cell (p := ⟨g, k, none⟩) q1).trans r1
          have r25 := (hb5.cell (p := ⟨b2, p2 + x, none⟩) q2).trans r2
          have hSh5 := hSh.below hb5 hzr
          obtain ⟨vs, hv1, hv2⟩ := hSh5
          have HR5 := Lib.hid (HR.out.below (hb5.mono hzr))
          clear CI hSh r1 r2 HR hb5
          go_wp2_with (at_builtin; refine wpList_app1 w4 w5 rfl _ _ 22 rfl 35 i1 (.slice none 0 0) 24 Try.underlying22 hj hj0 hj1 hj2 rfl (by decide) w4.heap.size _ k _ (by rfl) hv1 _ rfl _ (by rfl) rfl (by omega) hb45 hz5 ?_; intro v8 w8 hO8 hb8 hg8)
          have hN := Shr.app hv1 hv2 (Nat.le_refl _) hz5 (Rsl.one HR5.out) hO8 hg8
          rw [← HE.out] at hN
          clear hv1 hv2 hO8 hg8
          go_roundw
          case rel => exact ⟨k + 1, by omega, by go_num, hN, hb8⟩
          case measure => simp [intOf]; omega
        · obtain rfl : k = n4 := by omega
          rw [List.take_of_length_le (by rw [HRL.out]; exact Nat.le_refl _)] at hSh
          obtain ⟨A6, c6, rfl, hS6⟩ := hSh.sl2 hzr
          have C8 := Lib.hid (CB.out A6 c6 wr ((HT4.out.below hb).more hzr) hS6)
          obtain ⟨b, o, x, hbo, hbl, hx, hcell⟩ := (hO4.below hb).at_ (k := 0) (by omega)
          injection hbo with hbo
          injection hbo with hbo1 hbo2
          subst hbo1 hbo2
          rw [HH0.out] at hx
          injection hx with hx
          subst hx
          have r1 : wr.cell? ⟨g, 0, none⟩ = some (.int .i64 0) := hcell
          have q1 : g < wr.heap.size := by omega
          have hk00 : 0 < k := by omega
          have hk01 : (0 : Int) < (k : Int) := by omega
          clear hSh hS6 hcell
          go_wp2_with fail
          refine C8.out.mono ?_
          rintro e w5 ⟨rfl, hb5⟩
          have hb15 := (hb14.trans (hb.mono hz4)).trans (hb5.mono (by omega))
          have r15 := (hb5.cell (p := ⟨g, 0, none⟩) q1).trans r1
          have hz5 := hb5.size
          have C9 := Lib.hid (CL.out w5 hb15 (HT.out.below hb15) (HL.out.below hb15))
          clear C8 r1
          go_wp2_with fail
          refine C9.out.mono ?_
          rintro e w6 ⟨rfl, hb6⟩
          have r16 := (hb6.cell (p := ⟨g, 0, none⟩) (show g < w5.heap.size by omega)).trans r15
          clear C9 r15
          go_wp2_with fail
          go_ret
          exact ⟨rfl, hb1.trans ((hb15.trans (hb6.mono hb15.size)).mono hz1)⟩
end Go.Proofs.Ytlpbmnmhpknppaa
