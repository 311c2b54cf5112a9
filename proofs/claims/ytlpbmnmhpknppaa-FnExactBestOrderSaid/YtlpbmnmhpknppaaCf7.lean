/- The exact law of BestOrder, walked. -/
import Derived.Test.YtlpbmnmhpknppaaGi
import Derived.Test.YtlpbmnmhpknppaaCf3
import Derived.Test.YtlpbmnmhpknppaaCf6
import Derived.Test.YtlpbmnmhpknppaaHii
import Derived.Test.YtlpbmnmhpknppaaFr
set_option linter.unusedVariables false
set_option linter.unusedSimpArgs false
namespace Go.Proofs.Ytlpbmnmhpknppaa
open Go.RowKit

theorem bestOrdF_small (t list : List (List Int)) : (bestOrdF t list).length ≤ 1048576 := by
  unfold bestOrdF
  split
  · rename_i h
    obtain ⟨⟨h1, h5⟩, -⟩ := ringB_iff.1 h
    have := (bestOrd_all (t := t) h1).2.1
    omega
  · simp

set_option maxHeartbeats 4000000 in
theorem exactBestOrder_walk (A0 : Option Addr) (n0 c0 : Nat) (z0 : List (List Int)) (A1 : Option Addr) (n1 c1 : Nat) (z1 : List (List Int)) (w : World) (h0 : Sl2 w w.heap.size ILit A0 n0 c0 z0) (h1 : Sl2 w w.heap.size ILit A1 n1 c1 z1) :
    Calls Try.prog 13 #[.slice A0 n0 c0, .slice A1 n1 c1] w fun e w' => e = .returned (.bool true) ∧ Below w.heap.size w w' := by
  obtain ⟨k00, k01⟩ := h0.cap
  obtain ⟨k10, k11⟩ := h1.cap
  have sz0 := szIntSS_c A0 n0 c0 z0 1048576 w _ h0 (by omega) (by omega)
  have sb0 := szV_bd z0 (left := 1048576) (by omega)
  have sl0 : 0 ≤ szV z0 1048576 → _ := szV_le
  rw [h0.len] at sl0
  obtain ⟨v0, hv0⟩ : ∃ v, szV z0 1048576 = v := ⟨_, rfl⟩
  rw [hv0] at sz0 sb0 sl0
  have SZ0 := Lib.hid sz0
  clear sz0 hv0
  by_cases hq0 : v0 < 0
  · go_enter Try.func13, Try.ntmps13
    go_wp2_with fail
    refine SZ0.out.mono ?_
    rintro e w' ⟨rfl, rfl⟩
    go_wp2_with fail
    go_ret
    exact ⟨rfl, Below.refl _ _⟩
  have st0 := sl0 (by omega)
  clear sl0
  have sz1 := szIntSS_c A1 n1 c1 z1 v0 w _ h1 (by omega) (by omega)
  have sb1 := szV_bd z1 (left := v0) (by omega)
  have sl1 : 0 ≤ szV z1 v0 → _ := szV_le
  rw [h1.len] at sl1
  obtain ⟨v1, hv1⟩ : ∃ v, szV z1 v0 = v := ⟨_, rfl⟩
  rw [hv1] at sz1 sb1 sl1
  have SZ1 := Lib.hid sz1
  clear sz1 hv1
  by_cases hq1 : v1 < 0
  · go_enter Try.func13, Try.ntmps13
    go_wp2_with fail
    refine SZ0.out.mono ?_
    rintro e w' ⟨rfl, rfl⟩
    go_wp2_with fail
    refine SZ1.out.mono ?_
    rintro e w' ⟨rfl, rfl⟩
    go_wp2_with fail
    go_ret
    exact ⟨rfl, Below.refl _ _⟩
  have st1 := sl1 (by omega)
  clear sl1
  have i1 : ∀ A0 n0 c0 A1 n1 c1 w' B, Sl2 w' B ILit A0 n0 c0 z0 → Sl2 w' B ILit A1 n1 c1 z1 → B ≤ w'.heap.size → Calls Try.prog 41 #[.slice A0 n0 c0, .slice A1 n1 c1] w' ((OwInts2 w' (bestOrdF z0 z1))) := fun A0 n0 c0 A1 n1 c1 w' B h0 h1 hB => bestOrder_c A0 n0 c0 z0 A1 n1 c1 z1 w' B h0 h1 hB (fun p hp => by obtain ⟨j, hj⟩ := List.getElem?_of_mem hp; have := tot_at hj; omega)
  have s1 : ∀ A0 n0 c0 A1 n1 c1 w' B, Sl2 w' B ILit A0 n0 c0 z0 → Sl2 w' B ILit A1 n1 c1 z1 → B ≤ w'.heap.size → Calls Try.prog 40 #[.slice A0 n0 c0, .slice A1 n1 c1] w' ((SlInts w' (bestOrdF z0 z1))) := fun A0 n0 c0 A1 n1 c1 w' B h0 h1 hB => sBestOrder_c A0 n0 c0 z0 A1 n1 c1 z1 w' B h0 h1 hB (fun p hp => by obtain ⟨j, hj⟩ := List.getElem?_of_mem hp; have := tot_at hj; omega)
  have hRb := bestOrdF_small z0 z1
  obtain ⟨R, hR⟩ : ∃ R, (bestOrdF z0 z1) = R := ⟨_, rfl⟩
  rw [hR] at i1 s1 hRb
  have I1 := Lib.hid i1
  have S1 := Lib.hid s1
  have HRB := Lib.hid hRb
  have T0 := Lib.hid (fun w' (hb : Below w.heap.size w w') => toIntSS_f A0 n0 c0 z0 w' _ (h0.below hb) hb.size (by omega) (by omega))
  have T1 := Lib.hid (fun w' (hb : Below w.heap.size w w') => toIntSS_f A1 n1 c1 z1 w' _ (h1.below hb) hb.size (by omega) (by omega))
  clear i1 s1 hR hRb h0 h1
  go_enter Try.func13, Try.ntmps13
  go_wp2_with fail
  refine SZ0.out.mono ?_
  rintro e w' ⟨rfl, rfl⟩
  go_wp2_with fail
  refine SZ1.out.mono ?_
  rintro e w' ⟨rfl, rfl⟩
  go_wp2_with fail
  refine (T0.out w (Below.refl _ _)).mono ?_
  rintro e w1 ⟨gt01, rfl, t0_1, p1, q1, b1⟩
  have z1 := b1.size
  have c1 : Below w.heap.size w w1 := b1
  clear b1
  go_wp2_with fail
  refine (T1.out w1 c1).mono ?_
  rintro e w2 ⟨gt12, rfl, t1_2, p2, q2, b2⟩
  have z2 := b2.size
  have c2 : Below w.heap.size w w2 := c1.trans (b2.mono (by omega))
  have t0_2 := t0_1.below b2
  clear t0_1
  clear b2 c1
  go_wp2_with fail
  refine (S1.out _ _ _ _ _ _ w2 _ t0_2.sl2 t1_2.sl2 (Nat.le_refl _)).mono ?_
  rintro e w3 ⟨Ar3, nr3, dr3, rfl, res_3, b3⟩
  have z3 := b3.size
  have c3 : Below w.heap.size w w3 := c2.trans (b3.mono (by omega))
  have t0_3 := t0_2.below b3
  have t1_3 := t1_2.below b3
  clear t0_2 t1_2
  clear b3 c2
  clear t0_3 t1_3
  go_wp2_with fail
  refine (T0.out w3 c3).mono ?_
  rintro e w4 ⟨gx04, rfl, x0_4, p4, q4, b4⟩
  have z4 := b4.size
  have c4 : Below w.heap.size w w4 := c3.trans (b4.mono (by omega))
  have res_4 := res_3.below (b4.mono (by omega))
  clear res_3
  clear b4 c3
  go_wp2_with fail
  refine (T1.out w4 c4).mono ?_
  rintro e w5 ⟨gx15, rfl, x1_5, p5, q5, b5⟩
  have z5 := b5.size
  have c5 : Below w.heap.size w w5 := c4.trans (b5.mono (by omega))
  have res_5 := res_4.below (b5.mono (by omega))
  have x0_5 := x0_4.below b5
  clear res_4 x0_4
  clear b5 c4
  go_wp2_with fail
  refine (I1.out _ _ _ _ _ _ w5 _ x0_5.sl2 x1_5.sl2 (Nat.le_refl _)).mono ?_
  rintro e w6 ⟨Ag6, ng6, dg6, rfl, g_6, b6⟩
  have z6 := b6.size
  have c6 : Below w.heap.size w w6 := c5.trans (b6.mono (by omega))
  have res_6 := res_5.below (b6.mono (by omega))
  have x0_6 := x0_5.below b6
  have x1_6 := x1_5.below b6
  clear res_5 x0_5 x1_5
  clear b6 c5
  have hng6 : ng6 ≤ 1048576 := by have := g_6.len; have := HRB.out; omega
  go_wp2_with fail
  refine (eqIntS_t _ _ _ _ _ _ _ w6 _ _ g_6.sl (Nat.le_refl _) res_6 (by omega)).mono ?_
  rintro e w7 ⟨rfl, b7⟩
  have z7 := b7.size
  have c7 : Below w.heap.size w w7 := c6.trans (b7.mono (by omega))
  have res_7 := res_6.below (b7.mono (by omega))
  have x0_7 := x0_6.below b7
  have x1_7 := x1_6.below b7
  have g_7 := g_6.below b7
  clear res_6 x0_6 x1_6 g_6
  clear b7 c6
  go_wp2_with fail
  refine (T0.out w7 c7).mono ?_
  rintro e w8 ⟨gt08, rfl, t0_8, p8, q8, b8⟩
  have z8 := b8.size
  have c8 : Below w.heap.size w w8 := c7.trans (b8.mono (by omega))
  have res_8 := res_7.below (b8.mono (by omega))
  have x0_8 := x0_7.below b8
  have x1_8 := x1_7.below b8
  have g_8 := g_7.below b8
  clear res_7 x0_7 x1_7 g_7
  clear b8 c7
  go_wp2_with fail
  refine (eqIntSS_t _ _ _ _ _ _ _ w8 _ _ x0_8.sl2 (Nat.le_refl _) t0_8.sl2 (Nat.le_refl _)).mono ?_
  rintro e w9 ⟨rfl, b9⟩
  have z9 := b9.size
  have c9 : Below w.heap.size w w9 := c8.trans (b9.mono (by omega))
  have res_9 := res_8.below (b9.mono (by omega))
  have x0_9 := x0_8.below b9
  have x1_9 := x1_8.below b9
  have g_9 := g_8.below b9
  have t0_9 := t0_8.below b9
  clear res_8 x0_8 x1_8 g_8 t0_8
  clear b9 c8
  clear t0_9
  go_wp2_with fail
  refine (T1.out w9 c9).mono ?_
  rintro e w10 ⟨gt110, rfl, t1_10, p10, q10, b10⟩
  have z10 := b10.size
  have c10 : Below w.heap.size w w10 := c9.trans (b10.mono (by omega))
  have res_10 := res_9.below (b10.mono (by omega))
  have x0_10 := x0_9.below b10
  have x1_10 := x1_9.below b10
  have g_10 := g_9.below b10
  clear res_9 x0_9 x1_9 g_9
  clear b10 c9
  go_wp2_with fail
  refine (eqIntSS_t _ _ _ _ _ _ _ w10 _ _ x1_10.sl2 (Nat.le_refl _) t1_10.sl2 (Nat.le_refl _)).mono ?_
  rintro e w11 ⟨rfl, b11⟩
  have z11 := b11.size
  have c11 : Below w.heap.size w w11 := c10.trans (b11.mono (by omega))
  have res_11 := res_10.below (b11.mono (by omega))
  have x0_11 := x0_10.below b11
  have x1_11 := x1_10.below b11
  have g_11 := g_10.below b11
  have t1_11 := t1_10.below b11
  clear res_10 x0_10 x1_10 g_10 t1_10
  clear b11 c10
  clear t1_11
  go_wp2_with fail
  refine (markIntSS_f _ _ _ _ _ w11 gx04 w4.heap.size x0_11 (by omega) (by omega) (by omega) (by omega) (by omega) (by omega)).mono ?_
  rintro e w12 ⟨rfl, x0_12, b12, s12, h12⟩
  clear x0_11
  have c12 : Below w.heap.size w w12 := c11.trans (b12.mono (by omega))
  have res_12 := res_11.below (b12.mono (by omega))
  have x1_12 := x1_11.past h12 (by omega)
  have g_12 := g_11.past h12 (by omega)
  clear res_11 x1_11 g_11
  clear b12 h12 c11
  clear x0_12
  go_wp2_with fail
  refine (markIntSS_f _ _ _ _ _ w12 gx15 w5.heap.size x1_12 (by omega) (by omega) (by omega) (by omega) (by omega) (by omega)).mono ?_
  rintro e w13 ⟨rfl, x1_13, b13, s13, h13⟩
  clear x1_12
  have c13 : Below w.heap.size w w13 := c12.trans (b13.mono (by omega))
  have res_13 := res_12.below (b13.mono (by omega))
  have g_13 := g_12.past h13 (by omega)
  clear res_12 g_12
  clear b13 h13 c12
  clear x1_13
  go_wp2_with fail
  refine (eqIntS_t _ _ _ _ _ _ _ w13 _ _ g_13.sl (Nat.le_refl _) res_13 (by omega)).mono ?_
  rintro e w14 ⟨rfl, b14⟩
  have z14 := b14.size
  have c14 : Below w.heap.size w w14 := c13.trans (b14.mono (by omega))
  have res_14 := res_13.below (b14.mono (by omega))
  have g_14 := g_13.below b14
  clear res_13 g_13
  clear b14 c13
  go_wp2_with fail
  refine (markIntS_f _ _ _ _ 1 w14 w5.heap.size w14.heap.size g_14 (by omega) (fun g hg => .inr (Nat.le_refl _)) (by omega) (by omega) (by omega)).mono ?_
  rintro e w15 ⟨rfl, g_15, b15, s15, h15⟩
  clear g_14
  have c15 : Below w.heap.size w w15 := c14.trans (b15.mono (by omega))
  have res_15 := res_14.below (b15.mono (by omega))
  clear res_14
  clear b15 h15 c14
  go_wp2_with fail
  refine (heldIntS_c _ _ _ 1 w15 _ g_15.sl (Nat.le_refl _) (by omega) (by omega) (by omega)).mono ?_
  rintro e w16 ⟨rfl, b16⟩
  have z16 := b16.size
  have c16 : Below w.heap.size w w16 := c15.trans (b16.mono (by omega))
  have res_16 := res_15.below (b16.mono (by omega))
  have g_16 := g_15.below b16
  clear res_15 g_15
  clear b16 c15
  go_wp2_with fail
  refine (T0.out w16 c16).mono ?_
  rintro e w17 ⟨gt017, rfl, t0_17, p17, q17, b17⟩
  have z17 := b17.size
  have c17 : Below w.heap.size w w17 := c16.trans (b17.mono (by omega))
  have res_17 := res_16.below (b17.mono (by omega))
  have g_17 := g_16.below b17
  clear res_16 g_16
  clear b17 c16
  go_wp2_with fail
  refine (T1.out w17 c17).mono ?_
  rintro e w18 ⟨gt118, rfl, t1_18, p18, q18, b18⟩
  have z18 := b18.size
  have c18 : Below w.heap.size w w18 := c17.trans (b18.mono (by omega))
  have res_18 := res_17.below (b18.mono (by omega))
  have g_18 := g_17.below b18
  have t0_18 := t0_17.below b18
  clear res_17 g_17 t0_17
  clear b18 c17
  go_wp2_with fail
  refine (I1.out _ _ _ _ _ _ w18 _ t0_18.sl2 t1_18.sl2 (Nat.le_refl _)).mono ?_
  rintro e w19 ⟨Ah19, nh19, dh19, rfl, h_19, b19⟩
  have z19 := b19.size
  have c19 : Below w.heap.size w w19 := c18.trans (b19.mono (by omega))
  have res_19 := res_18.below (b19.mono (by omega))
  have g_19 := g_18.below b19
  have t0_19 := t0_18.below b19
  have t1_19 := t1_18.below b19
  clear res_18 g_18 t0_18 t1_18
  clear b19 c18
  clear t0_19 t1_19
  go_wp2_with fail
  refine (eqIntS_t _ _ _ _ _ _ _ w19 _ _ h_19.sl (Nat.le_refl _) res_19 (by omega)).mono ?_
  rintro e w20 ⟨rfl, b20⟩
  have z20 := b20.size
  have c20 : Below w.heap.size w w20 := c19.trans (b20.mono (by omega))
  have res_20 := res_19.below (b20.mono (by omega))
  have g_20 := g_19.below b20
  have h_20 := h_19.below b20
  clear res_19 g_19 h_19
  clear b20 c19
  clear h_20
  go_wp2_with fail
  refine (heldIntS_c _ _ _ 1 w20 _ g_20.sl (Nat.le_refl _) (by omega) (by omega) (by omega)).mono ?_
  rintro e w21 ⟨rfl, b21⟩
  have z21 := b21.size
  have c21 : Below w.heap.size w w21 := c20.trans (b21.mono (by omega))
  have res_21 := res_20.below (b21.mono (by omega))
  have g_21 := g_20.below b21
  clear res_20 g_20
  clear b21 c20
  go_wp2_with fail
  go_ret
  exact ⟨rfl, c21⟩
end Go.Proofs.Ytlpbmnmhpknppaa
