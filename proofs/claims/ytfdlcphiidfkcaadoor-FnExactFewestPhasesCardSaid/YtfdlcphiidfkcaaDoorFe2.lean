/- The exact law of FewestPhases, walked. -/
import Derived.Test.YtfdlcphiidfkcaaDoorFe1
import Derived.Test.YtfdlcphiidfkcaaDoorFg4
import Derived.Test.YtfdlcphiidfkcaaDoorFg6
import Derived.Test.YtfdlcphiidfkcaaDoorFg7
import Derived.Test.YtfdlcphiidfkcaaDoorBd
import Derived.Test.YtfdlcphiidfkcaaDoorBb
set_option linter.unusedVariables false
set_option linter.unusedSimpArgs false
namespace Go.Proofs.YtfdlcphiidfkcaaDoor
open Go.RowKit

theorem fewL_small (t : List (List Bool)) : (fewL t).length ≤ 1048576 ∧ tot (fewL t) ≤ 1048576 := by
  have hs := few_sub t
  have hl := hs.length_le
  cases ht : tOk t
  · have h0 : (fullL t).length = 0 := by simp [fullL, ht]
    have : fewL t = [] := List.eq_nil_of_length_eq_zero (by omega)
    simp [this, tot]
  · have h1 := fullL_len t ht
    have h2 := tot_le_mul (xss := fewL t) (m := 8) fun x hx => Nat.le_trans (full_len ht (hs.subset hx)) (tOk_iff.1 ht).2.1
    omega

set_option maxHeartbeats 4000000 in
theorem exactFewestPhases_walk (A0 : Option Addr) (n0 c0 : Nat) (z0 : List (List Bool)) (w : World) (h0 : Sl2 w w.heap.size OLit A0 n0 c0 z0) (hTab : TabB w) :
    Calls Tryd.prog 5 #[.slice A0 n0 c0] w fun e w' => e = .returned (.bool true) ∧ Below w.heap.size w w' := by
  obtain ⟨k00, k01⟩ := h0.cap
  have sz0 := szBoolSS_c A0 n0 c0 z0 1048576 w _ h0 (by omega) (by omega)
  have sb0 := szV_bd z0 (left := 1048576) (by omega)
  have sl0 : 0 ≤ szV z0 1048576 → _ := szV_le
  rw [h0.len] at sl0
  obtain ⟨v0, hv0⟩ : ∃ v, szV z0 1048576 = v := ⟨_, rfl⟩
  rw [hv0] at sz0 sb0 sl0
  have SZ0 := Lib.hid sz0
  clear sz0 hv0
  by_cases hq0 : v0 < 0
  · go_enter Tryd.func5, Tryd.ntmps5
    go_wp2_with fail
    refine SZ0.out.mono ?_
    rintro e w' ⟨rfl, rfl⟩
    go_wp2_with fail
    go_ret
    exact ⟨rfl, Below.refl _ _⟩
  have st0 := sl0 (by omega)
  clear sl0
  have i1 : ∀ A0 n0 c0 w' B, Sl2 w' B OLit A0 n0 c0 z0 → B ≤ w'.heap.size → TabB w' → Calls Tryd.prog 12 #[.slice A0 n0 c0] w' ((OwIntSS w' (fewL z0))) := fun A0 n0 c0 w' B h0 hB ht => fewestPhases_c A0 n0 c0 z0 w' B h0 hB ht
  have s1 : ∀ A0 n0 c0 w' B, Sl2 w' B OLit A0 n0 c0 z0 → B ≤ w'.heap.size → Calls Tryd.prog 14 #[.slice A0 n0 c0] w' ((RdRows w' (fewL z0))) := fun A0 n0 c0 w' B h0 hB => sFewestPhases_c A0 n0 c0 z0 w' B h0 hB
  have hRb := fewL_small z0
  obtain ⟨R, hR⟩ : ∃ R, (fewL z0) = R := ⟨_, rfl⟩
  rw [hR] at i1 s1 hRb
  have HTAB := Lib.hid hTab
  have I1 := Lib.hid i1
  have S1 := Lib.hid s1
  have HRB := Lib.hid hRb
  have T0 := Lib.hid (fun w' (hb : Below w.heap.size w w') => toBoolSS_f A0 n0 c0 z0 w' _ (h0.below hb) hb.size (by omega) (by omega))
  clear hTab i1 s1 hR hRb h0
  go_enter Tryd.func5, Tryd.ntmps5
  go_wp2_with fail
  refine SZ0.out.mono ?_
  rintro e w' ⟨rfl, rfl⟩
  go_wp2_with fail
  refine (T0.out w (Below.refl _ _)).mono ?_
  rintro e w1 ⟨gt01, rfl, t0_1, p1, q1, b1⟩
  have z1 := b1.size
  have c1 : Below w.heap.size w w1 := b1
  clear b1
  go_wp2_with fail
  refine (S1.out _ _ _ w1 _ t0_1.sl2 (Nat.le_refl _)).mono ?_
  rintro e w2 ⟨Ar2, nr2, dr2, rfl, res_2, b2⟩
  have z2 := b2.size
  have c2 : Below w.heap.size w w2 := c1.trans (b2.mono (by omega))
  have t0_2 := t0_1.below b2
  clear t0_1
  clear b2 c1
  clear t0_2
  go_wp2_with fail
  refine (T0.out w2 c2).mono ?_
  rintro e w3 ⟨gx03, rfl, x0_3, p3, q3, b3⟩
  have z3 := b3.size
  have c3 : Below w.heap.size w w3 := c2.trans (b3.mono (by omega))
  have res_3 := res_2.below (b3.mono (by omega))
  clear res_2
  clear b3 c2
  go_wp2_with fail
  refine (I1.out _ _ _ w3 _ x0_3.sl2 (Nat.le_refl _) (HTAB.out.below c3)).mono ?_
  rintro e w4 ⟨Ag4, ng4, dg4, rfl, g_4, b4⟩
  have z4 := b4.size
  have c4 : Below w.heap.size w w4 := c3.trans (b4.mono (by omega))
  have res_4 := res_3.below (b4.mono (by omega))
  have x0_4 := x0_3.below b4
  clear res_3 x0_3
  clear b4 c3
  have hng4 : ng4 ≤ 1048576 := by have := g_4.len; have := HRB.out.1; omega
  have htg4 := HRB.out.2
  go_wp2_with fail
  refine (eqIntSS_t _ _ _ _ _ _ _ w4 _ _ g_4.sl2 (Nat.le_refl _) res_4 (by omega)).mono ?_
  rintro e w5 ⟨rfl, b5⟩
  have z5 := b5.size
  have c5 : Below w.heap.size w w5 := c4.trans (b5.mono (by omega))
  have res_5 := res_4.below (b5.mono (by omega))
  have x0_5 := x0_4.below b5
  have g_5 := g_4.below b5
  clear res_4 x0_4 g_4
  clear b5 c4
  go_wp2_with fail
  refine (T0.out w5 c5).mono ?_
  rintro e w6 ⟨gt06, rfl, t0_6, p6, q6, b6⟩
  have z6 := b6.size
  have c6 : Below w.heap.size w w6 := c5.trans (b6.mono (by omega))
  have res_6 := res_5.below (b6.mono (by omega))
  have x0_6 := x0_5.below b6
  have g_6 := g_5.below b6
  clear res_5 x0_5 g_5
  clear b6 c5
  go_wp2_with fail
  refine (eqBoolSS_t _ _ _ _ _ _ _ w6 _ _ x0_6.sl2 (Nat.le_refl _) t0_6.sl2 (Nat.le_refl _)).mono ?_
  rintro e w7 ⟨rfl, b7⟩
  have z7 := b7.size
  have c7 : Below w.heap.size w w7 := c6.trans (b7.mono (by omega))
  have res_7 := res_6.below (b7.mono (by omega))
  have x0_7 := x0_6.below b7
  have g_7 := g_6.below b7
  have t0_7 := t0_6.below b7
  clear res_6 x0_6 g_6 t0_6
  clear b7 c6
  clear t0_7
  go_wp2_with fail
  refine (markBoolSS_f _ _ _ _ _ w7 gx03 w3.heap.size x0_7 (by omega) (by omega) (by omega) (by omega) (by omega) (by omega)).mono ?_
  rintro e w8 ⟨rfl, x0_8, b8, s8, h8⟩
  clear x0_7
  have c8 : Below w.heap.size w w8 := c7.trans (b8.mono (by omega))
  have res_8 := res_7.below (b8.mono (by omega))
  have g_8 := g_7.past h8 (by omega)
  clear res_7 g_7
  clear b8 h8 c7
  clear x0_8
  go_wp2_with fail
  refine (eqIntSS_t _ _ _ _ _ _ _ w8 _ _ g_8.sl2 (Nat.le_refl _) res_8 (by omega)).mono ?_
  rintro e w9 ⟨rfl, b9⟩
  have z9 := b9.size
  have c9 : Below w.heap.size w w9 := c8.trans (b9.mono (by omega))
  have res_9 := res_8.below (b9.mono (by omega))
  have g_9 := g_8.below b9
  clear res_8 g_8
  clear b9 c8
  go_wp2_with fail
  refine (markIntSS_f _ _ _ _ 1 w9 w3.heap.size w4.heap.size g_9 (by omega) (by omega) (by omega) (by omega) (by omega) (by omega)).mono ?_
  rintro e w10 ⟨rfl, g_10, b10, s10, h10⟩
  clear g_9
  have c10 : Below w.heap.size w w10 := c9.trans (b10.mono (by omega))
  have res_10 := res_9.below (b10.mono (by omega))
  clear res_9
  clear b10 h10 c9
  go_wp2_with fail
  refine (heldIntSS_c _ _ _ 1 _ w10 _ g_10.sl2 (Nat.le_refl _) (by omega) (by omega) (by omega)).mono ?_
  rintro e w11 ⟨rfl, b11⟩
  have z11 := b11.size
  have c11 : Below w.heap.size w w11 := c10.trans (b11.mono (by omega))
  have res_11 := res_10.below (b11.mono (by omega))
  have g_11 := g_10.below b11
  clear res_10 g_10
  clear b11 c10
  go_wp2_with fail
  refine (T0.out w11 c11).mono ?_
  rintro e w12 ⟨gt012, rfl, t0_12, p12, q12, b12⟩
  have z12 := b12.size
  have c12 : Below w.heap.size w w12 := c11.trans (b12.mono (by omega))
  have res_12 := res_11.below (b12.mono (by omega))
  have g_12 := g_11.below b12
  clear res_11 g_11
  clear b12 c11
  go_wp2_with fail
  refine (I1.out _ _ _ w12 _ t0_12.sl2 (Nat.le_refl _) (HTAB.out.below c12)).mono ?_
  rintro e w13 ⟨Ah13, nh13, dh13, rfl, h_13, b13⟩
  have z13 := b13.size
  have c13 : Below w.heap.size w w13 := c12.trans (b13.mono (by omega))
  have res_13 := res_12.below (b13.mono (by omega))
  have g_13 := g_12.below b13
  have t0_13 := t0_12.below b13
  clear res_12 g_12 t0_12
  clear b13 c12
  clear t0_13
  go_wp2_with fail
  refine (eqIntSS_t _ _ _ _ _ _ _ w13 _ _ h_13.sl2 (Nat.le_refl _) res_13 (by omega)).mono ?_
  rintro e w14 ⟨rfl, b14⟩
  have z14 := b14.size
  have c14 : Below w.heap.size w w14 := c13.trans (b14.mono (by omega))
  have res_14 := res_13.below (b14.mono (by omega))
  have g_14 := g_13.below b14
  have h_14 := h_13.below b14
  clear res_13 g_13 h_13
  clear b14 c13
  clear h_14
  go_wp2_with fail
  refine (heldIntSS_c _ _ _ 1 _ w14 _ g_14.sl2 (Nat.le_refl _) (by omega) (by omega) (by omega)).mono ?_
  rintro e w15 ⟨rfl, b15⟩
  have z15 := b15.size
  have c15 : Below w.heap.size w w15 := c14.trans (b15.mono (by omega))
  have res_15 := res_14.below (b15.mono (by omega))
  have g_15 := g_14.below b15
  clear res_14 g_14
  clear b15 c14
  go_wp2_with fail
  go_ret
  exact ⟨rfl, c15⟩
end Go.Proofs.YtfdlcphiidfkcaaDoor
