/- The exact law of ChangeTime, walked. -/
import Derived.Test.YtlpbmnmhpknppaaGi
import Derived.Test.YtlpbmnmhpknppaaCd6
import Derived.Test.YtlpbmnmhpknppaaHii
import Derived.Test.YtlpbmnmhpknppaaFr
set_option linter.unusedVariables false
set_option linter.unusedSimpArgs false
namespace Go.Proofs.Ytlpbmnmhpknppaa
open Go.RowKit

set_option maxHeartbeats 4000000 in
theorem exactChangeTime_walk (A0 : Option Addr) (n0 c0 : Nat) (z0 : List (List Int)) (A1 : Option Addr) (n1 c1 : Nat) (z1 : List Int) (A2 : Option Addr) (n2 c2 : Nat) (z2 : List Int) (w : World) (h0 : Sl2 w w.heap.size ILit A0 n0 c0 z0) (h1 : Sl w w.heap.size ILit A1 n1 c1 z1) (h2 : Sl w w.heap.size ILit A2 n2 c2 z2) :
    Calls Try.prog 7 #[.slice A0 n0 c0, .slice A1 n1 c1, .slice A2 n2 c2] w fun e w' => e = .returned (.bool true) ∧ Below w.heap.size w w' := by
  obtain ⟨k00, k01⟩ := h0.cap
  obtain ⟨k10, k11⟩ := h1.cap
  obtain ⟨k20, k21⟩ := h2.cap
  by_cases hn1 : 1048576 < n1
  · go_enter Try.func7, Try.ntmps7
    go_wp2
    go_ret
    exact ⟨rfl, Below.refl _ _⟩
  by_cases hn2 : 1048576 < n2
  · go_enter Try.func7, Try.ntmps7
    go_wp2
    go_ret
    exact ⟨rfl, Below.refl _ _⟩
  have sz0 := szIntSS_c A0 n0 c0 z0 1048576 w _ h0 (by omega) (by omega)
  have sb0 := szV_bd z0 (left := 1048576) (by omega)
  have sl0 : 0 ≤ szV z0 1048576 → _ := szV_le
  rw [h0.len] at sl0
  obtain ⟨v0, hv0⟩ : ∃ v, szV z0 1048576 = v := ⟨_, rfl⟩
  rw [hv0] at sz0 sb0 sl0
  have SZ0 := Lib.hid sz0
  clear sz0 hv0
  by_cases hq0 : v0 < 0
  · go_enter Try.func7, Try.ntmps7
    go_wp2_with fail
    refine SZ0.out.mono ?_
    rintro e w' ⟨rfl, rfl⟩
    go_wp2_with fail
    go_ret
    exact ⟨rfl, Below.refl _ _⟩
  have st0 := sl0 (by omega)
  clear sl0
  have HL1 := Lib.hid h1.len
  have HL2 := Lib.hid h2.len
  have i1 : ∀ A0 n0 c0 A1 n1 c1 A2 n2 c2 w' B, Sl2 w' B ILit A0 n0 c0 z0 → Sl w' B ILit A1 n1 c1 z1 → Sl w' B ILit A2 n2 c2 z2 → B ≤ w'.heap.size → Calls Try.prog 33 #[.slice A0 n0 c0, .slice A1 n1 c1, .slice A2 n2 c2] w' (fun e w'' => e = .returned (.int .i64 (changeF z0 z1 z2)) ∧ Below w'.heap.size w' w'') := fun A0 n0 c0 A1 n1 c1 A2 n2 c2 w' B h0 h1 h2 hB => changeTime_c A0 n0 c0 z0 A1 n1 c1 z1 A2 n2 c2 z2 w' B h0 h1 h2 hB (by have e1 := h1.len; have e2 := HL1.out; omega) (by have e1 := h2.len; have e2 := HL2.out; omega)
  have s1 : ∀ A0 n0 c0 A1 n1 c1 A2 n2 c2 w' B, Sl2 w' B ILit A0 n0 c0 z0 → Sl w' B ILit A1 n1 c1 z1 → Sl w' B ILit A2 n2 c2 z2 → B ≤ w'.heap.size → Calls Try.prog 31 #[.slice A0 n0 c0, .slice A1 n1 c1, .slice A2 n2 c2] w' (fun e w'' => e = .returned (.int .i64 (changeF z0 z1 z2)) ∧ Below w'.heap.size w' w'') := fun A0 n0 c0 A1 n1 c1 A2 n2 c2 w' B h0 h1 h2 hB => sChangeTime_c A0 n0 c0 z0 A1 n1 c1 z1 A2 n2 c2 z2 w' B h0 h1 h2 hB (by have e1 := h1.len; have e2 := HL1.out; omega) (by have e1 := h2.len; have e2 := HL2.out; omega)
  obtain ⟨R, hR⟩ : ∃ R, (changeF z0 z1 z2) = R := ⟨_, rfl⟩
  rw [hR] at i1 s1
  have I1 := Lib.hid i1
  have S1 := Lib.hid s1
  have T0 := Lib.hid (fun w' (hb : Below w.heap.size w w') => toIntSS_f A0 n0 c0 z0 w' _ (h0.below hb) hb.size (by omega) (by omega))
  have T1 := Lib.hid (fun w' (hb : Below w.heap.size w w') => toIntS_f A1 n1 c1 z1 w' _ (h1.below hb) hb.size (by omega))
  have T2 := Lib.hid (fun w' (hb : Below w.heap.size w w') => toIntS_f A2 n2 c2 z2 w' _ (h2.below hb) hb.size (by omega))
  clear i1 s1 hR h0 h1 h2
  go_enter Try.func7, Try.ntmps7
  go_wp2_with fail
  refine SZ0.out.mono ?_
  rintro e w' ⟨rfl, rfl⟩
  go_wp2_with fail
  refine (T0.out w (Below.refl _ _)).mono ?_
  rintro e w1 ⟨gt01, rfl, t0_1, p1, q1, b1⟩
  have z1 := b1.size
  have c1 : Below w.heap.size w w1 := b1
  clear b1
  go_wp2_with fail
  refine (T1.out w1 c1).mono ?_
  rintro e w2 ⟨gt12, rfl, t1_2, p2, q2, b2⟩
  have z2 := b2.size
  have c2 : Below w.heap.size w w2 := c1.trans (b2.mono (by omega))
  have t0_2 := t0_1.below b2
  clear t0_1
  clear b2 c1
  go_wp2_with fail
  refine (T2.out w2 c2).mono ?_
  rintro e w3 ⟨gt23, rfl, t2_3, p3, q3, b3⟩
  have z3 := b3.size
  have c3 : Below w.heap.size w w3 := c2.trans (b3.mono (by omega))
  have t0_3 := t0_2.below b3
  have t1_3 := t1_2.below b3
  clear t0_2 t1_2
  clear b3 c2
  go_wp2_with fail
  refine (S1.out _ _ _ _ _ _ _ _ _ w3 _ t0_3.sl2 t1_3.sl t2_3.sl (Nat.le_refl _)).mono ?_
  rintro e w4 ⟨rfl, b4⟩
  have z4 := b4.size
  have c4 : Below w.heap.size w w4 := c3.trans (b4.mono (by omega))
  have t0_4 := t0_3.below b4
  have t1_4 := t1_3.below b4
  have t2_4 := t2_3.below b4
  clear t0_3 t1_3 t2_3
  clear b4 c3
  clear t0_4 t1_4 t2_4
  go_wp2_with fail
  refine (T0.out w4 c4).mono ?_
  rintro e w5 ⟨gx05, rfl, x0_5, p5, q5, b5⟩
  have z5 := b5.size
  have c5 : Below w.heap.size w w5 := c4.trans (b5.mono (by omega))
  clear b5 c4
  go_wp2_with fail
  refine (T1.out w5 c5).mono ?_
  rintro e w6 ⟨gx16, rfl, x1_6, p6, q6, b6⟩
  have z6 := b6.size
  have c6 : Below w.heap.size w w6 := c5.trans (b6.mono (by omega))
  have x0_6 := x0_5.below b6
  clear x0_5
  clear b6 c5
  go_wp2_with fail
  refine (T2.out w6 c6).mono ?_
  rintro e w7 ⟨gx27, rfl, x2_7, p7, q7, b7⟩
  have z7 := b7.size
  have c7 : Below w.heap.size w w7 := c6.trans (b7.mono (by omega))
  have x0_7 := x0_6.below b7
  have x1_7 := x1_6.below b7
  clear x0_6 x1_6
  clear b7 c6
  go_wp2_with fail
  refine (I1.out _ _ _ _ _ _ _ _ _ w7 _ x0_7.sl2 x1_7.sl x2_7.sl (Nat.le_refl _)).mono ?_
  rintro e w8 ⟨rfl, b8⟩
  have z8 := b8.size
  have c8 : Below w.heap.size w w8 := c7.trans (b8.mono (by omega))
  have x0_8 := x0_7.below b8
  have x1_8 := x1_7.below b8
  have x2_8 := x2_7.below b8
  clear x0_7 x1_7 x2_7
  clear b8 c7
  go_wp2_with fail
  refine (T0.out w8 c8).mono ?_
  rintro e w9 ⟨gt09, rfl, t0_9, p9, q9, b9⟩
  have z9 := b9.size
  have c9 : Below w.heap.size w w9 := c8.trans (b9.mono (by omega))
  have x0_9 := x0_8.below b9
  have x1_9 := x1_8.below b9
  have x2_9 := x2_8.below b9
  clear x0_8 x1_8 x2_8
  clear b9 c8
  go_wp2_with fail
  refine (eqIntSS_t _ _ _ _ _ _ _ w9 _ _ x0_9.sl2 (Nat.le_refl _) t0_9.sl2 (Nat.le_refl _)).mono ?_
  rintro e w10 ⟨rfl, b10⟩
  have z10 := b10.size
  have c10 : Below w.heap.size w w10 := c9.trans (b10.mono (by omega))
  have x0_10 := x0_9.below b10
  have x1_10 := x1_9.below b10
  have x2_10 := x2_9.below b10
  have t0_10 := t0_9.below b10
  clear x0_9 x1_9 x2_9 t0_9
  clear b10 c9
  clear t0_10
  go_wp2_with fail
  refine (T1.out w10 c10).mono ?_
  rintro e w11 ⟨gt111, rfl, t1_11, p11, q11, b11⟩
  have z11 := b11.size
  have c11 : Below w.heap.size w w11 := c10.trans (b11.mono (by omega))
  have x0_11 := x0_10.below b11
  have x1_11 := x1_10.below b11
  have x2_11 := x2_10.below b11
  clear x0_10 x1_10 x2_10
  clear b11 c10
  go_wp2_with fail
  refine (eqIntS_t _ _ _ _ _ _ _ w11 _ _ x1_11.sl (Nat.le_refl _) t1_11.sl (Nat.le_refl _)).mono ?_
  rintro e w12 ⟨rfl, b12⟩
  have z12 := b12.size
  have c12 : Below w.heap.size w w12 := c11.trans (b12.mono (by omega))
  have x0_12 := x0_11.below b12
  have x1_12 := x1_11.below b12
  have x2_12 := x2_11.below b12
  have t1_12 := t1_11.below b12
  clear x0_11 x1_11 x2_11 t1_11
  clear b12 c11
  clear t1_12
  go_wp2_with fail
  refine (T2.out w12 c12).mono ?_
  rintro e w13 ⟨gt213, rfl, t2_13, p13, q13, b13⟩
  have z13 := b13.size
  have c13 : Below w.heap.size w w13 := c12.trans (b13.mono (by omega))
  have x0_13 := x0_12.below b13
  have x1_13 := x1_12.below b13
  have x2_13 := x2_12.below b13
  clear x0_12 x1_12 x2_12
  clear b13 c12
  go_wp2_with fail
  refine (eqIntS_t _ _ _ _ _ _ _ w13 _ _ x2_13.sl (Nat.le_refl _) t2_13.sl (Nat.le_refl _)).mono ?_
  rintro e w14 ⟨rfl, b14⟩
  have z14 := b14.size
  have c14 : Below w.heap.size w w14 := c13.trans (b14.mono (by omega))
  have x0_14 := x0_13.below b14
  have x1_14 := x1_13.below b14
  have x2_14 := x2_13.below b14
  have t2_14 := t2_13.below b14
  clear x0_13 x1_13 x2_13 t2_13
  clear b14 c13
  clear t2_14
  go_wp2_with fail
  go_ret
  exact ⟨rfl, c14⟩
end Go.Proofs.Ytlpbmnmhpknppaa
