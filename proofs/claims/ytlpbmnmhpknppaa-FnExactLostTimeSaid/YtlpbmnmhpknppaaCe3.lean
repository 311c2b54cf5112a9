/- The exact law of LostTime, walked. -/
import Derived.Test.YtlpbmnmhpknppaaGi
import Derived.Test.YtlpbmnmhpknppaaCe2
import Derived.Test.YtlpbmnmhpknppaaHii
set_option linter.unusedVariables false
set_option linter.unusedSimpArgs false
namespace Go.Proofs.Ytlpbmnmhpknppaa
open Go.RowKit

set_option maxHeartbeats 4000000 in
theorem exactLostTime_walk (A0 : Option Addr) (n0 c0 : Nat) (z0 : List (List Int)) (A1 : Option Addr) (n1 c1 : Nat) (z1 : List (List Int)) (w : World) (h0 : Sl2 w w.heap.size ILit A0 n0 c0 z0) (h1 : Sl2 w w.heap.size ILit A1 n1 c1 z1) :
    Calls Try.prog 10 #[.slice A0 n0 c0, .slice A1 n1 c1] w fun e w' => e = .returned (.bool true) ∧ Below w.heap.size w w' := by
  obtain ⟨k00, k01⟩ := h0.cap
  obtain ⟨k10, k11⟩ := h1.cap
  have sz0 := szIntSS_c A0 n0 c0 z0 1048576 w _ h0 (by omega) (by omega)
  have sb0 := szV_bd z0 (left := 1048576) (by omega)
  have sl0 : 0 ≤ szV z0 1048576 → _ := szV_le
  rw [h0.len] at sl0
  obtain ⟨v0, hv0⟩ : ∃ v, szV z0 1048576 = v := ⟨_, rfl⟩
  rw [hv0] at sz0 sb0 sl0
  have SZ0 := Lib.hid sz0
  clear sz0 hv0
  by_cases hq0 : v0 < 0
  · go_enter Try.func10, Try.ntmps10
    go_wp2_with fail
    refine SZ0.out.mono ?_
    rintro e w' ⟨rfl, rfl⟩
    go_wp2_with fail
    go_ret
    exact ⟨rfl, Below.refl _ _⟩
  have st0 := sl0 (by omega)
  clear sl0
  have sz1 := szIntSS_c A1 n1 c1 z1 v0 w _ h1 (by omega) (by omega)
  have sb1 := szV_bd z1 (left := v0) (by omega)
  have sl1 : 0 ≤ szV z1 v0 → _ := szV_le
  rw [h1.len] at sl1
  obtain ⟨v1, hv1⟩ : ∃ v, szV z1 v0 = v := ⟨_, rfl⟩
  rw [hv1] at sz1 sb1 sl1
  have SZ1 := Lib.hid sz1
  clear sz1 hv1
  by_cases hq1 : v1 < 0
  · go_enter Try.func10, Try.ntmps10
    go_wp2_with fail
    refine SZ0.out.mono ?_
    rintro e w' ⟨rfl, rfl⟩
    go_wp2_with fail
    refine SZ1.out.mono ?_
    rintro e w' ⟨rfl, rfl⟩
    go_wp2_with fail
    go_ret
    exact ⟨rfl, Below.refl _ _⟩
  have st1 := sl1 (by omega)
  clear sl1
  have i1 : ∀ A0 n0 c0 A1 n1 c1 w' B, Sl2 w' B ILit A0 n0 c0 z0 → Sl2 w' B ILit A1 n1 c1 z1 → B ≤ w'.heap.size → Calls Try.prog 38 #[.slice A0 n0 c0, .slice A1 n1 c1] w' (fun e w'' => e = .returned (.int .i64 (lostF z0 z1)) ∧ Below w'.heap.size w' w'') := fun A0 n0 c0 A1 n1 c1 w' B h0 h1 hB => lostTime_c A0 n0 c0 z0 A1 n1 c1 z1 w' B h0 h1 hB (fun p hp => by obtain ⟨j, hj⟩ := List.getElem?_of_mem hp; have := tot_at hj; omega)
  have s1 : ∀ A0 n0 c0 A1 n1 c1 w' B, Sl2 w' B ILit A0 n0 c0 z0 → Sl2 w' B ILit A1 n1 c1 z1 → B ≤ w'.heap.size → Calls Try.prog 37 #[.slice A0 n0 c0, .slice A1 n1 c1] w' (fun e w'' => e = .returned (.int .i64 (lostF z0 z1)) ∧ Below w'.heap.size w' w'') := fun A0 n0 c0 A1 n1 c1 w' B h0 h1 hB => sLostTime_c A0 n0 c0 z0 A1 n1 c1 z1 w' B h0 h1 hB (fun p hp => by obtain ⟨j, hj⟩ := List.getElem?_of_mem hp; have := tot_at hj; omega)
  obtain ⟨R, hR⟩ : ∃ R, (lostF z0 z1) = R := ⟨_, rfl⟩
  rw [hR] at i1 s1
  have I1 := Lib.hid i1
  have S1 := Lib.hid s1
  have T0 := Lib.hid (fun w' (hb : Below w.heap.size w w') => toIntSS_f A0 n0 c0 z0 w' _ (h0.below hb) hb.size (by omega) (by omega))
  have T1 := Lib.hid (fun w' (hb : Below w.heap.size w w') => toIntSS_f A1 n1 c1 z1 w' _ (h1.below hb) hb.size (by omega) (by omega))
  clear i1 s1 hR h0 h1
  go_enter Try.func10, Try.ntmps10
  go_wp2_with fail
  refine SZ0.out.mono ?_
  rintro e w' ⟨rfl, rfl⟩
  go_wp2_with fail
  refine SZ1.out.mono ?_
  rintro e w' ⟨rfl, rfl⟩
  go_wp2_with fail
  refine (T0.out w (Below.refl _ _)).mono ?_
  rintro e w1 ⟨gt01, rfl, t0_1, p1, q1, b1⟩
  have z1 := b1.size
  have c1 : Below w.heap.size w w1 := b1
  clear b1
  go_wp2_with fail
  refine (T1.out w1 c1).mono ?_
  rintro e w2 ⟨gt12, rfl, t1_2, p2, q2, b2⟩
  have z2 := b2.size
  have c2 : Below w.heap.size w w2 := c1.trans (b2.mono (by omega))
  have t0_2 := t0_1.below b2
  clear t0_1
  clear b2 c1
  go_wp2_with fail
  refine (S1.out _ _ _ _ _ _ w2 _ t0_2.sl2 t1_2.sl2 (Nat.le_refl _)).mono ?_
  rintro e w3 ⟨rfl, b3⟩
  have z3 := b3.size
  have c3 : Below w.heap.size w w3 := c2.trans (b3.mono (by omega))
  have t0_3 := t0_2.below b3
  have t1_3 := t1_2.below b3
  clear t0_2 t1_2
  clear b3 c2
  clear t0_3 t1_3
  go_wp2_with fail
  refine (T0.out w3 c3).mono ?_
  rintro e w4 ⟨gx04, rfl, x0_4, p4, q4, b4⟩
  have z4 := b4.size
  have c4 : Below w.heap.size w w4 := c3.trans (b4.mono (by omega))
  clear b4 c3
  go_wp2_with fail
  refine (T1.out w4 c4).mono ?_
  rintro e w5 ⟨gx15, rfl, x1_5, p5, q5, b5⟩
  have z5 := b5.size
  have c5 : Below w.heap.size w w5 := c4.trans (b5.mono (by omega))
  have x0_5 := x0_4.below b5
  clear x0_4
  clear b5 c4
  go_wp2_with fail
  refine (I1.out _ _ _ _ _ _ w5 _ x0_5.sl2 x1_5.sl2 (Nat.le_refl _)).mono ?_
  rintro e w6 ⟨rfl, b6⟩
  have z6 := b6.size
  have c6 : Below w.heap.size w w6 := c5.trans (b6.mono (by omega))
  have x0_6 := x0_5.below b6
  have x1_6 := x1_5.below b6
  clear x0_5 x1_5
  clear b6 c5
  go_wp2_with fail
  refine (T0.out w6 c6).mono ?_
  rintro e w7 ⟨gt07, rfl, t0_7, p7, q7, b7⟩
  have z7 := b7.size
  have c7 : Below w.heap.size w w7 := c6.trans (b7.mono (by omega))
  have x0_7 := x0_6.below b7
  have x1_7 := x1_6.below b7
  clear x0_6 x1_6
  clear b7 c6
  go_wp2_with fail
  refine (eqIntSS_t _ _ _ _ _ _ _ w7 _ _ x0_7.sl2 (Nat.le_refl _) t0_7.sl2 (Nat.le_refl _)).mono ?_
  rintro e w8 ⟨rfl, b8⟩
  have z8 := b8.size
  have c8 : Below w.heap.size w w8 := c7.trans (b8.mono (by omega))
  have x0_8 := x0_7.below b8
  have x1_8 := x1_7.below b8
  have t0_8 := t0_7.below b8
  clear x0_7 x1_7 t0_7
  clear b8 c7
  clear t0_8
  go_wp2_with fail
  refine (T1.out w8 c8).mono ?_
  rintro e w9 ⟨gt19, rfl, t1_9, p9, q9, b9⟩
  have z9 := b9.size
  have c9 : Below w.heap.size w w9 := c8.trans (b9.mono (by omega))
  have x0_9 := x0_8.below b9
  have x1_9 := x1_8.below b9
  clear x0_8 x1_8
  clear b9 c8
  go_wp2_with fail
  refine (eqIntSS_t _ _ _ _ _ _ _ w9 _ _ x1_9.sl2 (Nat.le_refl _) t1_9.sl2 (Nat.le_refl _)).mono ?_
  rintro e w10 ⟨rfl, b10⟩
  have z10 := b10.size
  have c10 : Below w.heap.size w w10 := c9.trans (b10.mono (by omega))
  have x0_10 := x0_9.below b10
  have x1_10 := x1_9.below b10
  have t1_10 := t1_9.below b10
  clear x0_9 x1_9 t1_9
  clear b10 c9
  clear t1_10
  go_wp2_with fail
  go_ret
  exact ⟨rfl, c10⟩
end Go.Proofs.Ytlpbmnmhpknppaa
