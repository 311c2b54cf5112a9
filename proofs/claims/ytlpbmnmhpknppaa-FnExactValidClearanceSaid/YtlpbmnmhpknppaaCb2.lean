/- The exact law of ValidClearance, walked. -/
import Derived.Test.YtlpbmnmhpknppaaGi
import Derived.Test.YtlpbmnmhpknppaaCb1
import Derived.Test.YtlpbmnmhpknppaaCa2
import Derived.Test.YtlpbmnmhpknppaaHii
set_option linter.unusedVariables false
set_option linter.unusedSimpArgs false
namespace Go.Proofs.Ytlpbmnmhpknppaa
open Go.RowKit

set_option maxHeartbeats 4000000 in
theorem exactValidClearance_walk (A0 : Option Addr) (n0 c0 : Nat) (z0 : List (List Int)) (w : World) (h0 : Sl2 w w.heap.size ILit A0 n0 c0 z0) :
    Calls Try.prog 3 #[.slice A0 n0 c0] w fun e w' => e = .returned (.bool true) ∧ Below w.heap.size w w' := by
  obtain ⟨k00, k01⟩ := h0.cap
  have sz0 := szIntSS_c A0 n0 c0 z0 1048576 w _ h0 (by omega) (by omega)
  have sb0 := szV_bd z0 (left := 1048576) (by omega)
  have sl0 : 0 ≤ szV z0 1048576 → _ := szV_le
  rw [h0.len] at sl0
  obtain ⟨v0, hv0⟩ : ∃ v, szV z0 1048576 = v := ⟨_, rfl⟩
  rw [hv0] at sz0 sb0 sl0
  have SZ0 := Lib.hid sz0
  clear sz0 hv0
  by_cases hq0 : v0 < 0
  · go_enter Try.func3, Try.ntmps3
    go_wp2_with fail
    refine SZ0.out.mono ?_
    rintro e w' ⟨rfl, rfl⟩
    go_wp2_with fail
    go_ret
    exact ⟨rfl, Below.refl _ _⟩
  have st0 := sl0 (by omega)
  clear sl0
  have i1 : ∀ A0 n0 c0 w' B, Sl2 w' B ILit A0 n0 c0 z0 → B ≤ w'.heap.size → Calls Try.prog 19 #[.slice A0 n0 c0] w' (fun e w'' => e = .returned (.bool (cOk z0)) ∧ Below w'.heap.size w' w'') := fun A0 n0 c0 w' B h0 hB => validClearance_c A0 n0 c0 z0 w' B h0 hB
  have s1 : ∀ A0 n0 c0 w' B, Sl2 w' B ILit A0 n0 c0 z0 → B ≤ w'.heap.size → Calls Try.prog 17 #[.slice A0 n0 c0] w' (fun e w'' => e = .returned (.bool (cOk z0)) ∧ Below w'.heap.size w' w'') := fun A0 n0 c0 w' B h0 hB => sValidClearance1_c A0 n0 c0 z0 w' B h0 hB
  obtain ⟨R, hR⟩ : ∃ R, (cOk z0) = R := ⟨_, rfl⟩
  rw [hR] at i1 s1
  have I1 := Lib.hid i1
  have S1 := Lib.hid s1
  have T0 := Lib.hid (fun w' (hb : Below w.heap.size w w') => toIntSS_f A0 n0 c0 z0 w' _ (h0.below hb) hb.size (by omega) (by omega))
  clear i1 s1 hR h0
  go_enter Try.func3, Try.ntmps3
  go_wp2_with fail
  refine SZ0.out.mono ?_
  rintro e w' ⟨rfl, rfl⟩
  go_wp2_with fail
  refine (T0.out w (Below.refl _ _)).mono ?_
  rintro e w1 ⟨gt01, rfl, t0_1, p1, q1, b1⟩
  have z1 := b1.size
  have c1 : Below w.heap.size w w1 := b1
  clear b1
  go_wp2_with fail
  refine (S1.out _ _ _ w1 _ t0_1.sl2 (Nat.le_refl _)).mono ?_
  rintro e w2 ⟨rfl, b2⟩
  have z2 := b2.size
  have c2 : Below w.heap.size w w2 := c1.trans (b2.mono (by omega))
  have t0_2 := t0_1.below b2
  clear t0_1
  clear b2 c1
  clear t0_2
  go_wp2_with fail
  refine (T0.out w2 c2).mono ?_
  rintro e w3 ⟨gx03, rfl, x0_3, p3, q3, b3⟩
  have z3 := b3.size
  have c3 : Below w.heap.size w w3 := c2.trans (b3.mono (by omega))
  clear b3 c2
  go_wp2_with fail
  refine (I1.out _ _ _ w3 _ x0_3.sl2 (Nat.le_refl _)).mono ?_
  rintro e w4 ⟨rfl, b4⟩
  have z4 := b4.size
  have c4 : Below w.heap.size w w4 := c3.trans (b4.mono (by omega))
  have x0_4 := x0_3.below b4
  clear x0_3
  clear b4 c3
  go_wp2_with fail
  refine (T0.out w4 c4).mono ?_
  rintro e w5 ⟨gt05, rfl, t0_5, p5, q5, b5⟩
  have z5 := b5.size
  have c5 : Below w.heap.size w w5 := c4.trans (b5.mono (by omega))
  have x0_5 := x0_4.below b5
  clear x0_4
  clear b5 c4
  go_wp2_with fail
  refine (eqIntSS_t _ _ _ _ _ _ _ w5 _ _ x0_5.sl2 (Nat.le_refl _) t0_5.sl2 (Nat.le_refl _)).mono ?_
  rintro e w6 ⟨rfl, b6⟩
  have z6 := b6.size
  have c6 : Below w.heap.size w w6 := c5.trans (b6.mono (by omega))
  have x0_6 := x0_5.below b6
  have t0_6 := t0_5.below b6
  clear x0_5 t0_5
  clear b6 c5
  clear t0_6
  go_wp2_with fail
  go_ret
  exact ⟨rfl, c6⟩
end Go.Proofs.Ytlpbmnmhpknppaa
