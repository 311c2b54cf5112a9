/- The exact law of BestTrips, walked. -/
import Derived.Test.YtdggdibfgenadaaBt5
import Derived.Test.YtdggdibfgenadaaFr
set_option linter.unusedVariables false
set_option linter.unusedSimpArgs false
namespace Go.Proofs.Ytdggdibfgenadaa
open Go.RowKit

set_option maxHeartbeats 4000000 in
theorem exactBestTrips_walk (A : Option Addr) (n c : Nat) (xs : List Int) (room : Int) (w : World) (hS : Sl w w.heap.size ILit A n c xs) :
    Calls Try.prog 8 #[.slice A n c, .int .i64 room] w fun e w' => e = .returned (.bool true) ∧ Below w.heap.size w w' := by
  obtain ⟨hc0, hc1⟩ := hS.cap
  by_cases hn : 1048576 < n
  · go_enter Try.func8, Try.ntmps8
    go_wp2
    go_ret
    exact ⟨rfl, by (repeat' (first | (with_reducible exact Below.refl _ _) | (with_reducible assumption) | (with_reducible refine Below.alloc ?_ ?_ _) | (with_reducible refine below_plus ?_ ?_ _ _) | (with_reducible refine Below.drew ?_) | (with_reducible refine Below.setCell ?_ ?_ _) | (with_reducible refine below_adv ?_ ?_ _) | go_size | (simp; done) | (simp; omega)))⟩
  have hl : (bestL xs room).length ≤ 12 := by
    unfold bestL
    split
    · rename_i h
      obtain ⟨h1, h2, h3⟩ := bestOk_iff h
      have e1 := (bestSizes_all room.toNat (by omega) _ (sortI xs) (Nat.le_refl _)).2.1
      have e2 := (tripOk_all h1).1
      have e3 := sortI_len xs
      omega
    · simp
  have s1 : ∀ A n c w' B, Sl w' B ILit A n c xs → B ≤ w'.heap.size → Calls Try.prog 20 #[.slice A n c, .int .i64 room] w' (OwTwo w' (bestL xs room) (bestN xs room)) := fun A n c w' B h1 h2 => bestTrips_c A n c xs room w' B h1 h2
  have s2 : ∀ A n c w' B, Sl w' B ILit A n c xs → B ≤ w'.heap.size → Calls Try.prog 19 #[.slice A n c, .int .i64 room] w' (OwTwo w' (bestL xs room) (bestN xs room)) := fun A n c w' B h1 h2 => sBestTrips_c A n c xs room w' B h1 h2
  obtain ⟨R, hR⟩ : ∃ R, bestL xs room = R := ⟨_, rfl⟩
  obtain ⟨Q, hQ⟩ : ∃ Q, bestN xs room = Q := ⟨_, rfl⟩
  rw [hR] at s1 s2 hl
  rw [hQ] at s1 s2
  have S1 := Lib.hid s1
  have S2 := Lib.hid s2
  have HR := Lib.hid hl
  have T1 := Lib.hid (fun w' (hb : Below w.heap.size w w') => toIntS_f A n c xs w' _ (hS.below hb) hb.size (by omega))
  clear s1 s2 hR hQ hl hS
  go_enter Try.func8, Try.ntmps8
  go_wp2_with fail
  refine (T1.out w (Below.refl _ _)).mono ?_
  rintro e w1 ⟨g1, rfl, t_1, p1, q1, b1⟩
  have z1 := b1.size
  have c1 : Below w.heap.size w w1 := b1
  clear b1
  go_wp2_with fail
  refine (S2.out _ _ _ w1 _ t_1.sl (Nat.le_refl _)).mono ?_
  rintro e w2 ⟨A2, n2, d2, rfl, r_2, b2⟩
  have z2 := b2.size
  clear t_1
  have c2 : Below w.heap.size w w2 := c1.trans (b2.mono (by omega))
  clear b2 c1
  have w0_2 := r_2.sl
  clear r_2
  go_wp2_with fail
  refine (T1.out w2 c2).mono ?_
  rintro e w3 ⟨gx, rfl, x_3, px, qx, b3⟩
  have z3 := b3.size
  have c3 : Below w.heap.size w w3 := c2.trans (b3.mono (by omega))
  have w0_3 := w0_2.below (b3.mono (by omega))
  clear w0_2
  clear b3 c2
  go_wp2_with fail
  refine (S1.out _ _ _ w3 _ x_3.sl (Nat.le_refl _)).mono ?_
  rintro e w4 ⟨A4, n4, d4, rfl, g_4, b4⟩
  have z4 := b4.size
  have c4 : Below w.heap.size w w4 := c3.trans (b4.mono (by omega))
  have w0_4 := w0_3.below (b4.mono (by omega))
  have x_4 := x_3.below b4
  clear w0_3 x_3
  clear b4 c3
  have hn4 : n4 ≤ 12 := by have := g_4.len; have := HR.out; omega
  have zg := z3
  go_wp2_with fail
  refine (eqIntS_t _ _ _ _ _ _ _ w4 _ _ g_4.sl (Nat.le_refl _) w0_4 (by omega)).mono ?_
  rintro e w5 ⟨rfl, b5⟩
  have z5 := b5.size
  have c5 : Below w.heap.size w w5 := c4.trans (b5.mono (by omega))
  have w0_5 := w0_4.below (b5.mono (by omega))
  have x_5 := x_4.below b5
  have g_5 := g_4.below b5
  clear w0_4 x_4 g_4
  clear b5 c4
  go_wp2_with fail
  refine (T1.out w5 c5).mono ?_
  rintro e w6 ⟨g6, rfl, t_6, p6, q6, b6⟩
  have z6 := b6.size
  have c6 : Below w.heap.size w w6 := c5.trans (b6.mono (by omega))
  have w0_6 := w0_5.below (b6.mono (by omega))
  have x_6 := x_5.below b6
  have g_6 := g_5.below b6
  clear w0_5 x_5 g_5
  clear b6 c5
  go_wp2_with fail
  refine (eqIntS_t _ _ _ _ _ _ _ w6 _ _ x_6.sl (Nat.le_refl _) t_6.sl (Nat.le_refl _)).mono ?_
  rintro e w7 ⟨rfl, b7⟩
  have z7 := b7.size
  have c7 : Below w.heap.size w w7 := c6.trans (b7.mono (by omega))
  have w0_7 := w0_6.below (b7.mono (by omega))
  have x_7 := x_6.below b7
  have g_7 := g_6.below b7
  have t_7 := t_6.below b7
  clear w0_6 x_6 g_6 t_6
  clear b7 c6
  clear t_7
  go_wp2_with fail
  refine (markIntS_f _ _ _ _ 1 w7 gx (gx + 1) x_7 (by omega) (fun g hg => by injection hg with hg; injection hg with hg; left; omega) (by omega) (by omega) (by omega)).mono ?_
  rintro e w8 ⟨rfl, x_8, b8, s8, h8⟩
  clear x_7
  have c8 : Below w.heap.size w w8 := c7.trans (b8.mono (by omega))
  have w0_8 := w0_7.below (b8.mono (by omega))
  have g_8 := g_7.past h8 (by omega)
  clear w0_7 g_7
  clear b8 h8 c7
  clear x_8
  go_wp2_with fail
  refine (eqIntS_t _ _ _ _ _ _ _ w8 _ _ g_8.sl (Nat.le_refl _) w0_8 (by omega)).mono ?_
  rintro e w9 ⟨rfl, b9⟩
  have z9 := b9.size
  have c9 : Below w.heap.size w w9 := c8.trans (b9.mono (by omega))
  have w0_9 := w0_8.below (b9.mono (by omega))
  have g_9 := g_8.below b9
  clear w0_8 g_8
  clear b9 c8
  go_wp2_with fail
  refine (markIntS_f _ _ _ _ 1 w9 w3.heap.size w9.heap.size g_9 (by omega) (fun g hg => .inr (Nat.le_refl _)) (by omega) (by omega) (by omega)).mono ?_
  rintro e w10 ⟨rfl, g_10, b10, s10, h10⟩
  clear g_9
  have c10 : Below w.heap.size w w10 := c9.trans (b10.mono (by omega))
  have w0_10 := w0_9.below (b10.mono (by omega))
  clear w0_9
  clear b10 h10 c9
  go_wp2_with fail
  refine (heldIntS_c _ _ _ 1 w10 _ g_10.sl (Nat.le_refl _) (by omega) (by omega) (by omega)).mono ?_
  rintro e w11 ⟨rfl, b11⟩
  have z11 := b11.size
  have c11 : Below w.heap.size w w11 := c10.trans (b11.mono (by omega))
  have w0_11 := w0_10.below (b11.mono (by omega))
  have g_11 := g_10.below b11
  clear w0_10 g_10
  clear b11 c10
  go_wp2_with fail
  refine (T1.out w11 c11).mono ?_
  rintro e w12 ⟨g12, rfl, t_12, p12, q12, b12⟩
  have z12 := b12.size
  have c12 : Below w.heap.size w w12 := c11.trans (b12.mono (by omega))
  have w0_12 := w0_11.below (b12.mono (by omega))
  have g_12 := g_11.below b12
  clear w0_11 g_11
  clear b12 c11
  go_wp2_with fail
  refine (S1.out _ _ _ w12 _ t_12.sl (Nat.le_refl _)).mono ?_
  rintro e w13 ⟨A13, n13, d13, rfl, h_13, b13⟩
  have z13 := b13.size
  clear t_12
  have c13 : Below w.heap.size w w13 := c12.trans (b13.mono (by omega))
  have w0_13 := w0_12.below (b13.mono (by omega))
  have g_13 := g_12.below b13
  clear w0_12 g_12
  clear b13 c12
  go_wp2_with fail
  refine (eqIntS_t _ _ _ _ _ _ _ w13 _ _ h_13.sl (Nat.le_refl _) w0_13 (by omega)).mono ?_
  rintro e w14 ⟨rfl, b14⟩
  have z14 := b14.size
  have c14 : Below w.heap.size w w14 := c13.trans (b14.mono (by omega))
  have w0_14 := w0_13.below (b14.mono (by omega))
  have g_14 := g_13.below b14
  have h_14 := h_13.below b14
  clear w0_13 g_13 h_13
  clear b14 c13
  clear h_14
  go_wp2_with fail
  refine (heldIntS_c _ _ _ 1 w14 _ g_14.sl (Nat.le_refl _) (by omega) (by omega) (by omega)).mono ?_
  rintro e w15 ⟨rfl, b15⟩
  have z15 := b15.size
  have c15 : Below w.heap.size w w15 := c14.trans (b15.mono (by omega))
  have w0_15 := w0_14.below (b15.mono (by omega))
  have g_15 := g_14.below b15
  clear w0_14 g_14
  clear b15 c14
  go_wp2_with fail
  go_ret
  exact ⟨rfl, c15⟩
end Go.Proofs.Ytdggdibfgenadaa
