/- The exact law of TripsTime, walked. -/
import Derived.Test.YtdggdibfgenadaaTr5
set_option linter.unusedVariables false
set_option linter.unusedSimpArgs false
namespace Go.Proofs.Ytdggdibfgenadaa
open Go.RowKit

/-- A fresh copy of a list. -/
def Fresh (w : World) (n : Nat) (xs : List Int) (e : Ending) (w1 : World) : Prop :=
  ∃ g, e = .returned (.slice (some ⟨g, 0, none⟩) n n) ∧ Sl w1 w1.heap.size ILit (some ⟨g, 0, none⟩) n n xs ∧ Below w.heap.size w w1
theorem toIntS_n (A : Option Addr) (n c : Nat) (xs : List Int) (w : World) (B : Nat) (hS : Sl w B ILit A n c xs) (hB : B ≤ w.heap.size) (hn : n ≤ 1099511627776) :
    Calls Try.prog 12 #[.slice A n c] w (Fresh w n xs) := by
  refine (toIntS_c A n c xs w B hS hB hn).mono ?_
  rintro e w1 ⟨rfl, rfl⟩
  have hl := hS.len
  refine ⟨w.heap.size, rfl, ?_, (Below.refl _ _).alloc (Nat.le_refl _) _⟩
  have := (Ow.new w ILit xs 3 (by omega)).sl
  rw [hl] at this
  exact this

set_option maxHeartbeats 2000000 in
theorem exactTripsTime_walk (A : Option Addr) (n c : Nat) (xs : List Int) (A2 : Option Addr) (n2 c2 : Nat) (ys : List Int) (w : World) (hS : Sl w w.heap.size ILit A n c xs) (hT : Sl w w.heap.size ILit A2 n2 c2 ys) :
    Calls Try.prog 4 #[.slice A n c, .slice A2 n2 c2] w fun e w' => e = .returned (.bool true) ∧ Below w.heap.size w w' := by
  obtain ⟨hc0, hc1⟩ := hS.cap
  obtain ⟨hc2, hc3⟩ := hT.cap
  by_cases hn : 1048576 < n
  · go_enter Try.func4, Try.ntmps4
    go_wp2
    go_ret
    exact ⟨rfl, by (repeat' (first | (with_reducible exact Below.refl _ _) | (with_reducible assumption) | (with_reducible refine Below.alloc ?_ ?_ _) | (with_reducible refine below_plus ?_ ?_ _ _) | (with_reducible refine Below.drew ?_) | (with_reducible refine Below.setCell ?_ ?_ _) | (with_reducible refine below_adv ?_ ?_ _) | go_size | (simp; omega)))⟩
  by_cases hn2 : 1048576 < n2
  · go_enter Try.func4, Try.ntmps4
    go_wp2
    go_ret
    exact ⟨rfl, by (repeat' (first | (with_reducible exact Below.refl _ _) | (with_reducible assumption) | (with_reducible refine Below.alloc ?_ ?_ _) | (with_reducible refine below_plus ?_ ?_ _ _) | (with_reducible refine Below.drew ?_) | (with_reducible refine Below.setCell ?_ ?_ _) | (with_reducible refine below_adv ?_ ?_ _) | go_size | (simp; omega)))⟩
  · obtain ⟨R, hR⟩ : ∃ R, tripsF xs ys = R := ⟨_, rfl⟩
    have HO := Lib.hid hR
    clear hR
    have T1 := Lib.hid (fun w' (hb : Below w.heap.size w w') => toIntS_n A n c xs w' _ (hS.below hb) hb.size (by omega))
    have T2 := Lib.hid (fun w' (hb : Below w.heap.size w w') => toIntS_n A2 n2 c2 ys w' _ (hT.below hb) hb.size (by omega))
    clear hS hT
    go_enter Try.func4, Try.ntmps4
    go_wp2_with fail
    refine (T1.out w (Below.refl _ _)).mono ?_
    rintro e w1 ⟨g1, rfl, s1, b1⟩
    have z1 := b1.size
    go_wp2_with fail
    refine (T2.out w1 b1).mono ?_
    rintro e w2 ⟨g2, rfl, s2, b2⟩
    have z2 := b2.size
    have b02 := b1.trans (b2.mono z1)
    go_wp2_with fail
    refine (sTripsTime_c _ n n xs _ n2 n2 ys w2 w2.heap.size ((s1.below b2).more z2) s2 (Nat.le_refl _) (by omega)).mono ?_
    rintro e w3 ⟨rfl, b3⟩
    rw [HO.out]
    have z3 := b3.size
    have b03 := b02.trans (b3.mono (by omega))
    clear s1 s2 b1 b2 b3 b02
    go_wp2_with fail
    refine (T1.out w3 b03).mono ?_
    rintro e w4 ⟨g4, rfl, s4, b4⟩
    have z4 := b4.size
    have b04 := b03.trans (b4.mono (by omega))
    go_wp2_with fail
    refine (T2.out w4 b04).mono ?_
    rintro e w5 ⟨g5, rfl, s5, b5⟩
    have z5 := b5.size
    have b05 := b04.trans (b5.mono (by omega))
    have s45 := (s4.below b5).more z5
    clear s4 b4 b5 b03 b04
    go_wp2_with fail
    refine (tripsTime_c _ n n xs _ n2 n2 ys w5 w5.heap.size s45 s5 (Nat.le_refl _) (by omega)).mono ?_
    rintro e w6 ⟨rfl, b6⟩
    rw [HO.out]
    have z6 := b6.size
    have b06 := b05.trans (b6.mono (by omega))
    have s46 := (s45.below b6).more z6
    have s56 := (s5.below b6).more z6
    clear s45 s5 b6 b05
    go_wp2_with fail
    refine (T1.out w6 b06).mono ?_
    rintro e w7 ⟨g7, rfl, s7, b7⟩
    have z7 := b7.size
    have b07 := b06.trans (b7.mono (by omega))
    have E1 := eqIntS_c _ _ _ xs _ _ _ xs w7 _ _ ((s46.below b7).more z7) (Nat.le_refl _) s7 (Nat.le_refl _)
    rw [eqL_true rfl] at E1
    have E1h := Lib.hid E1
    have s57 := (s56.below b7).more z7
    clear E1 s46 s7 s56 b7 b06
    go_wp2_with fail
    refine E1h.out.mono ?_
    rintro e w8 ⟨rfl, b8⟩
    have z8 := b8.size
    have b08 := b07.trans (b8.mono (by omega))
    have s58 := (s57.below b8).more z8
    clear s57 b8 b07 E1h
    go_wp2_with fail
    refine (T2.out w8 b08).mono ?_
    rintro e w9 ⟨g9, rfl, s9, b9⟩
    have z9 := b9.size
    have b09 := b08.trans (b9.mono (by omega))
    have E2 := eqIntS_c _ _ _ ys _ _ _ ys w9 _ _ ((s58.below b9).more z9) (Nat.le_refl _) s9 (Nat.le_refl _)
    rw [eqL_true rfl] at E2
    have E2h := Lib.hid E2
    clear E2 s58 s9 b9 b08
    go_wp2_with fail
    refine E2h.out.mono ?_
    rintro e w10 ⟨rfl, b10⟩
    go_wp2_with fail
    go_ret
    exact ⟨rfl, b09.trans (b10.mono (by omega))⟩
end Go.Proofs.Ytdggdibfgenadaa
