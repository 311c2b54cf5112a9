/- The generators of BestTrips' and TripsTime's arguments. -/
import Derived.Test.YtdggdibfgenadaaBt5
set_option linter.unusedVariables false
set_option linter.unusedSimpArgs false
namespace Go.Proofs.Ytdggdibfgenadaa
open Go.RowKit

def BestDrawn (w : World) (e : Ending) (w' : World) : Prop :=
  ∃ A n c xs room, e = .returned (.tuple #[.slice A n c, .int .i64 room]) ∧ Sl w' w'.heap.size ILit A n c xs ∧ n ≤ 14 ∧ 0 ≤ room ∧ room ≤ 6 ∧ Below w.heap.size w w'

set_option maxHeartbeats 1000000 in
theorem drawBestTrips_c (A : Option Addr) (n c : Nat) (bs : List Int) (w : World) (B : Nat) (hS : Sl w B BLit A n c bs) (hB : B ≤ w.heap.size) (hbs : ∀ x ∈ bs, 0 ≤ x ∧ x ≤ 255) :
    Calls Try.prog 23 #[.slice A n c] w (BestDrawn w) := by
  go_enter Try.func23, Try.ntmps23
  go_wp2_with fail
  refine (newReader_c w A n c _ bs hS hB hbs).mono ?_
  rintro e w1 ⟨r, A1, n1, c1, bs1, rfl, hw1, hR, hr0, hr1⟩
  have hlt := hR.lt
  have hb1 : Below w.heap.size w w1 := by rw [← hw1]; exact (Below.refl _ _).alloc (Nat.le_refl _) _
  have hz1 := hb1.size
  clear hw1
  go_wp2_with fail
  refine (anyTrips_c w1 r n1 c1 0 A1 bs1 hR (by omega)).mono ?_
  rintro e w2 ⟨A2, n2, c2, q, xs, rfl, hS2, hn2, hq, hb2, hlo2⟩
  have HLO := Lib.hid hlo2
  clear hlo2
  have hR2 := (hR.adv q).below hb2 hlt
  have hz2 := hb2.size
  rw [size_adv] at hz2
  go_wp2_with fail
  refine (one_lit_c w2 r n1 c1 q A1 bs1 _ _ _ _ [2, 3, 4, 1, 5, 6, 0] (by rfl) (by rfl) (by decide) (by decide) hR2 (by omega) (by first | rfl | (simp; done) | (simp; omega))).mono ?_
  rintro e w3 ⟨x, hx, rfl, os3, d3, hw3⟩
  have hx2 : 0 ≤ x ∧ x ≤ 6 := by simp at hx; omega
  obtain ⟨hx0, hx6⟩ := hx2
  have hb3 : Below w2.heap.size (adv w2 r (q + 1)) w3 := by
    rw [← hw3, adv_alloc _ _ _ _ (by omega)]
    (repeat' (first | (with_reducible exact Below.refl _ _) | (with_reducible assumption) | (with_reducible refine Below.alloc ?_ ?_ _) | (with_reducible refine below_plus ?_ ?_ _ _) | (with_reducible refine Below.drew ?_) | (with_reducible refine Below.setCell ?_ ?_ _) | (with_reducible refine below_adv ?_ ?_ _) | go_size | (simp; done) | (simp; omega)))
  have hS3 : Sl w3 w3.heap.size ILit A2 n2 c2 xs := by
    exact ((hS2.adv (q := q + 1) fun h b o hA => by have := HLO.out h b o hA; omega).below hb3).more (by have := hb3.size; rw [size_adv] at this; exact this)
  have hb03 : Below w.heap.size w w3 := (below_adv hb1 hr0 (q + 1)).trans (((below_adv2 hb2 (q + 1)).trans (hb3.mono hz2)).mono hz1)
  clear hw3 hx hb3 hb2 hb1
  go_wp2_with fail
  go_ret2
  exact ⟨_, _, _, _, _, rfl, hS3, hn2, hx0, hx6, hb03⟩
end Go.Proofs.Ytdggdibfgenadaa
