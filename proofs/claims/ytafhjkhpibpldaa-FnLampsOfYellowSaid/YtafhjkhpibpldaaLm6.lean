/- The generator of LampsOf's arguments. -/
import Derived.Test.YtafhjkhpibpldaaRdc
import Derived.Test.YtafhjkhpibpldaaHb
set_option linter.unusedVariables false
set_option linter.unusedSimpArgs false
namespace Go.Proofs.Ytafhjkhpibpldaa
open Go.RowKit

theorem bools_snoc (l : List Bool) (g : Bool) : l.map OLit ++ [.bool g] = (l ++ [g]).map OLit := by simp [OLit]

/-- m booleans of the call's own, the reader gone on to at most p + K. -/
def BoolsOf (w : World) (r p m K : Nat) (e : Ending) (w' : World) : Prop :=
  ∃ A c q xs, e = .returned (.slice A m c) ∧ Ow w' w.heap.size 4 OLit A m c xs ∧ q ≤ p + K ∧ Below w.heap.size (adv w r q) w'

set_option maxHeartbeats 1000000 in
theorem randomBools_c (w : World) (r n c p m : Nat) (A : Option Addr) (bs : List Int) (hR : Rd w r A n c bs p) (hp : p ≤ 500000) (hm : m ≤ 100000) :
    Calls Try.prog 26 #[.pointer (some ⟨r, 0, none⟩), .int .i64 m] w (BoolsOf w r p m (m + 1)) := by
  have hlt := hR.lt
  obtain ⟨i0, hi, hz0, hz1, hz2⟩ := info_parts info_bool
  go_enter Try.func26, Try.ntmps26
  go_wp2_with fail
  refine (pick_c _ r n c (p) A bs _ (by (repeat' (first | (with_reducible exact hR) | (with_reducible exact RdX.of hR) | (with_reducible refine Rd.alloc ?_ _) | (with_reducible refine Rd.plus ?_ _ _) | (with_reducible refine Rd.drew ?_) | (with_reducible refine RdX.to ?_ _) | (with_reducible refine RdX.alloc ?_ _) | (with_reducible refine RdX.plus ?_ _ _) | (with_reducible refine RdX.adv ?_ _)))) (by omega)).mono ?_; rintro e w1 ⟨k1, hk1, rfl, os1, d1, rfl⟩
  go_wp2_with fail
  go_loopw [5, 6, 7] (fun v st i wr => ∃ (k q : Nat) (g : Bool) (xs : List Bool), k ≤ m ∧ i = .int .i64 k ∧ st = .bool g ∧ q ≤ p + 1 + k ∧ Below w.heap.size (adv w r q) wr ∧ wr.ownsRow w.heap.size 4 1 v k (xs.map OLit)) (fun _ _ i _ => m - (intOf i).toNat)
  case atStart =>
    refine ⟨0, p + 1, _, [], by omega, rfl, rfl, by omega, by (repeat' (first | (with_reducible exact Below.refl _ _) | (with_reducible assumption) | (with_reducible refine Below.alloc ?_ ?_ _) | (with_reducible refine below_plus ?_ ?_ _ _) | (with_reducible refine Below.drew ?_) | (with_reducible refine Below.setCell ?_ ?_ _) | (with_reducible refine below_adv ?_ ?_ _) | go_size | (simp; omega))), ?_⟩
    have h0 := World.ownsRow_made (base := w.heap.size) (e := 4) (size := 1) w #[] 0 (Nat.le_refl _) (by decide) rfl
    refine own_go h0 hlt (q := p + 1) ?_
    rw [adv_alloc _ _ _ _ hlt]
    (repeat' (first | (with_reducible exact Below.refl _ _) | (with_reducible assumption) | (with_reducible refine Below.alloc ?_ ?_ _) | (with_reducible refine below_plus ?_ ?_ _ _) | (with_reducible refine Below.drew ?_) | (with_reducible refine Below.setCell ?_ ?_ _) | (with_reducible refine below_adv ?_ ?_ _) | go_size | (simp; omega)))
  case round =>
    obtain ⟨k, q, g, xs, hk, rfl, rfl, hq, hb, hB⟩ := hrel
    have hsz := hb.size
    rw [size_adv] at hsz
    by_cases hkm : k < m
    · go_wp2_with fail
      refine (pick_g w wr r n c p q A bs _ hR hb (by omega)).mono ?_
      rintro e w1 ⟨k2, -, rfl, hb1, hg1⟩
      have hB1 := own_go hB hlt hg1
      have hsz1 := hb1.size
      rw [size_adv] at hsz1
      clear hg1 hB hb
      by_cases h0 : k2 = 0
      · subst h0
        go_wp2_with (at_builtin; refine wpList_app1 (adv w r (q + 1)) w1 rfl _ _ 24 rfl 4 i0 (.bool false) 1 Try.underlying24 hi hz0 hz1 hz2 rfl (by decide) w.heap.size _ k _ (by rfl) hB1 _ rfl _ (by rfl) rfl (by omega) hb1 hsz1 ?_; intro v2 w2 hB2 hb2 hg2)
        rw [bools_snoc] at hB2
        go_roundw
        case rel => exact ⟨k + 1, q + 1, _, _, by omega, by go_num, by rfl, by omega, hb2, hB2⟩
        case measure => simp [intOf]; omega
      · go_wp2_with (at_builtin; refine wpList_app1 (adv w r (q + 1)) w1 rfl _ _ 24 rfl 4 i0 (.bool false) 1 Try.underlying24 hi hz0 hz1 hz2 rfl (by decide) w.heap.size _ k _ (by rfl) hB1 _ rfl _ (by rfl) rfl (by omega) hb1 hsz1 ?_; intro v2 w2 hB2 hb2 hg2)
        rw [bools_snoc] at hB2
        go_roundw
        case rel => exact ⟨k + 1, q + 1, _, _, by omega, by go_num, by rfl, by omega, hb2, hB2⟩
        case measure => simp [intOf]; omega
    · obtain rfl : k = m := by omega
      obtain ⟨A', c', rfl, hO⟩ := Ow.of_own hB
      clear hB
      go_wp2_with fail
      go_ret
      exact ⟨_, _, q, xs, rfl, hO, by omega, hb⟩

theorem anyLength_c (w : World) (r n c p : Nat) (A : Option Addr) (bs : List Int) (hR : Rd w r A n c bs p) (hp : p ≤ 500000) :
    Calls Try.prog 27 #[.pointer (some ⟨r, 0, none⟩), .int .i64 200] w fun e w' => ∃ x : Int, (0 ≤ x ∧ x ≤ 201) ∧ e = .returned (.int .i64 x) ∧ Below w.heap.size (adv w r (p + 1)) w' := by
  have hlt := hR.lt
  go_enter Try.func27, Try.ntmps27
  go_wp2_with fail
  refine (one_lit_c _ r n c (p) A bs _ _ _ _ [10, 20, 6, 30, 1, 0, 200, 201] (by rfl) (by rfl) (by decide) (by decide) (by (repeat' (first | (with_reducible exact hR) | (with_reducible exact RdX.of hR) | (with_reducible refine Rd.alloc ?_ _) | (with_reducible refine Rd.plus ?_ _ _) | (with_reducible refine Rd.drew ?_) | (with_reducible refine RdX.to ?_ _) | (with_reducible refine RdX.alloc ?_ _) | (with_reducible refine RdX.plus ?_ _ _) | (with_reducible refine RdX.adv ?_ _)))) (by omega) (by first | rfl | (simp; done) | (simp; omega))).mono ?_; rintro e w1 ⟨x1, hx1, rfl, os1, d1, rfl⟩
  have hx : 0 ≤ x1 ∧ x1 ≤ 201 := by simp at hx1; omega
  clear hx1
  go_wp2_with fail
  go_ret
  refine ⟨x1, hx, rfl, ?_⟩
  (repeat' (first | (with_reducible exact Below.refl _ _) | (with_reducible assumption) | (with_reducible refine Below.alloc ?_ ?_ _) | (with_reducible refine below_plus ?_ ?_ _ _) | (with_reducible refine Below.drew ?_) | (with_reducible refine Below.setCell ?_ ?_ _) | (with_reducible refine below_adv ?_ ?_ _) | go_size | (simp; omega)))

def BoolsDrawn (w : World) (e : Ending) (w' : World) : Prop :=
  ∃ A n c xs, e = .returned (.slice A n c) ∧ Ow w' w.heap.size 4 OLit A n c xs ∧ n ≤ 201 ∧ Below w.heap.size w w'

theorem drawLampsOf_c (A : Option Addr) (n c : Nat) (bs : List Int) (w : World) (hS : Sl w w.heap.size BLit A n c bs) (hbs : ∀ x ∈ bs, 0 ≤ x ∧ x ≤ 255) :
    Calls Try.prog 18 #[.slice A n c] w (BoolsDrawn w) := by
  go_enter Try.func18, Try.ntmps18
  go_wp2_with fail
  refine (newReader_c w A n c _ bs hS (Nat.le_refl _) hbs).mono ?_
  rintro e w1 ⟨r, A1, n1, c1, bs1, rfl, hw1, hR, hr0, hr1⟩
  have hlt := hR.lt
  have hb1 : Below w.heap.size w w1 := by rw [← hw1]; exact (Below.refl _ _).alloc (Nat.le_refl _) _
  have hz1 := hb1.size
  clear hw1
  go_wp2_with fail
  refine (anyLength_c w1 r n1 c1 0 A1 bs1 hR (by omega)).mono ?_
  rintro e w2 ⟨x, ⟨hx0, hx1⟩, rfl, hb2⟩
  have hR2 := (hR.adv 1).below hb2 hlt
  have hz2 := hb2.size
  rw [size_adv] at hz2
  have hb2' : Below w.heap.size w w2 := (below_adv hb1 hr0 1).trans (hb2.mono (by omega))
  obtain ⟨m, rfl⟩ := Int.eq_ofNat_of_zero_le hx0
  clear hb2
  go_wp2_with fail
  refine (randomBools_c w2 r n1 c1 1 m A1 bs1 hR2 (by omega) (by omega)).mono ?_
  rintro e w3 ⟨A3, c3, q, xs, rfl, hO, -, hb3⟩
  go_wp2_with fail
  go_ret
  exact ⟨_, _, _, _, rfl, hO.mono (by omega), by omega, (below_adv hb2' hr0 q).trans (hb3.mono (by omega))⟩
end Go.Proofs.Ytafhjkhpibpldaa
