/- DrawShareCost and DrawBestShare, walked. -/
import Derived.Test.YtillmnhhkhjpkaaSf4
set_option linter.unusedVariables false
set_option linter.unusedSimpArgs false
namespace Go.Proofs.Ytillmnhhkhjpkaa
open Go.RowKit

def ShareDrawn (w : World) (e : Ending) (w' : World) : Prop :=
  ∃ A n c cars A2 n2 c2 cs A3 n3 c3, e = .returned (.tuple #[.slice A n c, .slice A2 n2 c2, .slice A3 n3 c3]) ∧ Sl w' w'.heap.size ILit A n c cars ∧ SlC w' w'.heap.size A2 n2 c2 cs ∧ n ≤ 8 ∧ n2 ≤ 8 ∧ Below w.heap.size w w'
def FleetDrawn (w : World) (e : Ending) (w' : World) : Prop :=
  ∃ A n c cars A2 n2 c2 cs, e = .returned (.tuple #[.slice A n c, .slice A2 n2 c2]) ∧ Sl w' w'.heap.size ILit A n c cars ∧ SlC w' w'.heap.size A2 n2 c2 cs ∧ n ≤ 8 ∧ n2 ≤ 8 ∧ Below w.heap.size w w'
set_option maxHeartbeats 4000000 in
theorem drawShareCost_c (A : Option Addr) (n c : Nat) (bs : List Int) (w : World) (B : Nat) (hS : Sl w B BLit A n c bs) (hB : B ≤ w.heap.size) (hbs : ∀ x ∈ bs, 0 ≤ x ∧ x ≤ 255) :
    Calls Try.prog 10 #[.slice A n c] w (ShareDrawn w) := by
  obtain ⟨i0, hi, hi0, hi1, hi2⟩ := info_parts info_int
  have C1 := Lib.hid (newReader_c w A n c _ bs hS hB hbs)
  have hm := fun w' x y => run_max2 (P := Try.prog) w' #[3, 3] 3 x y
  clear hS hbs
  go_enter Try.func10, Try.ntmps10
  go_wp2_with fail
  refine C1.out.mono ?_
  rintro e w1 ⟨r, A1, n1, c1, bs1, rfl, hw1, hR, hr0, hr1⟩
  have hlt := hR.lt
  have hb1 : Below w.heap.size w w1 := by rw [← hw1]; exact (Below.refl _ _).alloc (Nat.le_refl _) _
  have hz1 := hb1.size
  clear hw1 C1
  go_wp2_with fail
  refine (anyFleet_c w1 r n1 c1 0 A1 bs1 hR (by omega)).mono ?_
  rintro e w2 ⟨Af, nf, cf, q, cars, rfl, hSf, hnf, hq, hb2, hlo2⟩
  have hz2 := hb2.size
  rw [size_adv] at hz2
  have hbw2 : Below w.heap.size w w2 := (below_adv hb1 hr0 q).trans (hb2.mono hz1)
  have hR2 := (hR.adv q).below hb2 hlt
  have hlt2 := hR2.lt
  obtain ⟨hcf0, hcf1⟩ := hSf.cap
  have HSf := Lib.hid hSf
  have HLO2 := Lib.hid (fun (h : 0 < nf) b o hA => show b ≠ r from by have := hlo2 h b o hA; omega)
  clear hb2 hR hSf hlo2
  go_wp2_with fail
  refine (fewCalls_c w2 r n1 c1 q A1 bs1 hR2 (by omega)).mono ?_
  rintro e w3 ⟨Ac, nc, cc, q3, cs, rfl, hSc, hnc, hq3, hb3, hlo3⟩
  have hz3 := hb3.size
  rw [size_adv] at hz3
  have hbw3 : Below w.heap.size w w3 := (below_adv hbw2 hr0 q3).trans (hb3.mono (by omega))
  have hR3 := (hR2.adv q3).below hb3 hlt2
  have hlt3 := hR3.lt
  obtain ⟨hcc0, hcc1⟩ := hSc.cap
  have HS3 := Lib.hid (((HSf.out.adv (r := r) (q := q3) HLO2.out).below hb3).more hz3)
  have HSc := Lib.hid hSc
  have HLO3 := Lib.hid (fun (h : 0 < nc) b o hA => show b ≠ r from by have := hlo3 h b o hA; omega)
  clear hb3 hR2 hSc hlo3 HSf
  go_wp2_with fail
  go_loopw [8, 9] (fun v i wr => ∃ (k : Nat) (xs : List Int), k ≤ nc ∧ i = .int .i64 k ∧ Below w3.heap.size (adv w3 r (q3 + k)) wr ∧ wr.ownsRow w3.heap.size 3 1 v k (xs.map ILit)) (fun _ i _ => nc - (intOf i).toNat)
  case atStart =>
    refine ⟨0, [], by omega, rfl, by rw [Nat.add_zero, adv_self hR3]; (repeat' (first | (with_reducible exact Below.refl _ _) | (with_reducible assumption) | (with_reducible refine Below.alloc ?_ ?_ _) | (with_reducible refine below_plus ?_ ?_ _ _) | (with_reducible refine Below.drew ?_) | (with_reducible refine Below.setCell ?_ ?_ _) | (with_reducible refine below_adv ?_ ?_ _) | go_size | (simp; done) | (simp; omega))), ?_⟩
    exact World.ownsRow_made (base := w3.heap.size) (e := 3) (size := 1) w3 #[] 0 (Nat.le_refl _) (by decide) rfl
  case round =>
    obtain ⟨k, xs, hk, rfl, hb, hB⟩ := hrel
    have hsz := hb.size
    rw [size_adv] at hsz
    by_cases hj : k < nc
    · go_wp2_with fail
      refine (pick_g w3 wr r n1 c1 q3 (q3 + k) A1 bs1 _ hR3 hb (by omega)).mono ?_
      rintro e w4 ⟨k2, -, rfl, hb4, hg4⟩
      have hB4 := own_go hB hlt3 hg4
      have hz4 := hb4.size
      rw [size_adv] at hz4
      clear hg4 hB hb
      go_wp2_with (at_builtin; refine wpList_app1 (adv w3 r (q3 + k + 1)) w4 rfl _ _ 23 rfl 3 i0 (.int .i64 0) 8 Try.underlying23 hi hi0 hi1 hi2 rfl (by decide) w3.heap.size _ k _ (by rfl) hB4 _ rfl _ (by rfl) rfl (by omega) hb4 hz4 ?_; intro v5 w5 hB5 hb5 hg5)
      rw [ints_snoc] at hB5
      go_roundw
      case rel => exact ⟨k + 1, _, by omega, by go_num, hb5, hB5⟩
      case measure => simp [intOf]; omega
    · obtain rfl : k = nc := by omega
      obtain ⟨A', c', rfl, hO⟩ := Ow.of_own hB
      have hRr := (hR3.adv (q3 + k)).below hb hlt3
      clear hB
      go_wp2_with fail
      refine (spoil_c wr r n1 c1 (q3 + k) A1 bs1 hRr (by omega) A' k c' _ xs 3 hO.sl (Nat.le_refl _) (by omega)).mono ?_
      rintro e w5 ⟨A5, n5, c5, q5, ys, rfl, -, -, -, hb5, -⟩
      have hz5 := hb5.size
      rw [size_adv] at hz5
      have hb35 : Below w3.heap.size (adv w3 r q5) w5 := (below_adv2 hb q5).trans (hb5.mono hsz)
      have HS5 := Lib.hid (((HS3.out.adv (r := r) (q := q5) HLO2.out).below hb35).more (Nat.le_trans hsz hz5))
      have HC5 := Lib.hid (((HSc.out.adv (r := r) (q := q5) HLO3.out).below hb35).more (Nat.le_trans hsz hz5))
      have hbw5 : Below w.heap.size w w5 := (below_adv hbw3 hr0 q5).trans (hb35.mono (by omega))
      clear hb5 hb hb35
      go_wp2_with fail
      go_returns
      exact ⟨_, _, _, _, _, _, _, _, _, _, _, rfl, HS5.out, HC5.out, by omega, by omega, hbw5⟩
set_option maxHeartbeats 1000000 in
theorem drawBestShare_c (A : Option Addr) (n c : Nat) (bs : List Int) (w : World) (B : Nat) (hS : Sl w B BLit A n c bs) (hB : B ≤ w.heap.size) (hbs : ∀ x ∈ bs, 0 ≤ x ∧ x ≤ 255) :
    Calls Try.prog 4 #[.slice A n c] w (FleetDrawn w) := by
  have C1 := Lib.hid (drawShareCost_c A n c bs w B hS hB hbs)
  clear hS hbs
  go_enter Try.func4, Try.ntmps4
  go_wp2_with fail
  refine C1.out.mono ?_
  rintro e w1 ⟨A1, n1, c1, cars, A2, n2, c2, cs, A3, n3, c3, rfl, hS1, hS2, h1, h2, hb⟩
  go_wp2_with fail
  go_returns
  exact ⟨_, _, _, _, _, _, _, _, rfl, hS1, hS2, h1, h2, hb⟩
end Go.Proofs.Ytillmnhhkhjpkaa
