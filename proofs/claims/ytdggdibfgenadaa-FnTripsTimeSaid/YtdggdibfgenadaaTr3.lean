/- The generator of TripTime's arguments; the law TripTimeParts. -/
import Derived.Test.YtdggdibfgenadaaTr2
import Derived.Test.YtdggdibfgenadaaApp
set_option linter.unusedVariables false
set_option linter.unusedSimpArgs false
namespace Go.Proofs.Ytdggdibfgenadaa
open Go.RowKit

set_option maxHeartbeats 1000000 in
theorem anyTrips_c (w : World) (r n c p : Nat) (A : Option Addr) (bs : List Int) (hR : Rd w r A n c bs p) (hp : p ≤ 400000) :
    Calls Try.prog 31 #[.pointer (some ⟨r, 0, none⟩)] w (IntsOf w r p 14 17) := by
  have hlt := hR.lt
  obtain ⟨i0, hi, hi0, hi1, hi2⟩ := info_parts info_int
  go_enter Try.func31, Try.ntmps31
  go_wp2_with fail
  refine (one_lit_c _ r n c (p) A bs _ _ _ _ [3, 5, 6, 2, 1, 0, 12, 13] (by rfl) (by rfl) (by decide) (by decide) (by (repeat' (first | (with_reducible exact hR) | (with_reducible exact RdX.of hR) | (with_reducible refine Rd.alloc ?_ _) | (with_reducible refine Rd.plus ?_ _ _) | (with_reducible refine Rd.drew ?_) | (with_reducible refine RdX.to ?_ _) | (with_reducible refine RdX.alloc ?_ _) | (with_reducible refine RdX.plus ?_ _ _) | (with_reducible refine RdX.adv ?_ _)))) (by omega) (by first | rfl | (simp; done) | (simp; omega))).mono ?_; rintro e w1 ⟨x1, hx1, rfl, os1, d1, rfl⟩
  have hx : 0 ≤ x1 ∧ x1 ≤ 13 := by simp at hx1; omega
  clear hx1
  obtain ⟨hx0, hx13⟩ := hx
  obtain ⟨m, rfl⟩ := Int.eq_ofNat_of_zero_le hx0
  go_wp2_with fail
  go_loopw [3, 4] (fun v i wr => ∃ (k j : Nat) (xs : List Int), k + j = m ∧ i = .int .i64 j ∧ Below w.heap.size (adv w r (p + 1 + k)) wr ∧ wr.ownsRow w.heap.size 3 1 v k (xs.map ILit)) (fun _ i _ => (intOf i).toNat)
  case atStart =>
    refine ⟨0, m, [], by omega, rfl, by (repeat' (first | (with_reducible exact Below.refl _ _) | (with_reducible assumption) | (with_reducible refine Below.alloc ?_ ?_ _) | (with_reducible refine below_plus ?_ ?_ _ _) | (with_reducible refine Below.drew ?_) | (with_reducible refine Below.setCell ?_ ?_ _) | (with_reducible refine below_adv ?_ ?_ _) | go_size | (simp; done) | (simp; omega))), ?_⟩
    have h0 := World.ownsRow_made (base := w.heap.size) (e := 3) (size := 1) w #[] 0 (Nat.le_refl _) (by decide) rfl
    refine own_go (h0.alloc (.cells #[.int .i64 3, .int .i64 5, .int .i64 6, .int .i64 2, .int .i64 1, .int .i64 0, .int .i64 12, .int .i64 13] 3)) hlt (q := p + 1) ?_
    rw [adv_alloc _ _ _ _ (by simp; omega), adv_alloc _ _ _ _ hlt]
    (repeat' (first | (with_reducible exact Below.refl _ _) | (with_reducible assumption) | (with_reducible refine Below.alloc ?_ ?_ _) | (with_reducible refine below_plus ?_ ?_ _ _) | (with_reducible refine Below.drew ?_) | (with_reducible refine Below.setCell ?_ ?_ _) | (with_reducible refine below_adv ?_ ?_ _) | go_size | (simp; done) | (simp; omega)))
  case round =>
    obtain ⟨k, j, xs, hkj, rfl, hb, hB⟩ := hrel
    have hsz := hb.size
    rw [size_adv] at hsz
    by_cases hj : 0 < j
    · go_wp2_with fail
      refine (pick_g w wr r n c p (p + 1 + k) A bs _ hR hb (by omega)).mono ?_
      rintro e w1 ⟨k2, ⟨hk0, hk1, -⟩, rfl, hb1, hg1⟩
      have hk2 := hk1 (by omega)
      have hB1 := own_go hB hlt hg1
      have hsz1 := hb1.size
      rw [size_adv] at hsz1
      clear hg1 hB hb hk1
      go_wp2_with (at_builtin; refine wpList_app1 (adv w r (p + 1 + k + 1)) w1 rfl _ _ 22 rfl 3 i0 (.int .i64 0) 8 Try.underlying22 hi hi0 hi1 hi2 rfl (by decide) w.heap.size _ k _ (by rfl) hB1 _ rfl _ (by rfl) rfl (by omega) hb1 hsz1 ?_; intro v2 w2 hB2 hb2 hg2)
      rw [ints_snoc] at hB2
      go_roundw
      case rel => exact ⟨k + 1, j - 1, _, by omega, by go_num, hb2, hB2⟩
      case measure => simp [intOf]; omega
    · obtain rfl : j = 0 := by omega
      obtain ⟨A', c', rfl, hO⟩ := Ow.of_own hB
      have hRr := (hR.adv (p + 1 + k)).below hb hlt
      clear hB
      go_wp2_with fail
      refine (spoil_c wr r n c (p + 1 + k) A bs hRr (by omega) A' k c' _ xs 16 hO.sl (Nat.le_refl _) (by omega)).mono ?_
      rintro e w5 ⟨A5, n5, c5, q5, ys, rfl, hS5, hn5, hq5, hb5, hlo5⟩
      have HLO := Lib.hid (fun (h : 0 < n5) b o hA => Nat.le_trans hsz (hlo5 h b o hA))
      clear hlo5
      go_wp2_with fail
      go_ret
      exact ⟨_, _, _, q5, ys, rfl, hS5, by omega, by omega, (below_adv2 hb q5).trans (hb5.mono hsz), HLO.out⟩

def IntsDrawn (w : World) (m : Nat) (e : Ending) (w' : World) : Prop :=
  ∃ A n c xs, e = .returned (.slice A n c) ∧ Sl w' w'.heap.size ILit A n c xs ∧ n ≤ m ∧ Below w.heap.size w w'

theorem drawTripTime_c (A : Option Addr) (n c : Nat) (bs : List Int) (w : World) (hS : Sl w w.heap.size BLit A n c bs) (hbs : ∀ x ∈ bs, 0 ≤ x ∧ x ≤ 255) :
    Calls Try.prog 17 #[.slice A n c] w (IntsDrawn w 14) := by
  go_enter Try.func17, Try.ntmps17
  go_wp2_with fail
  refine (newReader_c w A n c _ bs hS (Nat.le_refl _) hbs).mono ?_
  rintro e w1 ⟨r, A1, n1, c1, bs1, rfl, hw1, hR, hr0, hr1⟩
  have hlt := hR.lt
  have hb1 : Below w.heap.size w w1 := by rw [← hw1]; exact (Below.refl _ _).alloc (Nat.le_refl _) _
  have hz1 := hb1.size
  clear hw1
  go_wp2_with fail
  refine (anyTrips_c w1 r n1 c1 0 A1 bs1 hR (by omega)).mono ?_
  rintro e w2 ⟨A2, n2, c2, q, xs, rfl, hS2, hn2, -, hb2, -⟩
  go_wp2_with fail
  go_ret
  exact ⟨_, _, _, _, rfl, hS2, hn2, (below_adv hb1 hr0 q).trans (hb2.mono hz1)⟩

theorem stopsU_app (a b : List Int) (f : Nat) : stopsU (a ++ b) f ≤ stopsU a f + stopsU b f := by
  induction f with
  | zero => exact Int.le_refl _
  | succ f ih =>
    unfold stopsU
    simp only [List.mem_append]
    repeat' split
    all_goals first | omega | (simp_all; done)
theorem mostU_app (a b : List Int) (f : Nat) : mostU (a ++ b) f ≤ mostU a f + mostU b f := by
  induction f with
  | zero => exact Int.le_refl _
  | succ f ih =>
    have h1 := mostU_le a f
    have h2 := mostU_le b f
    unfold mostU
    simp only [List.mem_append]
    repeat' split
    all_goals first | omega | (simp_all; done)
theorem tripN_app (a b : List Int) : tripN (a ++ b) ≤ tripN a + tripN b := by
  have h1 := stopsU_app a b 15
  have h2 := mostU_app a b 15
  unfold tripN
  omega
theorem tripOk_of {xs ys : List Int} (h : tripOk xs = true) (hl : ys.length ≤ 12) (hs : ∀ y ∈ ys, y ∈ xs) : tripOk ys = true := by
  have h2 := (tripOk_all h).2
  simp only [tripOk, Bool.and_eq_true, decide_eq_true_eq, allB, List.all_eq_true, inB]
  exact ⟨hl, fun y hy => h2 y (hs y hy)⟩
theorem tripF_ok {xs : List Int} (h : tripOk xs = true) : tripF xs = tripN xs := by simp [tripF, h]
theorem tripN_nn (xs : List Int) : 0 ≤ tripN xs ∧ tripN xs ≤ 90 := by
  have h1 := stopsU_le xs 15
  have h2 := mostU_le xs 15
  unfold tripN
  omega
theorem tripF_parts {xs : List Int} (h : tripOk xs = true) (k : Nat) : tripF xs ≤ tripF (xs.take k) + tripF (xs.drop k) := by
  have hl := (tripOk_all h).1
  have h1 := tripOk_of h (ys := xs.take k) (by simp; omega) (fun y hy => List.mem_of_mem_take hy)
  have h2 := tripOk_of h (ys := xs.drop k) (by simp; omega) (fun y hy => List.mem_of_mem_drop hy)
  rw [tripF_ok h, tripF_ok h1, tripF_ok h2]
  have := tripN_app (xs.take k) (xs.drop k)
  rwa [List.take_append_drop] at this
theorem tripF_nn {xs : List Int} : -1 ≤ tripF xs ∧ tripF xs ≤ 90 := by
  have := tripN_nn xs
  unfold tripF
  split <;> omega

set_option maxHeartbeats 2000000 in
theorem tripTimeParts_walk (A : Option Addr) (n c : Nat) (bs : List Int) (w : World) (hS : Sl w w.heap.size BLit A n c bs) (hbs : ∀ x ∈ bs, 0 ≤ x ∧ x ≤ 255) :
    Calls Try.prog 6 #[.slice A n c] w fun e w' => e = .returned (.bool true) ∧ Below w.heap.size w w' := by
  obtain ⟨hc0, hc1⟩ := hS.cap
  by_cases hn : 1048576 < n
  · go_enter Try.func6, Try.ntmps6
    go_wp2
    go_ret
    exact ⟨rfl, by (repeat' (first | (with_reducible exact Below.refl _ _) | (with_reducible assumption) | (with_reducible refine Below.alloc ?_ ?_ _) | (with_reducible refine below_plus ?_ ?_ _ _) | (with_reducible refine Below.drew ?_) | (with_reducible refine Below.setCell ?_ ?_ _) | (with_reducible refine below_adv ?_ ?_ _) | go_size | (simp; done) | (simp; omega)))⟩
  · go_enter Try.func6, Try.ntmps6
    go_wp2_with fail
    refine (drawTripTime_c A n c bs w hS hbs).mono ?_
    rintro e w1 ⟨A1, m, c1, xs, rfl, hS1, hm, hb1⟩
    have hz1 := hb1.size
    obtain ⟨hcm0, hcm1⟩ := hS1.cap
    clear hS hbs
    have c1' := fun w' (hw : Below w1.heap.size w1 w') => tripTime_c A1 m c1 xs w' _ (hS1.below hw) hw.size
    have c2' := fun w' (hw : Below w1.heap.size w1 w') => sTripTime_c A1 m c1 xs w' _ (hS1.below hw) hw.size
    cases hok : tripOk xs
    · have e : tripF xs = -1 := by simp [tripF, hok]
      rw [e] at c1' c2'
      have C1 := Lib.hid c1'
      have C2 := Lib.hid c2'
      clear c1' c2' e hok
      go_wp2_with fail
      refine (C1.out w1 (Below.refl _ _)).mono ?_
      rintro e w2 ⟨rfl, hb2⟩
      have hz2 := hb2.size
      go_wp2_with fail
      refine (C2.out w2 hb2).mono ?_
      rintro e w3 ⟨rfl, hb3⟩
      have hz3 := hb3.size
      have hb13 := hb2.trans (hb3.mono hz2)
      go_wp2_with fail
      refine (C2.out w3 hb13).mono ?_
      rintro e w4 ⟨rfl, hb4⟩
      go_wp2_with fail
      go_ret
      exact ⟨rfl, (hb1.trans (hb13.mono hz1)).trans (hb4.mono (by omega))⟩
    · have hpt := tripF_parts hok (m / 2)
      have hb := tripN_nn xs
      rw [← tripF_ok hok] at hb
      have hbt := @tripF_nn (xs.take (m / 2))
      have hbd := @tripF_nn (xs.drop (m / 2))
      have ht := hS1.take (k := m / 2) (by omega)
      have hd := hS1.drop (k := m / 2) (by omega)
      have ct := fun w' (hw : Below w1.heap.size w1 w') => tripTime_c _ _ _ _ w' _ (ht.below hw) hw.size
      have cd := fun w' (hw : Below w1.heap.size w1 w') => tripTime_c _ _ _ _ w' _ (hd.below hw) hw.size
      have htd : ((m : Int)).tdiv 2 = ((m / 2 : Nat) : Int) := rfl
      have hk2 : m / 2 ≤ m := by omega
      have hsome : 0 < m → ∃ b o, A1 = some ⟨b, o, none⟩ := fun h => by
        obtain ⟨b, o, x, h1, -⟩ := hS1.at_ (k := 0) h
        exact ⟨b, o, h1⟩
      have hkm : 0 < m → m / 2 < m := by omega
      obtain ⟨R, hR⟩ : ∃ R, tripF xs = R := ⟨_, rfl⟩
      obtain ⟨k, hk⟩ : ∃ k, m / 2 = k := ⟨_, rfl⟩
      rw [hk] at hpt hbt hbd ct cd htd hk2 hkm
      rw [hR] at hpt hb c1' c2'
      obtain ⟨T1, hT1⟩ : ∃ R, tripF (xs.take k) = R := ⟨_, rfl⟩
      obtain ⟨T2, hT2⟩ : ∃ R, tripF (xs.drop k) = R := ⟨_, rfl⟩
      rw [hT1] at hpt hbt ct
      rw [hT2] at hpt hbd cd
      have hT : m = 0 → T2 = T1 := fun h => by
        subst h
        have hx : xs = [] := List.eq_nil_of_length_eq_zero hS1.len
        rw [← hT1, ← hT2, hx]; simp
      have C1 := Lib.hid c1'
      have C2 := Lib.hid c2'
      have CT := Lib.hid ct
      clear c1' c2' hok hR hT1 hT2 ht hd ct
      have hk0 : (0 : Int) ≤ (k : Int) := by omega
      have hkm' : (k : Int) ≤ (m : Int) := by omega
      by_cases hm0 : m = 0
      · obtain rfl : k = 0 := by omega
        have hTT := hT hm0
        rw [hTT] at hpt hbd
        have hdec : decide (R ≤ T1 + T1) = true := by simp; omega
        subst hm0
        have CD := Lib.hid cd
        clear cd hk
        go_wp2_with fail
        refine (C1.out w1 (Below.refl _ _)).mono ?_
        rintro e w2 ⟨rfl, hb2⟩
        have hz2 := hb2.size
        go_wp2_with fail
        refine (C2.out w2 hb2).mono ?_
        rintro e w3 ⟨rfl, hb3⟩
        have hz3 := hb3.size
        have hb13 := hb2.trans (hb3.mono hz2)
        have CT3 := Lib.hid (fun os d => CT.out (plus w3 os d) (below_plus hb13 (by omega) os d))
        have CD3 := Lib.hid (fun os d => CD.out (plus w3 os d) (below_plus hb13 (by omega) os d))
        clear CT CD C1 C2 hb2 hb3 hS1
        go_wp2_with fail
        refine wp_region_plus (by kernel_rfl) (by kernel_rfl) ?_; (repeat (go_big_quiet_step (first | (go_at_call 13; exact quiet_plus (CT3.out _ _)) | (go_at_call 13; exact quiet_plus (CD3.out _ _))))); refine wpQuiet_nil ?_; intro _ hw'; obtain ⟨⟨osq, dq⟩, hw''⟩ := hw'; subst hw''
        go_wp2_with fail
        go_ret
        exact ⟨by first | rfl | (rw [hdec]; rfl), below_plus (hb1.trans (hb13.mono hz1)) (by omega) _ _⟩
      · obtain ⟨b, o, rfl⟩ := hsome (by omega)
        have hlt := hkm (by omega)
        have hdec : decide (R ≤ T1 + T2) = true := by simp; omega
        rw [if_neg (by omega)] at cd
        simp only [Option.map_some, Addr.add] at cd
        by_cases hkz : k = 0
        · subst hkz
          simp only [if_true, Nat.sub_zero] at cd
          have CD := Lib.hid cd
          clear cd hk
          go_wp2_with fail
          refine (C1.out w1 (Below.refl _ _)).mono ?_
          rintro e w2 ⟨rfl, hb2⟩
          have hz2 := hb2.size
          go_wp2_with fail
          refine (C2.out w2 hb2).mono ?_
          rintro e w3 ⟨rfl, hb3⟩
          have hz3 := hb3.size
          have hb13 := hb2.trans (hb3.mono hz2)
          have CT3 := Lib.hid (fun os d => CT.out (plus w3 os d) (below_plus hb13 (by omega) os d))
          have CD3 := Lib.hid (fun os d => CD.out (plus w3 os d) (below_plus hb13 (by omega) os d))
          clear CT CD C1 C2 hb2 hb3 hS1
          go_wp2_with fail
          refine wp_region_plus (by kernel_rfl) (by kernel_rfl) ?_
          (repeat (go_big_quiet_step (first | (go_at_call 13; with_reducible exact quiet_plus (CT3.out _ _)) | (go_at_call 13; with_reducible exact quiet_plus (CD3.out _ _)))))
          refine wpQuiet_nil ?_
          intro _ hw'
          obtain ⟨⟨osq, dq⟩, hw''⟩ := hw'
          subst hw''
          go_wp2_with fail
          go_ret
          exact ⟨by first | rfl | (rw [hdec]; rfl), below_plus (hb1.trans (hb13.mono hz1)) (by omega) _ _⟩

        · simp only [if_neg hkz] at cd
          have CD := Lib.hid cd
          clear cd hk
          go_wp2_with fail
          refine (C1.out w1 (Below.refl _ _)).mono ?_
          rintro e w2 ⟨rfl, hb2⟩
          have hz2 := hb2.size
          go_wp2_with fail
          refine (C2.out w2 hb2).mono ?_
          rintro e w3 ⟨rfl, hb3⟩
          have hz3 := hb3.size
          have hb13 := hb2.trans (hb3.mono hz2)
          have CT3 := Lib.hid (fun os d => CT.out (plus w3 os d) (below_plus hb13 (by omega) os d))
          have CD3 := Lib.hid (fun os d => CD.out (plus w3 os d) (below_plus hb13 (by omega) os d))
          clear CT CD C1 C2 hb2 hb3 hS1
          go_wp2_with fail
          refine wp_region_plus (by kernel_rfl) (by kernel_rfl) ?_
          (repeat (go_big_quiet_step (first | (go_at_call 13; with_reducible exact quiet_plus (CT3.out _ _)) | (go_at_call 13; with_reducible exact quiet_plus (CD3.out _ _)))))
          refine wpQuiet_nil ?_
          intro _ hw'
          obtain ⟨⟨osq, dq⟩, hw''⟩ := hw'
          subst hw''
          go_wp2_with fail
          go_ret
          exact ⟨by first | rfl | (rw [hdec]; rfl), below_plus (hb1.trans (hb13.mono hz1)) (by omega) _ _⟩

end Go.Proofs.Ytdggdibfgenadaa
