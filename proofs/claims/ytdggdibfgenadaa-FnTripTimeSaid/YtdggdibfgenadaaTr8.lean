/- The law TripTime, walked. -/
import Derived.Test.YtdggdibfgenadaaTr7
import Derived.Test.YtdggdibfgenadaaStp
set_option linter.unusedVariables false
set_option linter.unusedSimpArgs false
namespace Go.Proofs.Ytdggdibfgenadaa
open Go.RowKit

set_option maxHeartbeats 2000000 in
theorem tripTimeLaw_walk (A : Option Addr) (n c : Nat) (bs : List Int) (w : World) (hS : Sl w w.heap.size BLit A n c bs) (hbs : ∀ x ∈ bs, 0 ≤ x ∧ x ≤ 255) :
    Calls Try.prog 5 #[.slice A n c] w fun e w' => e = .returned (.bool true) ∧ Below w.heap.size w w' := by
  obtain ⟨hc0, hc1⟩ := hS.cap
  by_cases hn : 1048576 < n
  · go_enter Try.func5, Try.ntmps5
    go_wp2
    go_ret
    exact ⟨rfl, by (repeat' (first | (with_reducible exact Below.refl _ _) | (with_reducible assumption) | (with_reducible refine Below.alloc ?_ ?_ _) | (with_reducible refine below_plus ?_ ?_ _ _) | (with_reducible refine Below.drew ?_) | (with_reducible refine Below.setCell ?_ ?_ _) | (with_reducible refine below_adv ?_ ?_ _) | go_size | (simp; done) | (simp; omega)))⟩
  · obtain ⟨i0, hi, hi0, hi1, hi2⟩ := info_parts info_int
    go_enter Try.func5, Try.ntmps5
    go_wp2_with fail
    refine (drawTripTime_c A n c bs w hS hbs).mono ?_
    rintro e w1 ⟨A1, m, c1, xs, rfl, hS1, hm, hb1⟩
    have hz1 := hb1.size
    obtain ⟨hcm0, hcm1⟩ := hS1.cap
    clear hS hbs
    have c1' := fun w' (hw : Below w1.heap.size w1 w') => tripTime_c A1 m c1 xs w' _ (hS1.below hw) hw.size
    have c2' := fun w' (hw : Below w1.heap.size w1 w') => sTripTime_c A1 m c1 xs w' _ (hS1.below hw) hw.size
    obtain ⟨R, hR⟩ : ∃ R, tripF xs = R := ⟨_, rfl⟩
    rw [hR] at c1' c2'
    have C1 := Lib.hid c1'
    have C2 := Lib.hid c2'
    clear c1' c2'
    by_cases hq : R < 0 ∨ m = 0 ∨ m = 12
    · have HQ := Lib.hid hq
      clear hR hq
      go_wp2_with fail
      refine (C1.out w1 (Below.refl _ _)).mono ?_
      rintro e w2 ⟨rfl, hb2⟩
      have hz2 := hb2.size
      go_wp2_with fail
      refine (C2.out w2 hb2).mono ?_
      rintro e w3 ⟨rfl, hb3⟩
      have hz3 := hb3.size
      have hb13 := hb2.trans (hb3.mono hz2)
      rcases HQ.out with hq | hq | hq
      all_goals
        first
        | subst hq
        | skip
        by_cases hR0 : R < 0
        all_goals
          go_wp2_with fail
          refine (C2.out w3 hb13).mono ?_
          rintro e w4 ⟨rfl, hb4⟩
          go_wp2_with fail
          go_ret
          exact ⟨rfl, (hb1.trans (hb13.mono hz1)).trans (hb4.mono (by omega))⟩
    · have hR0 : 0 ≤ R := by omega
      have hok : tripOk xs = true := by
        cases h : tripOk xs
        · have e : tripF xs = -1 := by simp [tripF, h]
          omega
        · rfl
      have hlm := hS1.len
      have hm12 := (tripOk_all hok).1
      have hm0 : 0 < m := by omega
      have hmx : m < 12 := by omega
      obtain ⟨b, o, x0, rfl, hbl, hx0, hcell0⟩ := hS1.at_ hm0
      have p1 := Lib.hid (trip_twice hok (by omega) (List.mem_of_getElem? hx0))
      have p2 := Lib.hid (trip_back hok)
      have p3 := Lib.hid (trip_more hok (by omega))
      have HR := Lib.hid hR
      have HL := Lib.hid hlm
      have HX := Lib.hid hx0
      clear hR hq hok hlm hx0 hm12
      go_wp2_with fail
      refine (C1.out w1 (Below.refl _ _)).mono ?_
      rintro e w2 ⟨rfl, hb2⟩
      have hz2 := hb2.size
      go_wp2_with fail
      refine (C2.out w2 hb2).mono ?_
      rintro e w3 ⟨rfl, hb3⟩
      have hz3 := hb3.size
      have hb13 := hb2.trans (hb3.mono hz2)
      have hS3 := (hS1.below hb13).more (B' := w3.heap.size) (by omega)
      have hc3 : w3.cell? ⟨b, o, none⟩ = some (.int .i64 x0) := (hb13.cell (p := ⟨b, o, none⟩) hbl).trans hcell0
      have q1 : ((m : Int) == 0) = false := by simp; omega
      have q2 : ((m : Int) == 12) = false := by simp; omega
      have q3 : decide (R < 0) = false := by simp; omega
      clear hb2 hb3 hcell0 hS1
      go_wp2_with fail
      go_region_held3 (fun w' => w'.cell? ⟨b, o, none⟩ = some (.int .i64 x0)) (first | go_keep | (exact (hb4.cell (p := ⟨b, o, none⟩) (show b < w3.heap.size by omega)).trans hc3) | (exact (hb5.cell (p := ⟨b, o, none⟩) (show b < w3.heap.size by omega)).trans hc3))
        (first | (refine step_appS w3 _ (by rfl) _ _ 22 (by rfl) 3 i0 (.int .i64 0) 8 Try.underlying22 hi hi0 hi1 hi2 rfl (by decide) w3.heap.size _ 0 [] (by rfl) ?_ (some ⟨b, o, none⟩) m c1 w3.heap.size ILit xs (by rfl) ?_ (fun _ => rfl) (by omega) (by omega) ?_ ?_ ?_; (focus (first | exact own_empty (g := w3.heap.size) (heap_alloc_new _ _) (Nat.le_refl _) | exact own_empty (g := w3.heap.size) (heap_two0 _ _ _) (Nat.le_refl _) | exact own_empty (g := w3.heap.size + 1) (heap_two1 _ _ _) (Nat.le_succ _))); (focus (refine hS3.below ?_; (repeat' (first | (with_reducible exact Below.refl _ _) | (with_reducible assumption) | (with_reducible refine Below.alloc ?_ ?_ _) | (with_reducible refine below_plus ?_ ?_ _ _) | (with_reducible refine Below.drew ?_) | (with_reducible refine Below.setCell ?_ ?_ _) | (with_reducible refine below_adv ?_ ?_ _) | go_size | (simp; done) | (simp; omega))))); (focus ((repeat' (first | (with_reducible exact Below.refl _ _) | (with_reducible assumption) | (with_reducible refine Below.alloc ?_ ?_ _) | (with_reducible refine below_plus ?_ ?_ _ _) | (with_reducible refine Below.drew ?_) | (with_reducible refine Below.setCell ?_ ?_ _) | (with_reducible refine below_adv ?_ ?_ _) | go_size | (simp; done) | (simp; omega))))); (focus (first | (simp; done) | (simp; omega))); intro v2 w4 hO2 hb4 hg4; rw [Nat.zero_add, List.nil_append] at hO2; have hz4 := hb4.size) | (refine step_app1 w3 _ (by rfl) _ _ 22 (by rfl) 3 i0 (.int .i64 0) 8 Try.underlying22 hi hi0 hi1 hi2 rfl (by decide) w3.heap.size v2 m (xs.map ILit) (by rfl) ?_ (.int .i64 x0) rfl _ (by rfl) ?_ (by omega) ?_ ?_ ?_; (focus (first | exact hO2 | exact hO2.alloc _)); (focus (first | (rw [World.cell?_alloc_new]; rfl) | exact hg4.cell (cell_two1 _ _ _ _) (show some (w3.heap.size + 1) ≠ some w3.heap.size from fun h => by injection h with h; omega) | exact hg4.cell (cell_two0 _ _ _ _) (show some w3.heap.size ≠ some (w3.heap.size + 1) from fun h => by injection h with h; omega))); (focus (first | exact hb4 | (refine hb4.alloc ?_ _; omega))); (focus (first | exact hz4 | (simp; omega))); intro v3 w5 hO3 hb5 hg5))
      all_goals
        rw [ints_snoc] at hO3
        obtain ⟨A3, c3, rfl, hW3⟩ := Ow.of_own hO3
        have hT5 := hW3.sl
        have hz5 := hb5.size
        have hS5 := hS3.below hb5
        have h0 := World.ownsRow_made (base := w5.heap.size) (e := 3) (size := 1) w5 #[] 0 (Nat.le_refl _) (by decide) rfl
        have hS5' := (hS5.more hz5).alloc (Nat.le_refl _) (.cells #[] 3)
        have hbb5 : Below w5.heap.size w5 (w5.alloc (.cells #[] 3)) := (Below.refl _ _).alloc (Nat.le_refl _) _
        have hb05 : Below w.heap.size w w5 := (hb1.trans (hb13.mono hz1)).trans (hb5.mono (by omega))
        clear hO2 hg4 hb4 hO3 hg5 hW3 hc3 hS3 hb13 hb1
        go_wp2_with (first | (at_builtin; refine wpList_appS w5 _ rfl (.tmp 46) (.tmp 47) 22 rfl 3 i0 (.int .i64 0) 8 Try.underlying22 hi hi0 hi1 hi2 rfl (by decide) w5.heap.size _ 0 [] (by rfl) h0 _ m c1 w5.heap.size ILit xs (by rfl) hS5' (fun _ => rfl) (by omega) (by omega) hbb5 (by simp) ?_; intro v6 w6 hO6 hb6 hg6; rw [Nat.zero_add, List.nil_append] at hO6; have hz6 := hb6.size) | (at_builtin; refine wpList_app1 w5 w6 rfl (.tmp 48) (.tmp 49) 22 rfl 3 i0 (.int .i64 0) 8 Try.underlying22 hi hi0 hi1 hi2 rfl (by decide) w5.heap.size v6 m _ (by rfl) hO6 (.int .i64 15) rfl _ (by rfl) rfl (by omega) hb6 hz6 ?_; intro v7 w7 hO7 hb7 hg7))
        rw [ints_snoc] at hO7
        obtain ⟨A7, c7, rfl, hW7⟩ := Ow.of_own hO7
        have hM7 := hW7.sl
        have hz7 := hb7.size
        have hT7 := (hT5.below hb7).more hz7
        have hS7 := (hS5.below (hb7.mono hz5)).more (B' := w7.heap.size) (by omega)
        have hb07 : Below w.heap.size w w7 := hb05.trans (hb7.mono (by omega))
        clear hO6 hb6 hg6 hO7 hg7 hW7 hS5 hS5' hT5 hbb5 h0 hb7 hb05 hb5
        go_wp2_with fail
        go_loopw [7, 8] (fun v i wr => ∃ (k j : Nat) (i' : Int), k + j = m ∧ i = .int .i64 i' ∧ i' = (j : Int) - 1 ∧ Below w7.heap.size w7 wr ∧ wr.ownsRow w7.heap.size 3 1 v k ((xs.reverse.take k).map ILit)) (fun _ i _ => (intOf i + 1).toNat)
        case atStart => exact ⟨0, m, _, by omega, rfl, rfl, by (repeat' (first | (with_reducible exact Below.refl _ _) | (with_reducible assumption) | (with_reducible refine Below.alloc ?_ ?_ _) | (with_reducible refine below_plus ?_ ?_ _ _) | (with_reducible refine Below.drew ?_) | (with_reducible refine Below.setCell ?_ ?_ _) | (with_reducible refine below_adv ?_ ?_ _) | go_size | (simp; done) | (simp; omega))), World.ownsRow_made _ #[] 0 (Nat.le_refl _) (by decide) rfl⟩
        case round =>
          obtain ⟨k, j, i', hkj, rfl, hi', hb, hB⟩ := hrel
          have hzr := hb.size
          by_cases hj : 0 < j
          · obtain ⟨j', rfl⟩ : ∃ j', j = j' + 1 := ⟨j - 1, by omega⟩
            obtain rfl : i' = (j' : Int) := by omega
            obtain ⟨b', o', x, hA, hbl', hx, hcell⟩ := (hS7.below hb).at_ (k := j') (by omega)
            simp only [Option.some.injEq, Addr.mk.injEq, and_true] at hA
            obtain ⟨rfl, rfl⟩ := hA
            have hrv := take_snoc (rev_at HL.out (k := k) (by omega) (by rw [show m - 1 - k = j' by omega]; exact hx))
            have hcell' : wr.cell? ⟨b, o + j', none⟩ = some (.int .i64 x) := hcell
            have HV := Lib.hid hrv
            clear hcell hx hi' hrv
            go_wp2_with (at_builtin; refine wpList_app1 w7 wr rfl _ _ 22 rfl 3 i0 (.int .i64 0) 8 Try.underlying22 hi hi0 hi1 hi2 rfl (by decide) w7.heap.size _ k _ (by rfl) hB _ rfl _ (by rfl) rfl (by omega) hb hzr ?_; intro v8 w8 hO8 hb8 hg8)
            rw [ints_snoc, ← HV.out] at hO8
            go_roundw
            case rel => exact ⟨k + 1, j', _, by omega, by rfl, by omega, hb8, hO8⟩
            case measure => simp [intOf]
          · obtain rfl : j = 0 := by omega
            obtain rfl : i' = -1 := by omega
            obtain rfl : k = m := by omega
            rw [List.take_of_length_le (by rw [List.length_reverse, HL.out]; exact Nat.le_refl _)] at hB
            obtain ⟨A9, c9, rfl, hW9⟩ := Ow.of_own hB
            have hD1 := (hT7.below hb).more hzr
            have hD2 := hW9.sl
            have hD3 := (hM7.below hb).more hzr
            clear hT7 hS7 hM7 hW9 hB hi'
            have k1 := fun w' (hw : Below wr.heap.size wr w') => tripTime_c _ _ _ _ w' _ (hD1.below hw) hw.size
            have k2 := fun w' (hw : Below wr.heap.size wr w') => tripTime_c _ _ _ _ w' _ (hD2.below hw) hw.size
            have k3 := fun w' (hw : Below wr.heap.size wr w') => tripTime_c _ _ _ _ w' _ (hD3.below hw) hw.size
            have hRT := p3.out
            rw [p1.out, HR.out] at k1
            rw [p2.out, HR.out] at k2
            rw [HR.out] at hRT
            obtain ⟨T, hT⟩ : ∃ T, tripF (xs ++ [15]) = T := ⟨_, rfl⟩
            rw [hT] at k3 hRT
            have K1 := Lib.hid k1
            have K2 := Lib.hid k2
            have K3 := Lib.hid k3
            clear k1 k2 k3 hT hD1 hD2 hD3
            go_wp2_with fail
            refine (K1.out wr (Below.refl _ _)).mono ?_
            rintro e u1 ⟨rfl, f1⟩
            have y1 := f1.size
            go_wp2_with fail
            refine (K2.out u1 f1).mono ?_
            rintro e u2 ⟨rfl, f2⟩
            have y2 := f2.size
            have f12 := f1.trans (f2.mono y1)
            go_wp2_with fail
            refine (K3.out u2 f12).mono ?_
            rintro e u3 ⟨rfl, f3⟩
            go_wp2_with fail
            go_ret
            exact ⟨rfl, (hb07.trans (hb.mono (by omega))).trans ((f12.trans (f3.mono (by omega))).mono (by omega))⟩
end Go.Proofs.Ytdggdibfgenadaa
