/- The law BestTrips. -/
import Derived.Test.YtdggdibfgenadaaBt9
set_option linter.unusedVariables false
set_option linter.unusedSimpArgs false
namespace Go.Proofs.Ytdggdibfgenadaa
open Go.RowKit

/-- The persons of the floors 1..f, floor after floor. -/
def cntUp (xs : List Int) : Nat → List Int
  | 0 => []
  | f + 1 => cntUp xs f ++ xs.filter (fun x => x == ((f + 1 : Nat) : Int))
theorem cntUp_le (xs : List Int) (f : Nat) : ∀ x ∈ cntUp xs f, x ≤ f := by
  induction f with
  | zero => intro x h; cases h
  | succ f ih =>
    intro x h
    rcases List.mem_append.1 h with h | h
    · have := ih x h; omega
    · simp at h; omega
theorem cntUp_sorted (xs : List Int) (f : Nat) : (cntUp xs f).Pairwise (fun a b => a ≤ b) := by
  induction f with
  | zero => exact List.Pairwise.nil
  | succ f ih =>
    rw [cntUp, List.pairwise_append]
    refine ⟨ih, ?_, fun a ha b hb => ?_⟩
    · rw [List.pairwise_iff_getElem]
      intro i j h1 h2 _
      have e1 := List.getElem_mem h1
      have e2 := List.getElem_mem h2
      rw [List.mem_filter] at e1 e2
      have := e1.2
      have := e2.2
      simp only [beq_iff_eq] at *
      omega
    · have := cntUp_le xs f a ha
      simp at hb
      omega
theorem cntUp_count (xs : List Int) (f : Nat) (a : Int) : (cntUp xs f).count a = if 1 ≤ a ∧ a ≤ f then xs.count a else 0 := by
  induction f with
  | zero => rw [if_neg (by omega)]; rfl
  | succ f ih =>
    rw [cntUp, List.count_append, ih]
    by_cases h : a = ((f + 1 : Nat) : Int)
    · subst h
      rw [if_neg (by omega), if_pos (by omega), List.count_filter (by simp)]
      simp
    · have e : (xs.filter (fun x => x == ((f + 1 : Nat) : Int))).count a = 0 := by
        rw [List.count_eq_zero]
        intro hm
        simp at hm
        exact h (by simp; exact hm.2)
      rw [e]
      by_cases h2 : 1 ≤ a ∧ a ≤ f
      · rw [if_pos h2, if_pos (by omega)]; rfl
      · rw [if_neg h2, if_neg (by omega)]
theorem cntUp_all {xs : List Int} (h : tripOk xs = true) : cntUp xs 15 = sortI xs := by
  refine sortI_of ?_ (cntUp_sorted xs 15)
  rw [List.perm_iff_count]
  intro a
  rw [cntUp_count]
  split
  · rfl
  · symm
    rw [List.count_eq_zero]
    intro hm
    have := (tripOk_all h).2 a hm
    omega
theorem bestL_all {xs : List Int} {room : Int} (h : bestOk xs room = true) :
    (∀ s ∈ bestL xs room, 1 ≤ s ∧ s ≤ room) ∧ sumL (bestL xs room) = xs.length ∧ tripsF (sortI xs) (bestL xs room) = bestN xs room := by
  obtain ⟨h1, h2, h3⟩ := bestOk_iff h
  have e1 : bestL xs room = bestSizes room.toNat (sortI xs) := by simp [bestL, h]
  have e2 : bestN xs room = bestTime room.toNat (sortI xs) := by simp [bestN, h]
  rw [e1, e2]
  obtain ⟨a1, a2, a3, a4⟩ := bestSizes_all room.toNat (by omega) _ (sortI xs) (Nat.le_refl _)
  refine ⟨fun s hs => ?_, by rw [a3, sortI_len], ?_⟩
  · have := a1 s hs; omega
  · rw [tripsF, tripOk_perm (sortI_perm xs), if_pos h1, a4]; omega

set_option maxHeartbeats 2000000 in
theorem bestTripsLaw_walk (A : Option Addr) (n c : Nat) (bs : List Int) (w : World) (hS : Sl w w.heap.size BLit A n c bs) (hbs : ∀ x ∈ bs, 0 ≤ x ∧ x ≤ 255) :
    Calls Try.prog 10 #[.slice A n c] w fun e w' => e = .returned (.bool true) ∧ Below w.heap.size w w' := by
  obtain ⟨hc0, hc1⟩ := hS.cap
  by_cases hn : 1048576 < n
  · go_enter Try.func10, Try.ntmps10
    go_wp2
    go_ret
    exact ⟨rfl, by (repeat' (first | (with_reducible exact Below.refl _ _) | (with_reducible assumption) | (with_reducible refine Below.alloc ?_ ?_ _) | (with_reducible refine below_plus ?_ ?_ _ _) | (with_reducible refine Below.drew ?_) | (with_reducible refine Below.setCell ?_ ?_ _) | (with_reducible refine below_adv ?_ ?_ _) | go_size | (simp; done) | (simp; omega)))⟩
  · obtain ⟨i0, hi, hi0, hi1, hi2⟩ := info_parts info_int
    go_enter Try.func10, Try.ntmps10
    go_wp2_with fail
    refine (drawBestTrips_c A n c bs w _ hS (Nat.le_refl _) hbs).mono ?_
    rintro e w1 ⟨A1, m, c1, xs, room, rfl, hS1, hm, hm0, hm6, hb1⟩
    have hz1 := hb1.size
    obtain ⟨hcm0, hcm1⟩ := hS1.cap
    clear hS hbs
    have c1' := fun w' (hw : Below w1.heap.size w1 w') => bestTrips_c A1 m c1 xs room w' _ (hS1.below hw) hw.size
    have c2' := fun w' (hw : Below w1.heap.size w1 w') => sBestTrips_c A1 m c1 xs room w' _ (hS1.below hw) hw.size
    obtain ⟨Q, hQ⟩ : ∃ Q, bestN xs room = Q := ⟨_, rfl⟩
    have HQ := Lib.hid hQ
    have hll := bestL_len xs room
    obtain ⟨L, hL⟩ : ∃ L, bestL xs room = L := ⟨_, rfl⟩
    have HLL := Lib.hid hL
    rw [hQ, hL] at c1' c2'
    rw [hL] at hll
    have HLN := Lib.hid hll
    have C1 := Lib.hid c1'
    have C2 := Lib.hid c2'
    clear c1' c2' hQ hL hll
    go_wp2_with fail
    refine (C1.out w1 (Below.refl _ _)).mono ?_
    rintro e w2 ⟨A2, n2, c2, rfl, hW2, hb2⟩
    have hz2 := hb2.size
    have hS2 := hW2.sl
    have HL2 := Lib.hid hS2.len
    have hn2 : n2 ≤ 12 := by rw [← HL2.out]; exact HLN.out
    clear hW2
    go_wp2_with fail
    refine (C2.out w2 hb2).mono ?_
    rintro e w3 ⟨A3, n3, c3, rfl, hW3, hb3⟩
    have hz3 := hb3.size
    have hS3 := hW3.sl
    have hS23 := hS2.below hb3
    have hb13 := hb2.trans (hb3.mono hz2)
    clear hW3 hS2 hb2 hb3
    have E := Lib.hid (fun w' (hw : Below w3.heap.size w3 w') => equalInts_t _ _ _ _ _ _ _ w' _ _ (hS23.below (hw.mono hz3)) (Nat.le_trans hz3 hw.size) (hS3.below hw) hw.size)
    clear hS3
    go_wp2_with fail
    refine (E.out w3 (Below.refl _ _)).mono ?_
    rintro e w4 ⟨rfl, hb4⟩
    have hz4 := hb4.size
    have hb14 := hb13.trans (hb4.mono (by omega))
    by_cases hneg : Q < 0
    · clear hS23
      go_wp2_with fail
      refine (E.out w4 hb4).mono ?_
      rintro e w5 ⟨rfl, hb5⟩
      go_wp2_with fail
      go_ret
      exact ⟨rfl, (hb1.trans (hb14.mono hz1)).trans (hb5.mono (by omega))⟩
    · have hk := bestN_neg (xs := xs) (room := room) (by rw [HQ.out]; omega)
      obtain ⟨a1, a2, a3⟩ := bestL_all hk
      rw [HLL.out] at a1 a2 a3
      rw [HQ.out] at a3
      obtain ⟨hok, hr1, hr5⟩ := bestOk_iff hk
      have hl12 := (tripOk_all hok).1
      rw [hS1.len] at hl12
      rw [hS1.len] at a2
      rw [← cntUp_all hok] at a3
      have HA1 := Lib.hid a1
      have HA2 := Lib.hid a2
      have HA3 := Lib.hid a3
      have HL := Lib.hid hS1.len
      have hS4 := (hS1.below hb14).more (B' := w4.heap.size) (by omega)
      have hT4 := (hS23.below (hb4.mono hz3)).more (B' := w4.heap.size) (by omega)
      have hb04 := hb1.trans (hb14.mono hz1)
      clear a1 a2 a3 hk hok hS1 hS23 hb13 hb14 hb4 hb1 C1 C2 E
      go_wp2_with fail
      go_loopw [9, 10] (fun v fl wr => ∃ (f k : Nat), f ≤ 15 ∧ fl = .int .i64 ((f : Int) + 1) ∧ k ≤ 12 * f ∧ wr.ownsRow w4.heap.size 3 1 v k ((cntUp xs f).map ILit) ∧ Below w4.heap.size w4 wr) (fun _ fl _ => 16 - (intOf fl).toNat)
      case atStart => exact ⟨0, 0, by omega, rfl, by omega, World.ownsRow_made _ #[] 0 (Nat.le_refl _) (by decide) rfl, by (repeat' (first | (with_reducible exact Below.refl _ _) | (with_reducible assumption) | (with_reducible refine Below.alloc ?_ ?_ _) | (with_reducible refine below_plus ?_ ?_ _ _) | (with_reducible refine Below.drew ?_) | (with_reducible refine Below.setCell ?_ ?_ _) | (with_reducible refine below_adv ?_ ?_ _) | go_size | (simp; done) | (simp; omega)))⟩
      case round =>
        obtain ⟨f, k, hf, rfl, hkf, hB, hb⟩ := hrel
        have hzr := hb.size
        by_cases hlt : f < 15
        · have h0 : Hid (cntUp xs f = cntUp xs f ++ (xs.take 0).filter (fun x => x == ((f + 1 : Nat) : Int))) := Lib.hid (by simp)
          rw [h0.out] at hB
          have hd1 : decide ((f : Int) + 1 ≤ 15) = true := by simp; omega
          clear h0
          go_wp2_with fail
          obtain ⟨wo, rfl⟩ : ∃ wo : World, wo = wr := ⟨_, rfl⟩
          go_loopw [9, 11] (fun v i wr => ∃ (j k' : Nat), j ≤ m ∧ i = .int .i64 j ∧ k' ≤ k + j ∧ wr.ownsRow w4.heap.size 3 1 v k' ((cntUp xs f ++ (xs.take j).filter (fun x => x == ((f + 1 : Nat) : Int))).map ILit) ∧ Below w4.heap.size w4 wr) (fun _ i _ => m - (intOf i).toNat)
          case atStart => exact ⟨0, k, by omega, rfl, by omega, hB, hb⟩
          case round =>
            clear hB hb hzr
            obtain ⟨j, k', hj, rfl, hk', hB, hb⟩ := hrel
            have hzr := hb.size
            by_cases hjm : j < m
            · obtain ⟨b, o, x, rfl, hbl, hx, hcell⟩ := (hS4.below hb).at_ hjm
              have hcell' : wr.cell? ⟨b, o + j, none⟩ = some (.int .i64 x) := hcell
              have hts := take_snoc hx
              by_cases hxf : x = (f : Int) + 1
              · subst hxf
                have hn1 : Hid ((cntUp xs f ++ (xs.take j).filter (fun x => x == ((f + 1 : Nat) : Int))) ++ [(f : Int) + 1] = cntUp xs f ++ (xs.take (j + 1)).filter (fun x => x == ((f + 1 : Nat) : Int))) := Lib.hid (by
                  rw [hts, List.filter_append]; simp)
                clear hcell hx hts
                go_wp2_with (at_builtin; refine wpList_app1 w4 wr rfl _ _ 22 rfl 3 i0 (.int .i64 0) 8 Try.underlying22 hi hi0 hi1 hi2 rfl (by decide) w4.heap.size _ k' _ (by rfl) hB _ rfl _ (by rfl) rfl (by omega) hb hzr ?_; intro v8 w8 hO8 hb8 hg8)
                rw [ints_snoc, hn1.out] at hO8
                go_roundw
                case rel => exact ⟨j + 1, k' + 1, by omega, by go_num, by omega, hO8, hb8⟩
                case measure => simp [intOf]; omega
              · have hn1 : Hid (cntUp xs f ++ (xs.take j).filter (fun x => x == ((f + 1 : Nat) : Int)) = cntUp xs f ++ (xs.take (j + 1)).filter (fun x => x == ((f + 1 : Nat) : Int))) := Lib.hid (by
                  rw [hts, List.filter_append]; simp; exact hxf)
                have hx2 : (x == (f : Int) + 1) = false := by simpa using hxf
                rw [hn1.out] at hB
                clear hcell hx hts
                go_wp2_with fail
                go_roundw
                case rel => exact ⟨j + 1, k', by omega, by go_num, by omega, hB, hb⟩
                case measure => simp [intOf]; omega
            · obtain rfl : j = m := by omega
              rw [List.take_of_length_le (by rw [HL.out]; exact Nat.le_refl _)] at hB
              go_wp2_with fail
              go_roundw
              case rel => exact ⟨f + 1, k', by omega, by go_num, by omega, by rw [cntUp]; exact hB, hb⟩
              case measure => simp [intOf]; omega
        · have HF : Hid (f = 15) := Lib.hid (by omega)
          rw [HF.out] at hB hkf
          obtain ⟨A5, c5, rfl, hW5⟩ := Ow.of_own hB
          have hO5 := hW5.sl
          have hT5 := (hT4.below hb).more hzr
          clear hB hW5 hT4 hS4
          go_wp2_with fail
          obtain ⟨wo, rfl⟩ : ∃ wo : World, wo = wr := ⟨_, rfl⟩
          go_loopw [12] (fun i wr => ∃ (j : Nat), j ≤ n2 ∧ i = .int .i64 j ∧ Below wo.heap.size wo wr) (fun i _ => n2 - (intOf i).toNat)
          case atStart => exact ⟨0, by omega, rfl, by (repeat' (first | (with_reducible exact Below.refl _ _) | (with_reducible assumption) | (with_reducible refine Below.alloc ?_ ?_ _) | (with_reducible refine below_plus ?_ ?_ _ _) | (with_reducible refine Below.drew ?_) | (with_reducible refine Below.setCell ?_ ?_ _) | (with_reducible refine below_adv ?_ ?_ _) | go_size | (simp; done) | (simp; omega)))⟩
          case round =>
            obtain ⟨j, hj, rfl, hb2⟩ := hrel
            have hzr2 := hb2.size
            by_cases hjm : j < n2
            · obtain ⟨b, o, x, rfl, hbl, hx, hcell⟩ := (hT5.below hb2).at_ hjm
              have hcell' : wr.cell? ⟨b, o + j, none⟩ = some (.int .i64 x) := hcell
              obtain ⟨hx1, hx2⟩ := HA1.out x (List.mem_of_getElem? hx)
              clear hcell hx
              go_wp2_with fail
              go_roundw
              case rel => exact ⟨j + 1, by omega, by go_num, hb2⟩
              case measure => simp [intOf]; omega
            · obtain rfl : j = n2 := by omega
              have k1 := sum_c A2 j c2 L wr _ (hT5.below hb2) (by omega) (fun x hx => by have := HA1.out x hx; omega)
              rw [HA2.out] at k1
              have k2 := fun w' (hw : Below wr.heap.size wr w') => tripsTime_c A5 k c5 _ A2 j c2 L w' _ ((hO5.below hb2).below (hw.mono hzr2)) ((hT5.below hb2).below (hw.mono hzr2)) (Nat.le_trans hzr2 hw.size) (by omega)
              rw [HA3.out] at k2
              have K1 := Lib.hid k1
              have K2 := Lib.hid k2
              clear k1 k2 hT5 hO5
              go_wp2_with fail
              refine K1.out.mono ?_
              rintro e u1 ⟨rfl, f1⟩
              have y1 := f1.size
              go_wp2_with fail
              refine (K2.out u1 f1).mono ?_
              rintro e u2 ⟨rfl, f2⟩
              go_wp2_with fail
              go_ret
              exact ⟨rfl, ((hb04.trans (hb.mono (by omega))).trans (hb2.mono (by omega))).trans ((f1.trans (f2.mono y1)).mono (by omega))⟩
end Go.Proofs.Ytdggdibfgenadaa
