/- The law BestTripsRoom. -/
import Derived.Test.YtdggdibfgenadaaBt7
import Derived.Test.YtdggdibfgenadaaBt8
set_option linter.unusedVariables false
set_option linter.unusedSimpArgs false
namespace Go.Proofs.Ytdggdibfgenadaa
open Go.RowKit

theorem singles_snoc {xs : List Int} {k : Nat} {x : Int} (h : xs[k]? = some x) : singles (xs.take (k + 1)) = singles (xs.take k) + tripN [x] := by
  rw [take_snoc h]
  generalize xs.take k = ys
  induction ys with
  | nil => simp [singles]
  | cons y r ih => simp only [List.cons_append, singles, ih]; omega
theorem one_take {xs : List Int} {k : Nat} {x : Int} (h : xs[k]? = some x) : (xs.drop k).take 1 = [x] := by
  rw [drop_cons h]; rfl
theorem bestN_more {xs : List Int} {room : Int} (h : bestOk xs room = true) (hr : room < 5) : 0 ≤ bestN xs room ∧ bestN xs (room + 1) ≤ bestN xs room ∧ bestN xs room ≤ singles xs := by
  obtain ⟨h1, h2, h3⟩ := bestOk_iff h
  have hk : bestOk xs (room + 1) = true := by
    simp only [bestOk, h1, inB, Bool.true_and, Bool.and_eq_true, decide_eq_true_eq]; omega
  have e1 : bestN xs room = bestTime room.toNat (sortI xs) := by simp [bestN, h]
  have e2 : bestN xs (room + 1) = bestTime (room.toNat + 1) (sortI xs) := by
    have : (room + 1).toNat = room.toNat + 1 := by omega
    simp [bestN, hk, this]
  rw [e1, e2]
  refine ⟨(bestTime_nn _ _).1, bestTime_room _ (by omega) _ _ (Nat.le_refl _), ?_⟩
  have := bestTime_singles room.toNat (by omega) (sortI xs)
  rwa [singles_perm (sortI_perm xs)] at this
theorem bestN_neg {xs : List Int} {room : Int} (h : 0 ≤ bestN xs room) : bestOk xs room = true := by
  cases hk : bestOk xs room
  · simp [bestN, hk] at h
  · rfl

set_option maxHeartbeats 2000000 in
theorem bestTripsRoom_walk (A : Option Addr) (n c : Nat) (bs : List Int) (w : World) (hS : Sl w w.heap.size BLit A n c bs) (hbs : ∀ x ∈ bs, 0 ≤ x ∧ x ≤ 255) :
    Calls Try.prog 9 #[.slice A n c] w fun e w' => e = .returned (.bool true) ∧ Below w.heap.size w w' := by
  obtain ⟨hc0, hc1⟩ := hS.cap
  by_cases hn : 1048576 < n
  · go_enter Try.func9, Try.ntmps9
    go_wp2
    go_ret
    exact ⟨rfl, by (repeat' (first | (with_reducible exact Below.refl _ _) | (with_reducible assumption) | (with_reducible refine Below.alloc ?_ ?_ _) | (with_reducible refine below_plus ?_ ?_ _ _) | (with_reducible refine Below.drew ?_) | (with_reducible refine Below.setCell ?_ ?_ _) | (with_reducible refine below_adv ?_ ?_ _) | go_size | (simp; done) | (simp; omega)))⟩
  · go_enter Try.func9, Try.ntmps9
    go_wp2_with fail
    refine (drawBestTrips_c A n c bs w _ hS (Nat.le_refl _) hbs).mono ?_
    rintro e w1 ⟨A1, m, c1, xs, room, rfl, hS1, hm, hm0, hm6, hb1⟩
    have hz1 := hb1.size
    obtain ⟨hcm0, hcm1⟩ := hS1.cap
    clear hS hbs
    have c1' := fun room w' (hw : Below w1.heap.size w1 w') => bestTrips_c A1 m c1 xs room w' _ (hS1.below hw) hw.size
    have c2' := fun w' (hw : Below w1.heap.size w1 w') => sBestTrips_c A1 m c1 xs room w' _ (hS1.below hw) hw.size
    obtain ⟨Q, hQ⟩ : ∃ Q, bestN xs room = Q := ⟨_, rfl⟩
    have HQ := Lib.hid hQ
    have hll := bestL_len xs room
    have k1 := c1' room
    have k2 := c1' (room + 1)
    obtain ⟨L, hL⟩ : ∃ L, bestL xs room = L := ⟨_, rfl⟩
    rw [hQ, hL] at k1 c2'
    have C1 := Lib.hid k1
    have C3 := Lib.hid k2
    have C2 := Lib.hid c2'
    clear c1' c2' k1 k2 hQ hL hll
    go_wp2_with fail
    refine (C1.out w1 (Below.refl _ _)).mono ?_
    rintro e w2 ⟨A2, n2, c2, rfl, hW2, hb2⟩
    have hz2 := hb2.size
    have hS2 := hW2.sl
    clear hW2
    go_wp2_with fail
    refine (C2.out w2 hb2).mono ?_
    rintro e w3 ⟨A3, n3, c3, rfl, hW3, hb3⟩
    have hz3 := hb3.size
    have hS3 := hW3.sl
    have hS23 := hS2.below hb3
    have hb13 := hb2.trans (hb3.mono hz2)
    clear hW3 hS2 hb2 hb3
    have E := Lib.hid (fun w' (hw : Below w3.heap.size w3 w') => equalInts_t _ _ _ _ _ _ _ w' _ _ (hS23.below (hw.mono hz3)) (Nat.le_trans hz3 hw.size) (hS3.below hw) hw.size)
    clear hS23 hS3
    go_wp2_with fail
    refine (E.out w3 (Below.refl _ _)).mono ?_
    rintro e w4 ⟨rfl, hb4⟩
    have hz4 := hb4.size
    have hb14 := hb13.trans (hb4.mono (by omega))
    by_cases hq : Q < 0 ∨ room = 5
    · by_cases hneg : Q < 0
      · go_wp2_with fail
        refine (E.out w4 hb4).mono ?_
        rintro e w5 ⟨rfl, hb5⟩
        go_wp2_with fail
        go_ret
        exact ⟨rfl, (hb1.trans (hb14.mono hz1)).trans (hb5.mono (by omega))⟩
      · obtain rfl : room = 5 := by omega
        clear hq
        go_wp2_with fail
        refine (E.out w4 hb4).mono ?_
        rintro e w5 ⟨rfl, hb5⟩
        go_wp2_with fail
        go_ret
        exact ⟨rfl, (hb1.trans (hb14.mono hz1)).trans (hb5.mono (by omega))⟩
    · have hk := bestN_neg (xs := xs) (room := room) (by rw [HQ.out]; omega)
      have hr5 := (bestOk_iff hk).2.2
      have hmo := bestN_more hk (by omega)
      rw [HQ.out] at hmo
      obtain ⟨hq0, hq1, hq2⟩ := hmo
      have hok := (bestOk_iff hk).1
      have hl12 := (tripOk_all hok).1
      rw [hS1.len] at hl12
      have HK := Lib.hid hok
      have HL := Lib.hid hS1.len
      obtain ⟨M, hM⟩ : ∃ M, bestN xs (room + 1) = M := ⟨_, rfl⟩
      rw [hM] at hq1
      have k3 := C3.out
      rw [hM] at k3
      have C3 := Lib.hid k3
      have v1 : (room == 5) = false := by simp; omega
      have HQ2 := Lib.hid hq2
      clear k3 hM hk hok hq hq2 E
      go_wp2_with fail
      refine (C3.out w4 hb14).mono ?_
      rintro e w5 ⟨A5, n5, c5, rfl, -, hb5⟩
      have hz5 := hb5.size
      have hb15 := hb14.trans (hb5.mono (by omega))
      have hS5 := (hS1.below hb15).more (B' := w5.heap.size) (by omega)
      have hb05 := hb1.trans (hb15.mono hz1)
      clear hS1 hb13 hb14 hb15 hb4 hb5 hb1 C1 C2 C3
      go_wp2_with fail
      go_loopw [11, 12] (fun t i wr => ∃ (k : Nat) (tot : Int), k ≤ m ∧ i = .int .i64 k ∧ t = .int .i64 tot ∧ 0 ≤ tot ∧ tot ≤ 90 * k ∧ Hid (singles (xs.take k) = tot) ∧ Below w5.heap.size w5 wr) (fun _ i _ => m - (intOf i).toNat)
      case atStart => exact ⟨0, 0, by omega, rfl, rfl, by omega, by omega, Lib.hid rfl, by (repeat' (first | (with_reducible exact Below.refl _ _) | (with_reducible assumption) | (with_reducible refine Below.alloc ?_ ?_ _) | (with_reducible refine below_plus ?_ ?_ _ _) | (with_reducible refine Below.drew ?_) | (with_reducible refine Below.setCell ?_ ?_ _) | (with_reducible refine below_adv ?_ ?_ _) | go_size | (simp; done) | (simp; omega)))⟩
      case round =>
        obtain ⟨k, tot, hk, rfl, rfl, ht0, ht1, hts, hb⟩ := hrel
        have hzr := hb.size
        by_cases hlt : k < m
        · obtain ⟨b, o, x, rfl, -, hx, -⟩ := hS5.at_ (k := k) (by omega)
          have hsub := ((hS5.below hb).drop (k := k) (by omega)).take (k := 1) (by omega)
          rw [if_neg (by omega)] at hsub
          simp only [Option.map_some, Addr.add_lit] at hsub
          have ct := tripTime_c _ _ _ _ wr _ hsub hzr
          rw [tripF_ok (tripOk_take (tripOk_drop HK.out k) 1), one_take hx] at ct
          have hq := tripN_nn [x]
          have hsn := singles_snoc hx
          rw [hts.out] at hsn
          obtain ⟨T, hTT⟩ : ∃ T, tripN [x] = T := ⟨_, rfl⟩
          rw [hTT] at hq ct hsn
          have CT := Lib.hid ct
          have HG := Lib.hid hsn
          have u1 : (k : Int) + 1 ≤ (c1 : Int) := by omega
          clear hsub hTT hx hts ct hsn
          go_wp2_with fail
          refine CT.out.mono ?_
          rintro e w6 ⟨rfl, hb6⟩
          have hb56 := hb.trans (hb6.mono hzr)
          clear hb6 hb CT
          go_wp2_with fail
          go_roundw
          case rel => exact ⟨k + 1, tot + T, by omega, by go_num, rfl, by omega, by omega, HG, hb56⟩
          case measure => simp [intOf]; omega
        · obtain rfl : k = m := by omega
          have he := hts.out
          rw [List.take_of_length_le (by rw [HL.out]; exact Nat.le_refl _)] at he
          have hq3 := HQ2.out
          rw [he] at hq3
          clear he
          go_wp2_with fail
          go_ret
          exact ⟨rfl, hb05.trans (hb.mono (by omega))⟩
end Go.Proofs.Ytdggdibfgenadaa
