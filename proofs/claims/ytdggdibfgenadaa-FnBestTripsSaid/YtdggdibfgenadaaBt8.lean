/- The generator of TripsTime's arguments; the law TripsTime. -/
import Derived.Test.YtdggdibfgenadaaBt7
import Derived.Test.YtdggdibfgenadaaTr5
set_option linter.unusedVariables false
set_option linter.unusedSimpArgs false
namespace Go.Proofs.Ytdggdibfgenadaa
open Go.RowKit

def TwoDrawn (w : World) (e : Ending) (w' : World) : Prop :=
  ∃ A n c xs A2 n2 c2 ys, e = .returned (.tuple #[.slice A n c, .slice A2 n2 c2]) ∧ Sl w' w'.heap.size ILit A n c xs ∧ Sl w' w'.heap.size ILit A2 n2 c2 ys ∧ n ≤ 14 ∧ n2 ≤ 16 ∧ Below w.heap.size w w'

theorem bestL_len (xs : List Int) (room : Int) : (bestL xs room).length ≤ 12 := by
  unfold bestL
  split
  · rename_i h
    obtain ⟨h1, h2, h3⟩ := bestOk_iff h
    have e1 := (bestSizes_all room.toNat (by omega) _ (sortI xs) (Nat.le_refl _)).2.1
    have e2 := (tripOk_all h1).1
    have e3 := sortI_len xs
    omega
  · simp

set_option maxHeartbeats 2000000 in
theorem drawTripsTime_c (A : Option Addr) (n c : Nat) (bs : List Int) (w : World) (hS : Sl w w.heap.size BLit A n c bs) (hbs : ∀ x ∈ bs, 0 ≤ x ∧ x ≤ 255) :
    Calls Try.prog 18 #[.slice A n c] w (TwoDrawn w) := by
  have HBS := Lib.hid hbs
  clear hbs
  go_enter Try.func18, Try.ntmps18
  go_wp2_with fail
  refine (newReader_c w A n c _ bs hS (Nat.le_refl _) HBS.out).mono ?_
  rintro e w1 ⟨r, A1, n1, c1, bs1, rfl, hw1, hR, hr0, hr1⟩
  have hlt := hR.lt
  have hb1 : Below w.heap.size w w1 := by rw [← hw1]; exact (Below.refl _ _).alloc (Nat.le_refl _) _
  have hz1 := hb1.size
  clear hw1
  go_wp2_with fail
  refine (drawBestTrips_c A n c bs w1 _ (hS.below hb1) hz1 HBS.out).mono ?_
  rintro e w2 ⟨A2, n2, c2, xs, room, rfl, hS2, hn2, hm0, hm6, hb2⟩
  have hz2 := hb2.size
  clear hS
  go_wp2_with fail
  refine (sBestTrips_c A2 n2 c2 xs room w2 _ hS2 (Nat.le_refl _)).mono ?_
  rintro e w3 ⟨A3, n3, c3, rfl, hW3, hb3⟩
  have hz3 := hb3.size
  have hn3 : n3 ≤ 12 := by have := hW3.len; have := bestL_len xs room; omega
  have hT3 := hW3.sl
  have hS3 := hS2.below hb3
  have hb13 := hb2.trans (hb3.mono hz2)
  obtain ⟨L, hL⟩ : ∃ L, bestL xs room = L := ⟨_, rfl⟩
  obtain ⟨Q, hQ⟩ : ∃ Q, bestN xs room = Q := ⟨_, rfl⟩
  rw [hL] at hT3
  rw [hQ]
  clear hW3 hS2 hb2 hb3 hL hQ
  by_cases hneg : Q < 0
  · go_wp2_with fail
    have hT4 := Sl.new w3 ILit [(n2 : Int)] 3 (by simp)
    have hS4 := (hS3.more (B' := w3.heap.size) hz3).alloc (Nat.le_refl _) (.cells ([(n2 : Int)].map ILit).toArray 3)
    have hb4 : Below w1.heap.size w1 (w3.alloc (.cells ([(n2 : Int)].map ILit).toArray 3)) := hb13.alloc (by omega) _
    obtain ⟨w4, hw4⟩ : ∃ w4, w3.alloc (.cells ([(n2 : Int)].map ILit).toArray 3) = w4 := ⟨_, rfl⟩
    have hz4 : w4.heap.size = w3.heap.size + 1 := by rw [← hw4]; simp
    have hw4' : w3.alloc (.cells #[.int .i64 (n2 : Int)] 3) = w4 := hw4
    rw [hw4] at hT4 hS4 hb4
    rw [hw4']
    have hz4' : w3.heap.size < w4.heap.size := by omega
    clear hw4 hw4' hT3 hS3 hb13 hz4
    refine (sorted_c A2 n2 c2 xs w4 w3.heap.size hS4 (by omega) (by omega)).mono ?_
    rintro e w5 ⟨A5, c5, rfl, hW5, hb5⟩
    have hz5 := hb5.size
    have hb15 := hb4.trans (hb5.mono (by omega))
    have hT5 := hT4.below (hb5.mono (by omega))
    have hR5 := hR.below hb15 hlt
    clear hT4 hS4 hb4 hb5 hR
    go_wp2_with fail
    refine (spoil_c w5 r n1 c1 0 A1 bs1 hR5 (by omega) _ _ _ (w3.heap.size + 1) _ 2 hT5 (by omega) (by simp)).mono ?_
    rintro e w6 ⟨A6, n6, c6, q6, ys, rfl, hS6, hn6, hq6, hb6, hlo6⟩
    have hW6 : Ow w6 w4.heap.size 3 ILit A5 n2 c5 (sortI xs) := hW5.keep fun g hb hg _ => (hb6.block g hg).trans (heap_adv _ _ _ _ (by omega))
    have hb06 : Below w.heap.size w w6 := (below_adv (hb1.trans (hb15.mono hz1)) hr0 q6).trans (hb6.mono (by omega))
    have hn6' : n6 ≤ 16 := by simp at hn6; omega
    clear hW5 hb6 hlo6 hb15 hb1 hT5 hR5
    go_wp2_with fail
    go_ret2
    exact ⟨_, _, _, _, _, _, _, _, rfl, hW6.sl, hS6, hn2, hn6', hb06⟩
  · go_wp2_with fail
    refine (sorted_c A2 n2 c2 xs w3 _ hS3 (by omega) (by omega)).mono ?_
    rintro e w5 ⟨A5, c5, rfl, hW5, hb5⟩
    have hz5 := hb5.size
    have hb15 := hb13.trans (hb5.mono (by omega))
    have hT5 := hT3.below (hb5.mono (by omega))
    have hR5 := hR.below hb15 hlt
    clear hT3 hS3 hb13 hb5 hR
    go_wp2_with fail
    refine (spoil_c w5 r n1 c1 0 A1 bs1 hR5 (by omega) _ _ _ _ _ 2 hT5 (by omega) (by omega)).mono ?_
    rintro e w6 ⟨A6, n6, c6, q6, ys, rfl, hS6, hn6, hq6, hb6, hlo6⟩
    have hW6 : Ow w6 w3.heap.size 3 ILit A5 n2 c5 (sortI xs) := hW5.keep fun g hb hg _ => (hb6.block g hg).trans (heap_adv _ _ _ _ (by omega))
    have hb06 : Below w.heap.size w w6 := (below_adv (hb1.trans (hb15.mono hz1)) hr0 q6).trans (hb6.mono (by omega))
    have hn6' : n6 ≤ 16 := by omega
    clear hW5 hb6 hlo6 hb15 hb1 hT5 hR5
    go_wp2_with fail
    go_ret2
    exact ⟨_, _, _, _, _, _, _, _, rfl, hW6.sl, hS6, hn2, hn6', hb06⟩

theorem tsL_in {xs ys : List Int} {k : Nat} {y t : Int} (h : ys[k]? = some y) (hr : 0 ≤ tsL xs (ys.drop k) t) : inB y 1 xs.length = true := by
  cases hi : inB y 1 xs.length
  · rw [tsL_bad h hi] at hr
    omega
  · rfl

set_option maxHeartbeats 2000000 in
theorem tripsTimeLaw_walk (A : Option Addr) (n c : Nat) (bs : List Int) (w : World) (hS : Sl w w.heap.size BLit A n c bs) (hbs : ∀ x ∈ bs, 0 ≤ x ∧ x ≤ 255) :
    Calls Try.prog 7 #[.slice A n c] w fun e w' => e = .returned (.bool true) ∧ Below w.heap.size w w' := by
  obtain ⟨hc0, hc1⟩ := hS.cap
  by_cases hn : 1048576 < n
  · go_enter Try.func7, Try.ntmps7
    go_wp2
    go_ret
    exact ⟨rfl, by (repeat' (first | (with_reducible exact Below.refl _ _) | (with_reducible assumption) | (with_reducible refine Below.alloc ?_ ?_ _) | (with_reducible refine below_plus ?_ ?_ _ _) | (with_reducible refine Below.drew ?_) | (with_reducible refine Below.setCell ?_ ?_ _) | (with_reducible refine below_adv ?_ ?_ _) | go_size | (simp; done) | (simp; omega)))⟩
  · go_enter Try.func7, Try.ntmps7
    go_wp2_with fail
    refine (drawTripsTime_c A n c bs w hS hbs).mono ?_
    rintro e w1 ⟨A1, m, c1, xs, A2, m2, c2, ys, rfl, hS1, hT1, hm, hm2, hb1⟩
    have hz1 := hb1.size
    obtain ⟨hcm0, hcm1⟩ := hS1.cap
    obtain ⟨hcn0, hcn1⟩ := hT1.cap
    clear hS hbs
    have c1' := fun w' (hw : Below w1.heap.size w1 w') => tripsTime_c A1 m c1 xs A2 m2 c2 ys w' _ (hS1.below hw) (hT1.below hw) hw.size (by omega)
    have c2' := fun w' (hw : Below w1.heap.size w1 w') => sTripsTime_c A1 m c1 xs A2 m2 c2 ys w' _ (hS1.below hw) (hT1.below hw) hw.size (by omega)
    obtain ⟨R, hR⟩ : ∃ R, tripsF xs ys = R := ⟨_, rfl⟩
    rw [hR] at c1' c2'
    have HR := Lib.hid hR
    have C1 := Lib.hid c1'
    have C2 := Lib.hid c2'
    clear c1' c2' hR
    go_wp2_with fail
    refine (C1.out w1 (Below.refl _ _)).mono ?_
    rintro e w2 ⟨rfl, hb2⟩
    have hz2 := hb2.size
    go_wp2_with fail
    refine (C2.out w2 hb2).mono ?_
    rintro e w3 ⟨rfl, hb3⟩
    have hz3 := hb3.size
    have hb13 := hb2.trans (hb3.mono hz2)
    by_cases hneg : R < 0
    · go_wp2_with fail
      refine (C2.out w3 hb13).mono ?_
      rintro e w4 ⟨rfl, hb4⟩
      go_wp2_with fail
      go_ret
      exact ⟨rfl, (hb1.trans (hb13.mono hz1)).trans (hb4.mono (by omega))⟩
    · have hok : tripOk xs = true := by
        cases h : tripOk xs
        · have e := HR.out
          rw [tripsF, h] at e
          simp at e; omega
        · rfl
      have h0 : Hid (tsL xs (ys.drop 0) 0 = R) := Lib.hid (by have e := HR.out; rw [tripsF, if_pos hok] at e; exact e)
      have hl12 := (tripOk_all hok).1
      rw [hS1.len] at hl12
      have HK := Lib.hid hok
      have HL := Lib.hid hS1.len
      have HL2 := Lib.hid hT1.len
      have hS3 := (hS1.below hb13).more (B' := w3.heap.size) (by omega)
      have hT3 := (hT1.below hb13).more (B' := w3.heap.size) (by omega)
      have hb03 := hb1.trans (hb13.mono hz1)
      clear hS1 hT1 hok hb13 hb1 hb2 hb3 C1 C2
      go_wp2_with fail
      go_loopw [6, 7, 8] (fun t at_ i wr => ∃ (k p : Nat) (tot : Int), k ≤ m2 ∧ p ≤ m ∧ i = .int .i64 k ∧ at_ = .int .i64 p ∧ t = .int .i64 tot ∧ 0 ≤ tot ∧ tot ≤ 90 * k ∧ Hid (tsL (xs.drop p) (ys.drop k) tot = R) ∧ Below w3.heap.size w3 wr) (fun _ _ i _ => m2 - (intOf i).toNat)
      case atStart => exact ⟨0, 0, 0, by omega, by omega, rfl, rfl, rfl, by omega, by omega, h0, by (repeat' (first | (with_reducible exact Below.refl _ _) | (with_reducible assumption) | (with_reducible refine Below.alloc ?_ ?_ _) | (with_reducible refine below_plus ?_ ?_ _ _) | (with_reducible refine Below.drew ?_) | (with_reducible refine Below.setCell ?_ ?_ _) | (with_reducible refine below_adv ?_ ?_ _) | go_size | (simp; done) | (simp; omega)))⟩
      case round =>
        clear h0
        obtain ⟨k, p, tot, hk, hp, rfl, rfl, rfl, ht0, ht1, hts, hb⟩ := hrel
        have hzr := hb.size
        by_cases hlt : k < m2
        · obtain ⟨b2, o2, y, rfl, hbl2, hy, hcell⟩ := (hT3.below hb).at_ hlt
          have hin := tsL_in (xs := xs.drop p) (t := tot) hy (by rw [hts.out]; omega)
          have hin' := inB_iff hin
          have hlp : ((xs.drop p).length : Int) = (m : Int) - p := by simp [HL.out]; omega
          rw [hlp] at hin'
          obtain ⟨hy1, hy2⟩ := hin'
          obtain ⟨s, rfl⟩ := Int.eq_ofNat_of_zero_le (show 0 ≤ y by omega)
          have hgo := tsL_ok (xs := xs.drop p) (t := tot) hy hin
          rw [hts.out, List.drop_drop] at hgo
          have hq := tripN_nn ((xs.drop p).take s)
          have hcell' : wr.cell? ⟨b2, o2 + k, none⟩ = some (.int .i64 (s : Int)) := hcell
          obtain ⟨b, o, x0, rfl, -, -, -⟩ := hS3.at_ (k := p) (by omega)
          have hsub := ((hS3.below hb).drop (k := p) (by omega)).take (k := s) (by omega)
          rw [if_neg (by omega)] at hsub
          simp only [Option.map_some, Addr.add_lit] at hsub
          have ct := tripTime_c _ _ _ _ wr _ hsub hzr
          rw [tripF_ok (tripOk_take (tripOk_drop HK.out p) s)] at ct
          obtain ⟨T, hTT⟩ : ∃ T, tripN ((xs.drop p).take s) = T := ⟨_, rfl⟩
          rw [hTT] at hgo hq ct
          have CT := Lib.hid ct
          have HG : Hid (tsL (xs.drop (p + s)) (ys.drop (k + 1)) (tot + T) = R) := Lib.hid hgo.symm
          have u1 : (p : Int) + (s : Int) ≤ (m : Int) := by omega
          have u2 : (p : Int) + (s : Int) ≤ (c1 : Int) := by omega
          have hbw2 : b2 < wr.heap.size := by omega
          clear hcell hin hgo hsub hTT hy hts ct hlp
          go_wp2_with fail
          refine CT.out.mono ?_
          rintro e w5 ⟨rfl, hb5⟩
          have hz5 := hb5.size
          have hc5 : w5.cell? ⟨b2, o2 + k, none⟩ = some (.int .i64 (s : Int)) := (hb5.cell (p := ⟨b2, o2 + k, none⟩) hbw2).trans hcell'
          have hb35 := hb.trans (hb5.mono hzr)
          clear hb5 hb CT hcell'
          go_wp2_with fail
          go_roundw
          case rel => exact ⟨k + 1, p + s, tot + T, by omega, by omega, by go_num, by go_num, rfl, by omega, by omega, HG, hb35⟩
          case measure => simp [intOf]; omega
        · obtain rfl : k = m2 := by omega
          have he := hts.out
          rw [← HL2.out, tsL_end] at he
          have hpm : p = m ∧ tot = R := by
            split at he
            · rename_i h
              simp [HL.out] at h
              exact ⟨by omega, he⟩
            · omega
          obtain ⟨rfl, rfl⟩ := hpm
          clear he
          go_wp2_with fail
          go_ret
          exact ⟨rfl, hb03.trans (hb.mono (by omega))⟩
end Go.Proofs.Ytdggdibfgenadaa
