/- TripsTime of the reference, and its exact law. -/
import Derived.Test.YtdggdibfgenadaaTr4
set_option linter.unusedVariables false
set_option linter.unusedSimpArgs false
namespace Go.Proofs.Ytdggdibfgenadaa
open Go.RowKit

theorem tsL_long (ys : List Int) : ∀ (xs : List Int) (t : Int), xs.length < ys.length → tsL xs ys t = -1 := by
  induction ys with
  | nil => intro xs t h; exact absurd h (by simp)
  | cons y ys ih =>
    intro xs t h
    rw [tsL]
    cases hp : inB y 1 xs.length
    · rfl
    · have := inB_iff hp
      rw [if_pos rfl]
      refine ih _ _ ?_
      rw [List.length_drop]
      simp at h
      omega

set_option maxHeartbeats 2000000 in
theorem sTripsTime_c (A : Option Addr) (n c : Nat) (xs : List Int) (A2 : Option Addr) (n2 c2 : Nat) (ys : List Int) (w : World) (B : Nat) (hS : Sl w B ILit A n c xs) (hT : Sl w B ILit A2 n2 c2 ys) (hB : B ≤ w.heap.size) (hn2 : n2 ≤ 1099511627776) :
    Calls Try.prog 15 #[.slice A n c, .slice A2 n2 c2] w fun e w' => e = .returned (.int .i64 (tripsF xs ys)) ∧ Below w.heap.size w w' := by
  obtain ⟨hc0, hc1⟩ := hS.cap
  obtain ⟨hc2, hc3⟩ := hT.cap
  have cv := validTrips_c A n c xs w B hS hB
  cases hok : tripOk xs
  · have e : tripsF xs ys = -1 := by simp [tripsF, hok]
    rw [hok] at cv
    have CV := Lib.hid cv
    rw [e]
    clear e hok cv
    go_enter Try.func15, Try.ntmps15
    go_wp2_with fail
    refine CV.out.mono ?_
    rintro e w1 ⟨rfl, hb1⟩
    go_wp2_with fail
    go_ret
    exact ⟨rfl, hb1⟩
  · have e : tripsF xs ys = tsL xs ys 0 := by simp [tripsF, hok]
    rw [hok] at cv
    have CV := Lib.hid cv
    by_cases hlong : n < n2
    · have e2 := tsL_long ys xs 0 (by rw [hS.len, hT.len]; exact hlong)
      rw [e, e2]
      clear e e2 cv
      go_enter Try.func15, Try.ntmps15
      go_wp2_with fail
      refine CV.out.mono ?_
      rintro e w1 ⟨rfl, hb1⟩
      go_wp2_with fail
      go_ret
      exact ⟨rfl, hb1⟩
    · have HL := Lib.hid hT.len
      obtain ⟨R, hR⟩ : ∃ R, tsL xs ys 0 = R := ⟨_, rfl⟩
      have HR := Lib.hid hR
      have hl := hS.len
      have h12 := (tripOk_all hok).1
      rw [hl] at h12
      have HX := Lib.hid hl
      rw [e, hR]
      clear e hok cv hR hl
      have hS0 := hS.more hB
      have hT0 := hT.more hB
      clear hS hT
      go_enter Try.func15, Try.ntmps15
      go_wp2_with fail
      refine CV.out.mono ?_
      rintro e w1 ⟨rfl, hb1⟩
      clear CV
      go_wp2_with fail
      go_loopw [5, 6, 7] (fun s l i wr => ∃ (k a : Nat) (tot : Int), k ≤ n2 ∧ i = .int .i64 k ∧ s = .int .i64 tot ∧ l = .int .i64 a ∧ 0 ≤ tot ∧ tot ≤ 90 * k ∧ a ≤ n ∧ Hid (tsL (xs.drop a) (ys.drop k) tot = R) ∧ Below w.heap.size w wr) (fun _ _ i _ => n2 - (intOf i).toNat)
      case atStart => exact ⟨0, 0, 0, by omega, rfl, rfl, rfl, by omega, by omega, by omega, HR, by (repeat' (first | (with_reducible exact Below.refl _ _) | (with_reducible assumption) | (with_reducible refine Below.alloc ?_ ?_ _) | (with_reducible refine below_plus ?_ ?_ _ _) | (with_reducible refine Below.drew ?_) | (with_reducible refine Below.setCell ?_ ?_ _) | (with_reducible refine below_adv ?_ ?_ _) | go_size | (simp; done) | (simp; omega)))⟩
      case round =>
        obtain ⟨k, a, tot, hk, rfl, rfl, rfl, ht0, ht1, han, hRr, hb⟩ := hrel
        have hlr : (xs.drop a).length = n - a := by rw [List.length_drop, HX.out]
        have hcast : ((n - a : Nat) : Int) = (n : Int) - a := by omega
        by_cases hlt : k < n2
        · obtain ⟨b2, o2, y, rfl, hbl, hy, hcell⟩ := (hT0.below hb).at_ hlt
          have hcell' : wr.cell? ⟨b2, o2 + k, none⟩ = some (.int .i64 y) := hcell
          have cw := fun w => inRange_c y 1 ((n : Int) - a) w
          clear hcell hT0
          cases hp : inB y 1 ((n : Int) - a)
          · have hbad := tsL_bad (xs := xs.drop a) (t := tot) hy (by rw [hlr, hcast]; exact hp)
            rw [hRr.out] at hbad
            have HB := Lib.hid hbad
            rw [hp] at cw
            have CW := Lib.hid cw
            clear cw hp hy hbad hlr hcast
            go_wp2_with (go_at_call 29; refine (CW.out _).mono ?_; rintro e w' ⟨rfl, rfl⟩)
            go_ret
            exact ⟨by rw [HB.out]; rfl, by (repeat' (first | (with_reducible exact Below.refl _ _) | (with_reducible assumption) | (with_reducible refine Below.alloc ?_ ?_ _) | (with_reducible refine below_plus ?_ ?_ _ _) | (with_reducible refine Below.drew ?_) | (with_reducible refine Below.setCell ?_ ?_ _) | (with_reducible refine below_adv ?_ ?_ _) | go_size | (simp; done) | (simp; omega)))⟩
          · obtain ⟨hy1, hy2⟩ := inB_iff hp
            obtain ⟨s, rfl⟩ := Int.eq_ofNat_of_zero_le (show 0 ≤ y by omega)
            have hgo := tsL_ok (xs := xs.drop a) (t := tot) hy (by rw [hlr, hcast]; exact hp)
            rw [hRr.out, List.drop_drop] at hgo
            have hst := ((hS0.below hb).drop (k := a) (by omega)).take (k := s) (by omega)
            rw [if_neg (by omega)] at hst
            have hq := tripN_nn ((xs.drop a).take s)
            obtain ⟨b, o, x0, rfl, -, -, -⟩ := hS0.at_ (k := 0) (by omega)
            simp only [Option.map_some, Addr.add] at hst
            obtain ⟨T, hTT⟩ : ∃ T, tripN ((xs.drop a).take s) = T := ⟨_, rfl⟩
            have hzr := hb.size
            rw [hTT] at hgo hq
            have HG := Lib.hid hgo.symm
            rw [hp] at cw
            have CW := Lib.hid cw
            clear cw hp hy hgo hlr hcast
            by_cases ha0 : a = 0
            · subst ha0
              simp only [if_true, Nat.sub_zero] at hst
              have ct := fun w' (hw : Below wr.heap.size wr w') => tripOf_c _ _ _ _ w' _ ((hst.more hzr).below hw) hw.size (by omega)
              rw [hTT] at ct
              have CT := Lib.hid ct
              clear ct hst hTT
              go_wp2_with (go_at_call 29; refine (CW.out _).mono ?_; rintro e w' ⟨rfl, rfl⟩)
              refine (CT.out _ (by (repeat' (first | (with_reducible exact Below.refl _ _) | (with_reducible assumption) | (with_reducible refine Below.alloc ?_ ?_ _) | (with_reducible refine below_plus ?_ ?_ _ _) | (with_reducible refine Below.drew ?_) | (with_reducible refine Below.setCell ?_ ?_ _) | (with_reducible refine below_adv ?_ ?_ _) | go_size | (simp; done) | (simp; omega))))).mono ?_
              rintro e w3 ⟨rfl, hb3⟩
              have hb3' : Below wr.heap.size wr w3 := hb3
              have hbb := hb.trans (hb3'.mono hzr)
              have hc3 : w3.cell? ⟨b2, o2 + k, none⟩ = some (.int .i64 s) := (hb3'.cell (p := ⟨b2, o2 + k, none⟩) (by show b2 < _; omega)).trans hcell'
              clear hb3 CT CW
              go_wp2_with fail
              go_roundw
              case rel => exact ⟨k + 1, 0 + s, tot + T, by omega, by go_num, by go_num, by go_num, by omega, by omega, by omega, HG, hbb⟩
              case measure => simp [intOf]; omega
            · simp only [if_neg ha0] at hst
              have ct := fun w' (hw : Below wr.heap.size wr w') => tripOf_c _ _ _ _ w' _ ((hst.more hzr).below hw) hw.size (by omega)
              rw [hTT] at ct
              have CT := Lib.hid ct
              clear ct hst hTT
              go_wp2_with (go_at_call 29; refine (CW.out _).mono ?_; rintro e w' ⟨rfl, rfl⟩)
              refine (CT.out _ (by (repeat' (first | (with_reducible exact Below.refl _ _) | (with_reducible assumption) | (with_reducible refine Below.alloc ?_ ?_ _) | (with_reducible refine below_plus ?_ ?_ _ _) | (with_reducible refine Below.drew ?_) | (with_reducible refine Below.setCell ?_ ?_ _) | (with_reducible refine below_adv ?_ ?_ _) | go_size | (simp; done) | (simp; omega))))).mono ?_
              rintro e w3 ⟨rfl, hb3⟩
              have hb3' : Below wr.heap.size wr w3 := hb3
              have hbb := hb.trans (hb3'.mono hzr)
              have hc3 : w3.cell? ⟨b2, o2 + k, none⟩ = some (.int .i64 s) := (hb3'.cell (p := ⟨b2, o2 + k, none⟩) (by show b2 < _; omega)).trans hcell'
              clear hb3 CT CW
              go_wp2_with fail
              go_roundw
              case rel => exact ⟨k + 1, a + s, tot + T, by omega, by go_num, by go_num, by go_num, by omega, by omega, by omega, HG, hbb⟩
              case measure => simp [intOf]; omega
        · obtain rfl : k = n2 := by omega
          have he := hRr.out
          rw [← HL.out, tsL_end, hlr] at he
          by_cases hn0 : a = n
          · rw [if_pos (by omega)] at he
            subst he hn0
            go_wp2_with fail
            go_ret
            exact ⟨rfl, hb⟩
          · rw [if_neg (by omega)] at he
            have HE := Lib.hid he
            clear he
            go_wp2_with fail
            go_ret
            exact ⟨by rw [← HE.out]; rfl, hb⟩
end Go.Proofs.Ytdggdibfgenadaa
