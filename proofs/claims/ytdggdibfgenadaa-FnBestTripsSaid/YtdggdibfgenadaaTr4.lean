/- TripsTime of the program and of the reference. -/
import Derived.Test.YtdggdibfgenadaaTr3
set_option linter.unusedVariables false
set_option linter.unusedSimpArgs false
namespace Go.Proofs.Ytdggdibfgenadaa
open Go.RowKit

/-- The time of trips of the sizes ys, the persons xs left, t so far. -/
def tsL : List Int → List Int → Int → Int
  | xs, [], t => if xs.length = 0 then t else -1
  | xs, y :: ys, t => if inB y 1 xs.length = true then tsL (xs.drop y.toNat) ys (t + tripN (xs.take y.toNat)) else -1
def tripsF (xs ys : List Int) : Int := if tripOk xs = true then tsL xs ys 0 else -1

theorem drop_cons {ys : List Int} {k : Nat} {y : Int} (h : ys[k]? = some y) : ys.drop k = y :: ys.drop (k + 1) := by
  obtain ⟨h1, h2⟩ := List.getElem?_eq_some_iff.1 h
  rw [List.drop_eq_getElem_cons h1, h2]
theorem tsL_bad {xs ys : List Int} {k : Nat} {y t : Int} (h : ys[k]? = some y) (hy : inB y 1 xs.length = false) : tsL xs (ys.drop k) t = -1 := by
  rw [drop_cons h, tsL, hy]; rfl
theorem tsL_ok {xs ys : List Int} {k s : Nat} {t : Int} (h : ys[k]? = some (s : Int)) (hy : inB s 1 xs.length = true) : tsL xs (ys.drop k) t = tsL (xs.drop s) (ys.drop (k + 1)) (t + tripN (xs.take s)) := by
  rw [drop_cons h, tsL, hy]; rfl
theorem tsL_end {xs ys : List Int} {t : Int} : tsL xs (ys.drop ys.length) t = if xs.length = 0 then t else -1 := by
  rw [List.drop_length, tsL]
theorem inB_iff {x lo hi : Int} (h : inB x lo hi = true) : lo ≤ x ∧ x ≤ hi := by
  simpa [inB] using h
theorem tripOk_take {xs : List Int} (h : tripOk xs = true) (k : Nat) : tripOk (xs.take k) = true :=
  tripOk_of h (by have := (tripOk_all h).1; simp; omega) fun y hy => List.mem_of_mem_take hy
theorem tripOk_drop {xs : List Int} (h : tripOk xs = true) (k : Nat) : tripOk (xs.drop k) = true :=
  tripOk_of h (by have := (tripOk_all h).1; simp; omega) fun y hy => List.mem_of_mem_drop hy

set_option maxHeartbeats 2000000 in
theorem tripsTime_c (A : Option Addr) (n c : Nat) (xs : List Int) (A2 : Option Addr) (n2 c2 : Nat) (ys : List Int) (w : World) (B : Nat) (hS : Sl w B ILit A n c xs) (hT : Sl w B ILit A2 n2 c2 ys) (hB : B ≤ w.heap.size) (hn2 : n2 ≤ 1099511627776) :
    Calls Try.prog 16 #[.slice A n c, .slice A2 n2 c2] w fun e w' => e = .returned (.int .i64 (tripsF xs ys)) ∧ Below w.heap.size w w' := by
  obtain ⟨hc0, hc1⟩ := hS.cap
  obtain ⟨hc2, hc3⟩ := hT.cap
  have cv := validTrip_c A n c xs w B hS hB
  cases hok : tripOk xs
  · have e : tripsF xs ys = -1 := by simp [tripsF, hok]
    rw [hok] at cv
    have CV := Lib.hid cv
    rw [e]
    clear e hok cv
    go_enter Try.func16, Try.ntmps16
    go_wp2_with fail
    refine CV.out.mono ?_
    rintro e w1 ⟨rfl, hb1⟩
    go_wp2_with fail
    go_ret
    exact ⟨rfl, hb1⟩
  · have e : tripsF xs ys = tsL xs ys 0 := by simp [tripsF, hok]
    have HL := Lib.hid hT.len
    obtain ⟨R, hR⟩ : ∃ R, tsL xs ys 0 = R := ⟨_, rfl⟩
    have HR := Lib.hid hR
    have HK := Lib.hid hok
    have hl := hS.len
    have h12 := (tripOk_all hok).1
    rw [hl] at h12
    rw [hok] at cv
    have CV := Lib.hid cv
    rw [e, hR]
    clear e hok cv hR hl
    have hS0 := hS.more hB
    have hT0 := hT.more hB
    clear hS hT
    go_enter Try.func16, Try.ntmps16
    go_wp2_with fail
    refine CV.out.mono ?_
    rintro e w1 ⟨rfl, hb1⟩
    have hz := hb1.size
    have hS1 := hS0.below hb1
    clear hS0 CV
    go_wp2_with fail
    go_loopw [0, 5, 13] (fun l s i wr => ∃ (k n' c' : Nat) (A' : Option Addr) (rem : List Int) (tot : Int), k ≤ n2 ∧ i = .int .i64 k ∧ s = .int .i64 tot ∧ l = .slice A' n' c' ∧ 0 ≤ tot ∧ tot ≤ 90 * k ∧ n' ≤ 12 ∧ Sl wr w.heap.size ILit A' n' c' rem ∧ Hid (tripOk rem = true) ∧ Hid (tsL rem (ys.drop k) tot = R) ∧ Below w.heap.size w wr) (fun _ _ i _ => n2 - (intOf i).toNat)
    case atStart => exact ⟨0, n, c, A, xs, 0, by omega, rfl, rfl, rfl, by omega, by omega, h12, hS1, HK, HR, hb1⟩
    case round =>
      obtain ⟨k, n', c', A', rem, tot, hk, rfl, rfl, rfl, ht0, ht1, hn12, hSr, hKr, hRr, hb⟩ := hrel
      obtain ⟨hd0, hd1⟩ := hSr.cap
      have hlr := hSr.len
      by_cases hlt : k < n2
      · obtain ⟨b2, o2, y, rfl, hbl, hy, hcell⟩ := (hT0.below hb).at_ hlt
        have hcell' : wr.cell? ⟨b2, o2 + k, none⟩ = some (.int .i64 y) := hcell
        have cw := fun w => within_c y 1 n' w
        clear hcell hT0 hS1
        cases hp : inB y 1 n'
        · have hbad := tsL_bad (xs := rem) (t := tot) hy (by rw [hlr]; exact hp)
          rw [hRr.out] at hbad
          have HB := Lib.hid hbad
          rw [hp] at cw
          have CW := Lib.hid cw
          clear cw hp hy hbad hlr
          go_wp2_with (go_at_call 30; refine (CW.out _).mono ?_; rintro e w' ⟨rfl, rfl⟩)
          go_ret
          exact ⟨by rw [HB.out]; rfl, by (repeat' (first | (with_reducible exact Below.refl _ _) | (with_reducible assumption) | (with_reducible refine Below.alloc ?_ ?_ _) | (with_reducible refine below_plus ?_ ?_ _ _) | (with_reducible refine Below.drew ?_) | (with_reducible refine Below.setCell ?_ ?_ _) | (with_reducible refine below_adv ?_ ?_ _) | go_size | (simp; done) | (simp; omega)))⟩
        · obtain ⟨hy1, hy2⟩ := inB_iff hp
          obtain ⟨s, rfl⟩ := Int.eq_ofNat_of_zero_le (show 0 ≤ y by omega)
          have hgo := tsL_ok (xs := rem) (t := tot) hy (by rw [hlr]; exact hp)
          rw [hRr.out] at hgo
          have hst := hSr.take (k := s) (by omega)
          have hsd := hSr.drop (k := s) (by omega)
          have hq := tripN_nn (rem.take s)
          have ct := fun w' (hw : Below wr.heap.size wr w') => tripTime_c _ _ _ _ w' _ ((hst.more hb.size).below hw) hw.size
          rw [tripF_ok (tripOk_take hKr.out s)] at ct
          have hKd := Lib.hid (tripOk_drop hKr.out s)
          obtain ⟨T, hTT⟩ : ∃ T, tripN (rem.take s) = T := ⟨_, rfl⟩
          rw [hTT] at hgo hq ct
          have HG := Lib.hid hgo.symm
          have CT := Lib.hid ct
          rw [hp] at cw
          have CW := Lib.hid cw
          obtain ⟨b, o, x0, rfl, -, -, -⟩ := hSr.at_ (k := 0) (by omega)
          have hs0 : ¬ s = 0 := by omega
          have hzr := hb.size
          have hss : (s : Int) ≤ n' := by omega
          have hs1 : (0 : Int) ≤ s := by omega
          clear cw hp hy hgo hst hTT hSr ct hlr
          go_wp2_with (go_at_call 30; refine (CW.out _).mono ?_; rintro e w' ⟨rfl, rfl⟩)
          refine (CT.out _ (by (repeat' (first | (with_reducible exact Below.refl _ _) | (with_reducible assumption) | (with_reducible refine Below.alloc ?_ ?_ _) | (with_reducible refine below_plus ?_ ?_ _ _) | (with_reducible refine Below.drew ?_) | (with_reducible refine Below.setCell ?_ ?_ _) | (with_reducible refine below_adv ?_ ?_ _) | go_size | (simp; done) | (simp; omega))))).mono ?_
          rintro e w3 ⟨rfl, hb3⟩
          have hb3' : Below wr.heap.size wr w3 := hb3
          have hbb := hb.trans (hb3'.mono hzr)
          by_cases hcs : c' = s
          · rw [if_pos hcs] at hsd
            have hsd3 := hsd.below (hb3'.mono hzr)
            clear hb3 hsd CT CW
            go_wp2_with fail
            go_roundw
            case rel => exact ⟨k + 1, n' - s, c' - s, _, _, tot + T, by omega, by go_num, by go_num, by rw [hcs]; go_num, by omega, by omega, by omega, hsd3, hKd, HG, hbb⟩
            case measure => simp [intOf]; omega
          · rw [if_neg hcs] at hsd
            simp only [Option.map_some, Addr.add, if_neg hs0] at hsd
            have hsd3 := hsd.below (hb3'.mono hzr)
            clear hb3 hsd CT CW
            go_wp2_with fail
            go_roundw
            case rel => exact ⟨k + 1, n' - s, c' - s, _, _, tot + T, by omega, by go_num, by go_num, by rfl, by omega, by omega, by omega, hsd3, hKd, HG, hbb⟩
            case measure => simp [intOf]; omega
      · obtain rfl : k = n2 := by omega
        have he := hRr.out
        rw [← HL.out, tsL_end, hlr] at he
        by_cases hn0 : n' = 0
        · rw [if_pos hn0] at he
          subst he hn0
          go_wp2_with fail
          go_ret
          exact ⟨rfl, hb⟩
        · rw [if_neg hn0] at he
          have HE := Lib.hid he
          clear he
          go_wp2_with fail
          go_ret
          exact ⟨by rw [← HE.out]; rfl, hb⟩
end Go.Proofs.Ytdggdibfgenadaa
