/- TripTime: what it computes, in the program and in the reference. -/
import Derived.Test.YtdggdibfgenadaaIn
set_option linter.unusedVariables false
set_option linter.unusedSimpArgs false
namespace Go.Proofs.Ytdggdibfgenadaa
open Go.RowKit

/-- The number of different floors in 1..f, and the highest. -/
def stopsU (xs : List Int) : Nat → Int
  | 0 => 0
  | f + 1 => if ((f + 1 : Nat) : Int) ∈ xs then stopsU xs f + 1 else stopsU xs f
def mostU (xs : List Int) : Nat → Int
  | 0 => 0
  | f + 1 => if ((f + 1 : Nat) : Int) ∈ xs then ((f + 1 : Nat) : Int) else mostU xs f
def tripN (xs : List Int) : Int := 2 * mostU xs 15 + 4 * stopsU xs 15
def tripOk (xs : List Int) : Bool := decide (xs.length ≤ 12) && allB xs 1 15
def tripF (xs : List Int) : Int := if tripOk xs = true then tripN xs else -1

theorem stopsU_le (xs : List Int) (f : Nat) : 0 ≤ stopsU xs f ∧ stopsU xs f ≤ f := by
  induction f with
  | zero => exact ⟨Int.le_refl _, Int.le_refl _⟩
  | succ f ih => unfold stopsU; split <;> omega
theorem mostU_le (xs : List Int) (f : Nat) : 0 ≤ mostU xs f ∧ mostU xs f ≤ f := by
  induction f with
  | zero => exact ⟨Int.le_refl _, Int.le_refl _⟩
  | succ f ih => unfold mostU; split <;> omega
theorem stopsU_nil (f : Nat) : stopsU [] f = 0 := by
  induction f with
  | zero => rfl
  | succ f ih => simp [stopsU, ih]
theorem mostU_nil (f : Nat) : mostU [] f = 0 := by
  induction f with
  | zero => rfl
  | succ f ih => simp [mostU, ih]
theorem mem_snoc {ys : List Int} {a x : Int} : a ∈ ys ++ [x] ↔ a ∈ ys ∨ a = x := by simp
theorem stopsU_old {ys : List Int} {x : Int} (h : x ∈ ys) (f : Nat) : stopsU (ys ++ [x]) f = stopsU ys f := by
  induction f with
  | zero => rfl
  | succ f ih =>
    have e : ((f + 1 : Nat) : Int) ∈ ys ++ [x] ↔ ((f + 1 : Nat) : Int) ∈ ys := by
      rw [mem_snoc]
      exact ⟨fun h' => h'.elim id fun e => e ▸ h, .inl⟩
    simp only [stopsU, e, ih]
theorem stopsU_new {ys : List Int} {x : Nat} (h : (x : Int) ∉ ys) (h0 : 1 ≤ x) (f : Nat) : stopsU (ys ++ [(x : Int)]) f = stopsU ys f + (if x ≤ f then 1 else 0) := by
  induction f with
  | zero => rw [if_neg (by omega)]; rfl
  | succ f ih =>
    unfold stopsU
    by_cases hx : x = f + 1
    · subst hx
      rw [if_pos (mem_snoc.2 (.inr rfl)), if_neg h, ih, if_neg (by omega), if_pos (Nat.le_refl _)]; omega
    · have e : ((f + 1 : Nat) : Int) ∈ ys ++ [(x : Int)] ↔ ((f + 1 : Nat) : Int) ∈ ys := by
        rw [mem_snoc]
        exact ⟨fun h' => h'.elim id fun e => by omega, .inl⟩
      simp only [e, ih]
      have e2 : (x ≤ f + 1) = (x ≤ f) := by
        apply propext; omega
      simp only [e2]
      split <;> omega
theorem mostU_snoc (ys : List Int) {x : Nat} (f : Nat) (hx : x ≤ f) : mostU (ys ++ [(x : Int)]) f = max (mostU ys f) x := by
  induction f with
  | zero =>
    obtain rfl : x = 0 := by omega
    rfl
  | succ f ih =>
    have hb := mostU_le ys f
    unfold mostU
    by_cases he : x = f + 1
    · subst he
      rw [if_pos (mem_snoc.2 (.inr rfl))]
      split <;> omega
    · have e : ((f + 1 : Nat) : Int) ∈ ys ++ [(x : Int)] ↔ ((f + 1 : Nat) : Int) ∈ ys := by
        rw [mem_snoc]
        exact ⟨fun h' => h'.elim id fun e => by omega, .inl⟩
      simp only [e, ih (by omega)]
      split <;> omega

theorem tripOk_all {xs : List Int} (h : tripOk xs = true) : xs.length ≤ 12 ∧ ∀ x ∈ xs, 1 ≤ x ∧ x ≤ 15 := by
  simp only [tripOk, Bool.and_eq_true, decide_eq_true_eq] at h
  exact ⟨h.1, allB_all h.2⟩

theorem validTrip_c (A : Option Addr) (n c : Nat) (xs : List Int) (w : World) (B : Nat) (hS : Sl w B ILit A n c xs) (hB : B ≤ w.heap.size) :
    Calls Try.prog 28 #[.slice A n c] w fun e w' => e = .returned (.bool (tripOk xs)) ∧ Below w.heap.size w w' := by
  obtain ⟨hc0, hc1⟩ := hS.cap
  by_cases hn : n ≤ 12
  · have e : tripOk xs = allB xs 1 15 := by simp [tripOk, hS.len, hn]
    rw [e]
    clear e
    go_enter Try.func28, Try.ntmps28
    go_wp2_with (go_at_call 41; refine (allWithin_c A n c xs 1 15 _ B (by assumption) (by omega) (by omega)).mono ?_; rintro e w1 ⟨rfl, hb1⟩; obtain ⟨os1, d1, rfl⟩ := is_plus hb1; clear hb1)
    go_ret
    exact ⟨rfl, by (repeat' (first | (with_reducible exact Below.refl _ _) | (with_reducible assumption) | (with_reducible refine Below.alloc ?_ ?_ _) | (with_reducible refine below_plus ?_ ?_ _ _) | (with_reducible refine Below.drew ?_) | (with_reducible refine Below.setCell ?_ ?_ _) | (with_reducible refine below_adv ?_ ?_ _) | go_size | (simp; done) | (simp; omega)))⟩
  · have e : tripOk xs = false := by simp [tripOk, hS.len, hn]
    rw [e]
    clear e
    go_enter Try.func28, Try.ntmps28
    go_wp2_with fail
    go_ret
    exact ⟨rfl, by (repeat' (first | (with_reducible exact Below.refl _ _) | (with_reducible assumption) | (with_reducible refine Below.alloc ?_ ?_ _) | (with_reducible refine below_plus ?_ ?_ _ _) | (with_reducible refine Below.drew ?_) | (with_reducible refine Below.setCell ?_ ?_ _) | (with_reducible refine below_adv ?_ ?_ _) | go_size | (simp; done) | (simp; omega)))⟩
theorem validTrips_c (A : Option Addr) (n c : Nat) (xs : List Int) (w : World) (B : Nat) (hS : Sl w B ILit A n c xs) (hB : B ≤ w.heap.size) :
    Calls Try.prog 26 #[.slice A n c] w fun e w' => e = .returned (.bool (tripOk xs)) ∧ Below w.heap.size w w' := by
  obtain ⟨hc0, hc1⟩ := hS.cap
  by_cases hn : n ≤ 12
  · have e : tripOk xs = allB xs 1 15 := by simp [tripOk, hS.len, hn]
    rw [e]
    clear e
    go_enter Try.func26, Try.ntmps26
    go_wp2_with (go_at_call 39; refine (allIn_c A n c xs 1 15 _ B (by assumption) (by omega) (by omega)).mono ?_; rintro e w1 ⟨rfl, hb1⟩; obtain ⟨os1, d1, rfl⟩ := is_plus hb1; clear hb1)
    go_ret
    exact ⟨rfl, by (repeat' (first | (with_reducible exact Below.refl _ _) | (with_reducible assumption) | (with_reducible refine Below.alloc ?_ ?_ _) | (with_reducible refine below_plus ?_ ?_ _ _) | (with_reducible refine Below.drew ?_) | (with_reducible refine Below.setCell ?_ ?_ _) | (with_reducible refine below_adv ?_ ?_ _) | go_size | (simp; done) | (simp; omega)))⟩
  · have e : tripOk xs = false := by simp [tripOk, hS.len, hn]
    rw [e]
    clear e
    go_enter Try.func26, Try.ntmps26
    go_wp2_with fail
    go_ret
    exact ⟨rfl, by (repeat' (first | (with_reducible exact Below.refl _ _) | (with_reducible assumption) | (with_reducible refine Below.alloc ?_ ?_ _) | (with_reducible refine below_plus ?_ ?_ _ _) | (with_reducible refine Below.drew ?_) | (with_reducible refine Below.setCell ?_ ?_ _) | (with_reducible refine below_adv ?_ ?_ _) | go_size | (simp; done) | (simp; omega)))⟩

set_option maxHeartbeats 1000000 in
theorem tripOf_c (A : Option Addr) (n c : Nat) (xs : List Int) (w : World) (B : Nat) (hS : Sl w B ILit A n c xs) (hB : B ≤ w.heap.size) (hn : n ≤ 1099511627776) :
    Calls Try.prog 27 #[.slice A n c] w fun e w' => e = .returned (.int .i64 (tripN xs)) ∧ Below w.heap.size w w' := by
  have c1 := Lib.hid (fun f w' (h : Below w.heap.size w w') => isIn_c A n c xs f w' w.heap.size ((hS.more hB).below h) h.size hn)
  clear hS
  go_enter Try.func27, Try.ntmps27
  go_wp2_with fail
  go_loopw [3, 4, 5] (fun m s i wr => ∃ (k : Nat) (mm ss : Int), k ≤ 15 ∧ i = .int .i64 ((k : Int) + 1) ∧ m = .int .i64 mm ∧ s = .int .i64 ss ∧ Hid (mostU xs k = mm) ∧ Hid (stopsU xs k = ss) ∧ Below w.heap.size w wr) (fun _ _ i _ => 16 - (intOf i).toNat)
  case atStart => exact ⟨0, 0, 0, by omega, rfl, rfl, rfl, Lib.hid rfl, Lib.hid rfl, by (repeat' (first | (with_reducible exact Below.refl _ _) | (with_reducible assumption) | (with_reducible refine Below.alloc ?_ ?_ _) | (with_reducible refine below_plus ?_ ?_ _ _) | (with_reducible refine Below.drew ?_) | (with_reducible refine Below.setCell ?_ ?_ _) | (with_reducible refine below_adv ?_ ?_ _) | go_size | (simp; done) | (simp; omega)))⟩
  case round =>
    obtain ⟨k, mm, ss, hk, rfl, rfl, rfl, hm, hs, hb⟩ := hrel
    have hz := hb.size
    have h1 := mostU_le xs k
    have h2 := stopsU_le xs k
    rw [hm.out] at h1
    rw [hs.out] at h2
    by_cases hlt : k < 15
    · have cc := c1.out ((k : Int) + 1) wr hb
      by_cases hin : ((k : Int) + 1) ∈ xs
      · have e1 : Hid (mostU xs (k + 1) = (k : Int) + 1) := Lib.hid (by
          rw [mostU, if_pos (by simpa using hin)]; simp)
        have e2 : Hid (stopsU xs (k + 1) = ss + 1) := Lib.hid (by
          rw [stopsU, if_pos (by simpa using hin), hs.out])
        rw [decide_eq_true hin] at cc
        have CC := Lib.hid cc
        clear cc hin
        go_wp2_with fail
        refine CC.out.mono ?_
        rintro e w1 ⟨rfl, hb1⟩
        go_wp2_with fail
        go_roundw
        case rel => exact ⟨k + 1, _, _, by omega, by go_num, rfl, by go_num, e1, e2, hb.trans (hb1.mono hz)⟩
        case measure => simp [intOf]; omega
      · have e1 : Hid (mostU xs (k + 1) = mm) := Lib.hid (by
          rw [mostU, if_neg (by simpa using hin), hm.out])
        have e2 : Hid (stopsU xs (k + 1) = ss) := Lib.hid (by
          rw [stopsU, if_neg (by simpa using hin), hs.out])
        rw [decide_eq_false hin] at cc
        have CC := Lib.hid cc
        clear cc hin
        go_wp2_with fail
        refine CC.out.mono ?_
        rintro e w1 ⟨rfl, hb1⟩
        go_wp2_with fail
        go_roundw
        case rel => exact ⟨k + 1, _, _, by omega, by go_num, rfl, rfl, e1, e2, hb.trans (hb1.mono hz)⟩
        case measure => simp [intOf]; omega
    · obtain rfl : k = 15 := by omega
      go_wp2_with fail
      go_ret
      exact ⟨by rw [tripN, hm.out, hs.out]; rfl, hb⟩

theorem sTripTime_c (A : Option Addr) (n c : Nat) (xs : List Int) (w : World) (B : Nat) (hS : Sl w B ILit A n c xs) (hB : B ≤ w.heap.size) :
    Calls Try.prog 11 #[.slice A n c] w fun e w' => e = .returned (.int .i64 (tripF xs)) ∧ Below w.heap.size w w' := by
  obtain ⟨hc0, hc1⟩ := hS.cap
  have cv := validTrips_c A n c xs w B hS hB
  cases hok : tripOk xs
  · have e : tripF xs = -1 := by simp [tripF, hok]
    rw [hok] at cv
    have CV := Lib.hid cv
    rw [e]
    clear e hok cv
    go_enter Try.func11, Try.ntmps11
    go_wp2_with fail
    refine CV.out.mono ?_
    rintro e w1 ⟨rfl, hb1⟩
    go_wp2_with fail
    go_ret
    exact ⟨rfl, hb1⟩
  · have e : tripF xs = tripN xs := by simp [tripF, hok]
    have h12 := (tripOk_all hok).1
    rw [hS.len] at h12
    rw [hok] at cv
    have CV := Lib.hid cv
    rw [e]
    clear e hok cv
    go_enter Try.func11, Try.ntmps11
    go_wp2_with fail
    refine CV.out.mono ?_
    rintro e w1 ⟨rfl, hb1⟩
    have hz := hb1.size
    go_wp2_with fail
    refine (tripOf_c A n c xs w1 w.heap.size ((hS.more hB).below hb1) hz (by omega)).mono ?_
    rintro e w2 ⟨rfl, hb2⟩
    go_wp2_with fail
    go_ret
    exact ⟨rfl, hb1.trans (hb2.mono hz)⟩
end Go.Proofs.Ytdggdibfgenadaa
