/- Ranges and lists: within, allWithin, inRange, allIn, isIn. -/
import Derived.Test.YtlpbmnmhpknppaaOpen
import Derived.Test.YtlpbmnmhpknppaaOw
import Derived.Handy
import Derived.Lib.Hide
set_option linter.unusedVariables false
set_option linter.unusedSimpArgs false
namespace Go.Proofs.Ytlpbmnmhpknppaa
open Go.RowKit

def inB (x lo hi : Int) : Bool := decide (lo ≤ x) && decide (x ≤ hi)
def allB (xs : List Int) (lo hi : Int) : Bool := xs.all fun x => inB x lo hi
theorem allB_bad {xs : List Int} {k : Nat} {x lo hi : Int} (h : xs[k]? = some x) (hx : inB x lo hi = false) : allB xs lo hi = false := by
  rw [allB, List.all_eq_false]
  exact ⟨x, List.mem_of_getElem? h, by simp [hx]⟩
theorem allB_snoc {xs : List Int} {k : Nat} {x lo hi : Int} (h : xs[k]? = some x) (hx : inB x lo hi = true) (h0 : allB (xs.take k) lo hi = true) : allB (xs.take (k + 1)) lo hi = true := by
  rw [allB] at h0 ⊢
  rw [take_snoc h, List.all_append, h0]
  simp [hx]
theorem allB_all {xs : List Int} {lo hi : Int} (h : allB xs lo hi = true) : ∀ x ∈ xs, lo ≤ x ∧ x ≤ hi := fun x hx => by
  have := List.all_eq_true.1 h x hx
  simp only [inB, Bool.and_eq_true, decide_eq_true_eq] at this
  exact this

theorem within_c (x lo hi : Int) (w : World) :
    Calls Try.prog 48 #[.int .i64 x, .int .i64 lo, .int .i64 hi] w fun e w' => e = .returned (.bool (inB x lo hi)) ∧ w = w' := by
  by_cases h : lo ≤ x
  · go_enter Try.func48, Try.ntmps48
    go_wp2
    go_ret
    exact ⟨by simp [inB, h], rfl⟩
  · have h2 : decide (lo ≤ x) = false := by simpa using h
    go_enter Try.func48, Try.ntmps48
    go_wp2
    go_ret
    exact ⟨by simp [inB, h2], rfl⟩
theorem inRange_c (x lo hi : Int) (w : World) :
    Calls Try.prog 71 #[.int .i64 x, .int .i64 lo, .int .i64 hi] w fun e w' => e = .returned (.bool (inB x lo hi)) ∧ w = w' := by
  by_cases h : lo ≤ x
  · go_enter Try.func71, Try.ntmps71
    go_wp2
    go_ret
    exact ⟨by simp [inB, h], rfl⟩
  · have h2 : decide (lo ≤ x) = false := by simpa using h
    go_enter Try.func71, Try.ntmps71
    go_wp2
    go_ret
    exact ⟨by simp [inB, h2], rfl⟩
theorem allWithin_c (A : Option Addr) (n c : Nat) (xs : List Int) (lo hi : Int) (w : World) (B : Nat) (hS : Sl w B ILit A n c xs) (hB : B ≤ w.heap.size) (hn : n ≤ 1099511627776) :
    Calls Try.prog 49 #[.slice A n c, .int .i64 lo, .int .i64 hi] w fun e w' => e = .returned (.bool (allB xs lo hi)) ∧ Below w.heap.size w w' := by
  obtain ⟨hc0, hc1⟩ := hS.cap
  have HL := Lib.hid hS.len
  have hS1 := hS.more hB
  clear hS
  go_enter Try.func49, Try.ntmps49
  go_wp2_with fail
  go_loopw [11] (fun i wr => ∃ (k : Nat), k ≤ n ∧ i = .int .i64 k ∧ Hid (allB (xs.take k) lo hi = true) ∧ Below w.heap.size w wr) (fun i _ => n - (intOf i).toNat)
  case atStart => exact ⟨0, by omega, rfl, Lib.hid rfl, by (repeat' (first | (with_reducible exact Below.refl _ _) | (with_reducible assumption) | (with_reducible refine Below.alloc ?_ ?_ _) | (with_reducible refine below_plus ?_ ?_ _ _) | (with_reducible refine Below.drew ?_) | (with_reducible refine Below.setCell ?_ ?_ _) | (with_reducible refine below_adv ?_ ?_ _) | go_size | (simp; done) | (simp; omega)))⟩
  case round =>
    obtain ⟨k, hk, rfl, hall, hb⟩ := hrel
    have hS2 := hS1.below hb
    by_cases hlt : k < n
    · obtain ⟨b, o, x, rfl, hbl, hx, hcell⟩ := hS2.at_ hlt
      have hcell' : wr.cell? ⟨b, o + k, none⟩ = some (.int .i64 x) := hcell
      have cw := fun w => within_c x lo hi w
      clear hcell hS2 hS1
      cases hp : inB x lo hi
      · rw [hp] at cw
        have CW := Lib.hid cw
        have CA := Lib.hid (allB_bad hx hp)
        clear cw hx hp
        go_wp2_with (go_at_call 48; refine (CW.out _).mono ?_; rintro e w' ⟨rfl, rfl⟩)
        go_ret
        exact ⟨by rw [CA.out]; rfl, by (repeat' (first | (with_reducible exact Below.refl _ _) | (with_reducible assumption) | (with_reducible refine Below.alloc ?_ ?_ _) | (with_reducible refine below_plus ?_ ?_ _ _) | (with_reducible refine Below.drew ?_) | (with_reducible refine Below.setCell ?_ ?_ _) | (with_reducible refine below_adv ?_ ?_ _) | go_size | (simp; done) | (simp; omega)))⟩
      · rw [hp] at cw
        have CW := Lib.hid cw
        have CA := Lib.hid (allB_snoc hx hp hall.out)
        clear cw hx hp
        go_wp2_with (go_at_call 48; refine (CW.out _).mono ?_; rintro e w' ⟨rfl, rfl⟩)
        go_roundw
        case rel => exact ⟨k + 1, by omega, by go_num, CA, by (repeat' (first | (with_reducible exact Below.refl _ _) | (with_reducible assumption) | (with_reducible refine Below.alloc ?_ ?_ _) | (with_reducible refine below_plus ?_ ?_ _ _) | (with_reducible refine Below.drew ?_) | (with_reducible refine Below.setCell ?_ ?_ _) | (with_reducible refine below_adv ?_ ?_ _) | go_size | (simp; done) | (simp; omega)))⟩
        case measure => simp [intOf]; omega
    · obtain rfl : k = n := by omega
      have e : allB xs lo hi = true := by
        have := hall.out
        rwa [List.take_of_length_le (by rw [HL.out]; omega)] at this
      have CE := Lib.hid e
      clear e
      go_wp2_with fail
      go_ret
      exact ⟨by rw [CE.out]; rfl, by (repeat' (first | (with_reducible exact Below.refl _ _) | (with_reducible assumption) | (with_reducible refine Below.alloc ?_ ?_ _) | (with_reducible refine below_plus ?_ ?_ _ _) | (with_reducible refine Below.drew ?_) | (with_reducible refine Below.setCell ?_ ?_ _) | (with_reducible refine below_adv ?_ ?_ _) | go_size | (simp; done) | (simp; omega)))⟩
theorem allIn_c (A : Option Addr) (n c : Nat) (xs : List Int) (lo hi : Int) (w : World) (B : Nat) (hS : Sl w B ILit A n c xs) (hB : B ≤ w.heap.size) (hn : n ≤ 1099511627776) :
    Calls Try.prog 72 #[.slice A n c, .int .i64 lo, .int .i64 hi] w fun e w' => e = .returned (.bool (allB xs lo hi)) ∧ Below w.heap.size w w' := by
  obtain ⟨hc0, hc1⟩ := hS.cap
  have HL := Lib.hid hS.len
  have hS1 := hS.more hB
  clear hS
  go_enter Try.func72, Try.ntmps72
  go_wp2_with fail
  go_loopw [7] (fun i wr => ∃ (k : Nat), k ≤ n ∧ i = .int .i64 k ∧ Hid (allB (xs.take k) lo hi = true) ∧ Below w.heap.size w wr) (fun i _ => n - (intOf i).toNat)
  case atStart => exact ⟨0, by omega, rfl, Lib.hid rfl, by (repeat' (first | (with_reducible exact Below.refl _ _) | (with_reducible assumption) | (with_reducible refine Below.alloc ?_ ?_ _) | (with_reducible refine below_plus ?_ ?_ _ _) | (with_reducible refine Below.drew ?_) | (with_reducible refine Below.setCell ?_ ?_ _) | (with_reducible refine below_adv ?_ ?_ _) | go_size | (simp; done) | (simp; omega)))⟩
  case round =>
    obtain ⟨k, hk, rfl, hall, hb⟩ := hrel
    have hS2 := hS1.below hb
    by_cases hlt : k < n
    · obtain ⟨b, o, x, rfl, hbl, hx, hcell⟩ := hS2.at_ hlt
      have hcell' : wr.cell? ⟨b, o + k, none⟩ = some (.int .i64 x) := hcell
      have cw := fun w => inRange_c x lo hi w
      clear hcell hS2 hS1
      cases hp : inB x lo hi
      · rw [hp] at cw
        have CW := Lib.hid cw
        have CA := Lib.hid (allB_bad hx hp)
        clear cw hx hp
        go_wp2_with (go_at_call 71; refine (CW.out _).mono ?_; rintro e w' ⟨rfl, rfl⟩)
        go_ret
        exact ⟨by rw [CA.out]; rfl, by (repeat' (first | (with_reducible exact Below.refl _ _) | (with_reducible assumption) | (with_reducible refine Below.alloc ?_ ?_ _) | (with_reducible refine below_plus ?_ ?_ _ _) | (with_reducible refine Below.drew ?_) | (with_reducible refine Below.setCell ?_ ?_ _) | (with_reducible refine below_adv ?_ ?_ _) | go_size | (simp; done) | (simp; omega)))⟩
      · rw [hp] at cw
        have CW := Lib.hid cw
        have CA := Lib.hid (allB_snoc hx hp hall.out)
        clear cw hx hp
        go_wp2_with (go_at_call 71; refine (CW.out _).mono ?_; rintro e w' ⟨rfl, rfl⟩)
        go_roundw
        case rel => exact ⟨k + 1, by omega, by go_num, CA, by (repeat' (first | (with_reducible exact Below.refl _ _) | (with_reducible assumption) | (with_reducible refine Below.alloc ?_ ?_ _) | (with_reducible refine below_plus ?_ ?_ _ _) | (with_reducible refine Below.drew ?_) | (with_reducible refine Below.setCell ?_ ?_ _) | (with_reducible refine below_adv ?_ ?_ _) | go_size | (simp; done) | (simp; omega)))⟩
        case measure => simp [intOf]; omega
    · obtain rfl : k = n := by omega
      have e : allB xs lo hi = true := by
        have := hall.out
        rwa [List.take_of_length_le (by rw [HL.out]; omega)] at this
      have CE := Lib.hid e
      clear e
      go_wp2_with fail
      go_ret
      exact ⟨by rw [CE.out]; rfl, by (repeat' (first | (with_reducible exact Below.refl _ _) | (with_reducible assumption) | (with_reducible refine Below.alloc ?_ ?_ _) | (with_reducible refine below_plus ?_ ?_ _ _) | (with_reducible refine Below.drew ?_) | (with_reducible refine Below.setCell ?_ ?_ _) | (with_reducible refine below_adv ?_ ?_ _) | go_size | (simp; done) | (simp; omega)))⟩
theorem isIn_c (A : Option Addr) (n c : Nat) (xs : List Int) (f : Int) (w : World) (B : Nat) (hS : Sl w B ILit A n c xs) (hB : B ≤ w.heap.size) (hn : n ≤ 1099511627776) :
    Calls Try.prog 78 #[.slice A n c, .int .i64 f] w fun e w' => e = .returned (.bool (decide (f ∈ xs))) ∧ Below w.heap.size w w' := by
  obtain ⟨hc0, hc1⟩ := hS.cap
  have HL := Lib.hid hS.len
  have hS1 := hS.more hB
  clear hS
  go_enter Try.func78, Try.ntmps78
  go_wp2_with fail
  go_loopw [5] (fun i wr => ∃ (k : Nat), k ≤ n ∧ i = .int .i64 k ∧ Hid (f ∉ xs.take k) ∧ Below w.heap.size w wr) (fun i _ => n - (intOf i).toNat)
  case atStart => exact ⟨0, by omega, rfl, Lib.hid (by simp), by (repeat' (first | (with_reducible exact Below.refl _ _) | (with_reducible assumption) | (with_reducible refine Below.alloc ?_ ?_ _) | (with_reducible refine below_plus ?_ ?_ _ _) | (with_reducible refine Below.drew ?_) | (with_reducible refine Below.setCell ?_ ?_ _) | (with_reducible refine below_adv ?_ ?_ _) | go_size | (simp; done) | (simp; omega)))⟩
  case round =>
    obtain ⟨k, hk, rfl, hall, hb⟩ := hrel
    have hS2 := hS1.below hb
    by_cases hlt : k < n
    · obtain ⟨b, o, x, rfl, hbl, hx, hcell⟩ := hS2.at_ hlt
      have hcell' : wr.cell? ⟨b, o + k, none⟩ = some (.int .i64 x) := hcell
      clear hcell hS2 hS1
      by_cases hp : x = f
      · subst hp
        have CA := Lib.hid (decide_eq_true (List.mem_of_getElem? hx))
        clear hx
        go_wp2_with fail
        go_ret
        exact ⟨by rw [CA.out]; rfl, by (repeat' (first | (with_reducible exact Below.refl _ _) | (with_reducible assumption) | (with_reducible refine Below.alloc ?_ ?_ _) | (with_reducible refine below_plus ?_ ?_ _ _) | (with_reducible refine Below.drew ?_) | (with_reducible refine Below.setCell ?_ ?_ _) | (with_reducible refine below_adv ?_ ?_ _) | go_size | (simp; done) | (simp; omega)))⟩
      · have CA : Hid (f ∉ xs.take (k + 1)) := Lib.hid (by
          rw [take_snoc hx, List.mem_append]
          rintro (h | h)
          · exact hall.out h
          · simp at h; exact hp h.symm)
        clear hx
        go_wp2_with fail
        go_roundw
        case rel => exact ⟨k + 1, by omega, by go_num, CA, by (repeat' (first | (with_reducible exact Below.refl _ _) | (with_reducible assumption) | (with_reducible refine Below.alloc ?_ ?_ _) | (with_reducible refine below_plus ?_ ?_ _ _) | (with_reducible refine Below.drew ?_) | (with_reducible refine Below.setCell ?_ ?_ _) | (with_reducible refine below_adv ?_ ?_ _) | go_size | (simp; done) | (simp; omega)))⟩
        case measure => simp [intOf]; omega
    · obtain rfl : k = n := by omega
      have e : decide (f ∈ xs) = false := by
        have := hall.out
        rw [List.take_of_length_le (by rw [HL.out]; omega)] at this
        exact decide_eq_false this
      have CE := Lib.hid e
      clear e
      go_wp2_with fail
      go_ret
      exact ⟨by rw [CE.out]; rfl, by (repeat' (first | (with_reducible exact Below.refl _ _) | (with_reducible assumption) | (with_reducible refine Below.alloc ?_ ?_ _) | (with_reducible refine below_plus ?_ ?_ _ _) | (with_reducible refine Below.drew ?_) | (with_reducible refine Below.setCell ?_ ?_ _) | (with_reducible refine below_adv ?_ ?_ _) | go_size | (simp; done) | (simp; omega)))⟩
end Go.Proofs.Ytlpbmnmhpknppaa
