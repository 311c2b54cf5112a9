/- Valid cars and valid shares, walked. -/
import Derived.Test.YtillmnhhkhjpkaaSb3
set_option linter.unusedVariables false
set_option linter.unusedSimpArgs false
set_option linter.unusedSectionVars false
namespace Go.Proofs.Ytillmnhhkhjpkaa
open Go.RowKit

section
variable (A : Option Addr) (n c : Nat) (cars : List Int) (w : World) (B : Nat) (hS : Sl w B ILit A n c cars) (hB : B ≤ w.heap.size) (hn : n ≤ 1099511627776)
include hS hB hn
theorem validFloors_c : Calls Try.prog 37 #[.slice A n c] w fun e w' => e = .returned (.bool (allB cars 0 15)) ∧ Below w.heap.size w w' := by
  have C1 := Lib.hid (allWithin_c A n c cars 0 15 w B hS hB hn)
  go_enter Try.func37, Try.ntmps37
  go_wp2_with fail
  refine C1.out.mono ?_
  rintro e w1 ⟨rfl, hb1⟩
  go_wp2_with fail
  go_ret
  exact ⟨rfl, hb1⟩
theorem okF_eq : okF cars = (inB (n : Int) 1 3 && allB cars 0 15) := by rw [okF, hS.len]; rfl
theorem validCars_c : Calls Try.prog 26 #[.slice A n c] w fun e w' => e = .returned (.bool (okF cars)) ∧ Below w.heap.size w w' := by
  obtain ⟨hc0, hc1⟩ := hS.cap
  have C0 := Lib.hid (fun w' => within_c (n : Int) 1 3 w')
  have c1 := fun w' (hb : Below w.heap.size w w') => validFloors_c A n c cars w' B (hS.below (hb.mono hB)) (Nat.le_trans hB hb.size) hn
  rw [okF_eq A n c cars w B hS hB hn]
  cases h1 : inB (n : Int) 1 3 <;> cases h2 : allB cars 0 15
  all_goals
    rw [h1] at C0
    rw [h2] at c1
    have C1 := Lib.hid c1
    clear c1 h1 h2
    go_enter Try.func26, Try.ntmps26
    go_wp2_with fail
    refine (C0.out _).mono ?_
    rintro e w1 ⟨rfl, rfl⟩
    go_wp2_with fail
    first | (go_ret; exact ⟨rfl, Below.refl _ _⟩) | (refine (C1.out _ (Below.refl _ _)).mono ?_; rintro e w1 ⟨rfl, hb1⟩; go_wp2_with fail; go_ret; exact ⟨rfl, hb1⟩)
theorem sValidFleet_c : Calls Try.prog 29 #[.slice A n c] w fun e w' => e = .returned (.bool (okF cars)) ∧ Below w.heap.size w w' := by
  obtain ⟨hc0, hc1⟩ := hS.cap
  have C0 := Lib.hid (fun w' => inRange_c (n : Int) 1 3 w')
  have c1 := fun w' (hb : Below w.heap.size w w') => allIn_c A n c cars 0 15 w' B (hS.below (hb.mono hB)) (Nat.le_trans hB hb.size) hn
  rw [okF_eq A n c cars w B hS hB hn]
  cases h1 : inB (n : Int) 1 3 <;> cases h2 : allB cars 0 15
  all_goals
    rw [h1] at C0
    rw [h2] at c1
    have C1 := Lib.hid c1
    clear c1 h1 h2
    go_enter Try.func29, Try.ntmps29
    go_wp2_with fail
    refine (C0.out _).mono ?_
    rintro e w1 ⟨rfl, rfl⟩
    go_wp2_with fail
    first | (go_ret; exact ⟨rfl, Below.refl _ _⟩) | (refine (C1.out _ (Below.refl _ _)).mono ?_; rintro e w1 ⟨rfl, hb1⟩; go_wp2_with fail; go_ret; exact ⟨rfl, hb1⟩)
end
set_option maxHeartbeats 1000000 in
theorem validShares_c (A : Option Addr) (n c : Nat) (cars : List Int) (A2 : Option Addr) (n2 c2 : Nat) (cs : List CallT) (w : World) (B : Nat) (hS : Sl w B ILit A n c cars) (hT : SlC w B A2 n2 c2 cs) (hB : B ≤ w.heap.size) (hn : n ≤ 1099511627776) :
    Calls Try.prog 11 #[.slice A n c, .slice A2 n2 c2] w fun e w' => e = .returned (.bool (okS cars cs)) ∧ Below w.heap.size w w' := by
  have hl := hT.len
  have c0 := validCars_c A n c cars w B hS hB hn
  have c1 := fun w' (hb : Below w.heap.size w w') => validCalls_c A2 n2 c2 cs w' B (hT.below (hb.mono hB)) (Nat.le_trans hB hb.size)
  rw [okS, hl]
  cases h1 : okF cars <;> cases h3 : okL cs <;> by_cases h2 : n2 ≤ 6
  all_goals
    rw [h1] at c0
    rw [h3] at c1
    have C0 := Lib.hid c0
    have C1 := Lib.hid c1
    have g1 : decide ((n2 : Int) ≤ 6) = decide (n2 ≤ 6) := by simp; omega
    simp only [h2, decide_true, decide_false] at g1 ⊢
    clear c1 c0 h1 h3
    go_enter Try.func11, Try.ntmps11
    go_wp2_with fail
    refine C0.out.mono ?_
    rintro e w1 ⟨rfl, hb1⟩
    go_wp2_with fail
    first | (go_ret; exact ⟨rfl, hb1⟩) | (refine (C1.out _ hb1).mono ?_; rintro e w2 ⟨rfl, hb2⟩; go_wp2_with fail; go_ret; exact ⟨rfl, hb1.trans (hb2.mono hb1.size)⟩)
end Go.Proofs.Ytillmnhhkhjpkaa
