/- The reference's validShare, walked (for shares that fit). -/
import Derived.Test.YtillmnhhkhjpkaaSc4
set_option linter.unusedVariables false
set_option linter.unusedSimpArgs false
namespace Go.Proofs.Ytillmnhhkhjpkaa
open Go.RowKit

theorem Sl.ints {w : World} {B n c : Nat} {A : Option Addr} {ss : List Nat} (h : Sl w B NLit A n c ss) : Sl w B ILit A n c (ss.map fun (s : Nat) => (s : Int)) := by
  obtain ⟨h1, h2, h3, h4⟩ := h
  refine ⟨by simpa using h1, h2, h3, fun hn => ?_⟩
  obtain ⟨b, o, hA, hb, hc⟩ := h4 hn
  refine ⟨b, o, hA, hb, fun j x hx => ?_⟩
  rw [List.getElem?_map] at hx
  obtain ⟨s, hs, rfl⟩ := Option.map_eq_some_iff.1 hx
  exact hc j s hs
set_option maxHeartbeats 2000000 in
theorem sValidShare_c (A : Option Addr) (n c : Nat) (cars : List Int) (A2 : Option Addr) (n2 c2 : Nat) (cs : List CallT) (A3 : Option Addr) (c3 : Nat) (sh : List Int) (w : World) (B : Nat) (hS : Sl w B ILit A n c cars) (hT : SlC w B A2 n2 c2 cs) (hU : Sl w B ILit A3 n2 c3 sh) (hB : B ≤ w.heap.size)
    (hn : n ≤ 1099511627776) (hn2 : n2 ≤ 1099511627776) (hsh : okF cars = true → allB sh 0 ((n : Int) - 1) = true) :
    Calls Try.prog 16 #[.slice A n c, .slice A2 n2 c2, .slice A3 n2 c3] w fun e w' => e = .returned (.bool (okS cars cs)) ∧ Below w.heap.size w w' := by
  have hl := hT.len
  have c0 := sValidFleet_c A n c cars w B hS hB hn
  have c1 := fun w' (hb : Below w.heap.size w w') => sValidCalls_c A2 n2 c2 cs w' B (hT.below (hb.mono hB)) (Nat.le_trans hB hb.size) hn2
  have c4 := fun w' (hb : Below w.heap.size w w') => allIn_c A3 n2 c3 sh 0 ((n : Int) - 1) w' B (hU.below (hb.mono hB)) (Nat.le_trans hB hb.size) hn2
  have f1 : IntKind.i64.wrap ((n : Int) - 1) = (n : Int) - 1 := IntWalk.i64_in _ (by omega)
  rw [okS, hl]
  cases h1 : okF cars
  · rw [h1] at c0
    have C0 := Lib.hid c0
    clear c0 c1 c4 h1 hsh
    go_enter Try.func16, Try.ntmps16
    go_wp2_with fail
    refine C0.out.mono ?_
    rintro e w1 ⟨rfl, hb1⟩
    go_wp2_with fail
    go_ret
    exact ⟨rfl, hb1⟩
  · rw [h1] at c0
    rw [hsh h1] at c4
    have C4 := Lib.hid c4
    clear c4 hsh
    cases h3 : okL cs <;> by_cases h2 : n2 ≤ 6
    all_goals
      rw [h3] at c1
      have C0 := Lib.hid c0
      have C1 := Lib.hid c1
      have g1 : decide ((n2 : Int) ≤ 6) = decide (n2 ≤ 6) := by simp; omega
      simp only [h2, decide_true, decide_false] at g1 ⊢
      clear c1 c0 h1 h3
      go_enter Try.func16, Try.ntmps16
      go_wp2_with fail
      refine C0.out.mono ?_
      rintro e w1 ⟨rfl, hb1⟩
      go_wp2_with fail
      refine (C1.out _ hb1).mono ?_
      rintro e w2 ⟨rfl, hb2⟩
      have hb12 := hb1.trans (hb2.mono hb1.size)
      go_wp2_with fail
      first | (go_ret; exact ⟨rfl, hb12⟩) | (refine (C4.out _ hb12).mono ?_; rintro e w3 ⟨rfl, hb3⟩; go_wp2_with fail; go_ret; exact ⟨rfl, hb12.trans (hb3.mono hb12.size)⟩)
end Go.Proofs.Ytillmnhhkhjpkaa
