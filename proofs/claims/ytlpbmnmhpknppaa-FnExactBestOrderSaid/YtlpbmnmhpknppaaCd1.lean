/- slices.Index and slices.Contains at []int, walked. -/
import Derived.Test.YtlpbmnmhpknppaaIn
set_option linter.unusedVariables false
set_option linter.unusedSimpArgs false
namespace Go.Proofs.Ytlpbmnmhpknppaa
open Go.RowKit

theorem index_c (A : Option Addr) (n c : Nat) (xs : List Int) (f : Int) (w : World) (B : Nat) (hS : Sl w B ILit A n c xs) (hB : B ≤ w.heap.size) :
    Calls Try.prog 83 #[.slice A n c, .int .i64 f] w fun e w' => (∃ i : Int, e = .returned (.int .i64 i) ∧ decide (0 ≤ i) = decide (f ∈ xs)) ∧ Below w.heap.size w w' := by
  obtain ⟨hc0, hc1⟩ := hS.cap
  have HL := Lib.hid hS.len
  have hS1 := hS.more hB
  clear hS
  go_enter Try.func83, Try.ntmps83
  go_wp2_with fail
  go_loopw [8] (fun i wr => ∃ (k : Nat), k ≤ n ∧ i = .int .i64 k ∧ Hid (f ∉ xs.take k) ∧ Below w.heap.size w wr) (fun i _ => n - (intOf i).toNat)
  case atStart => exact ⟨0, by omega, rfl, Lib.hid (by simp), by (repeat' (first | (with_reducible exact Below.refl _ _) | (with_reducible assumption) | (with_reducible refine Below.alloc ?_ ?_ _) | (with_reducible refine below_plus ?_ ?_ _ _) | (with_reducible refine Below.drew ?_) | (with_reducible refine Below.setCell ?_ ?_ _) | (with_reducible refine below_adv ?_ ?_ _) | go_size | (simp; done) | (simp; omega)))⟩
  case round =>
    obtain ⟨k, hk, rfl, hall, hb⟩ := hrel
    have hS2 := hS1.below hb
    by_cases hlt : k < n
    · obtain ⟨b, o, x, rfl, hbl, hx, hcell⟩ := hS2.at_ hlt
      have hcell' : wr.cell? ⟨b, o + k, none⟩ = some (.int .i64 x) := hcell
      clear hcell hS2 hS1
      by_cases hp : f = x
      · subst hp
        have CA := Lib.hid (decide_eq_true (List.mem_of_getElem? hx))
        clear hx
        go_wp2_with fail
        go_ret
        exact ⟨⟨_, rfl, by rw [CA.out]; exact decide_eq_true (by omega)⟩, by (repeat' (first | (with_reducible exact Below.refl _ _) | (with_reducible assumption) | (with_reducible refine Below.alloc ?_ ?_ _) | (with_reducible refine below_plus ?_ ?_ _ _) | (with_reducible refine Below.drew ?_) | (with_reducible refine Below.setCell ?_ ?_ _) | (with_reducible refine below_adv ?_ ?_ _) | go_size | (simp; done) | (simp; omega)))⟩
      · have CA : Hid (f ∉ xs.take (k + 1)) := Lib.hid (by
          rw [take_snoc hx, List.mem_append]
          rintro (h | h)
          · exact hall.out h
          · simp at h; exact hp h)
        clear hx
        go_wp2_with fail
        go_roundw
        case rel => exact ⟨k + 1, by omega, by go_num, CA, by (repeat' (first | (with_reducible exact Below.refl _ _) | (with_reducible assumption) | (with_reducible refine Below.alloc ?_ ?_ _) | (with_reducible refine below_plus ?_ ?_ _ _) | (with_reducible refine Below.drew ?_) | (with_reducible refine Below.setCell ?_ ?_ _) | (with_reducible refine below_adv ?_ ?_ _) | go_size | (simp; done) | (simp; omega)))⟩
        case measure => simp [intOf]; omega
    · obtain rfl : k = n := by omega
      have e : decide (f ∈ xs) = false := by
        have := hall.out
        rw [List.take_of_length_le (by rw [HL.out]; omega)] at this
        exact decide_eq_false this
      have CE := Lib.hid e
      clear e
      go_wp2_with fail
      go_ret
      exact ⟨⟨_, rfl, by rw [CE.out]; rfl⟩, by (repeat' (first | (with_reducible exact Below.refl _ _) | (with_reducible assumption) | (with_reducible refine Below.alloc ?_ ?_ _) | (with_reducible refine below_plus ?_ ?_ _ _) | (with_reducible refine Below.drew ?_) | (with_reducible refine Below.setCell ?_ ?_ _) | (with_reducible refine below_adv ?_ ?_ _) | go_size | (simp; done) | (simp; omega)))⟩

theorem contains_c (A : Option Addr) (n c : Nat) (xs : List Int) (f : Int) (w : World) (B : Nat) (hS : Sl w B ILit A n c xs) (hB : B ≤ w.heap.size) :
    Calls Try.prog 69 #[.slice A n c, .int .i64 f] w fun e w' => e = .returned (.bool (decide (f ∈ xs))) ∧ Below w.heap.size w w' := by
  have C1 := Lib.hid (index_c A n c xs f w B hS hB)
  clear hS
  go_enter Try.func69, Try.ntmps69
  go_wp2_with fail
  refine C1.out.mono ?_
  rintro e w1 ⟨⟨i, rfl, hi⟩, hb⟩
  have HI := Lib.hid hi
  clear hi
  go_wp2_with fail
  go_ret
  exact ⟨by rw [← HI.out]; rfl, hb⟩
end Go.Proofs.Ytlpbmnmhpknppaa
