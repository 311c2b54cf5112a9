/- inMask. -/
import Derived.Test.YtpngddcdcpepmaaFu1
import Derived.Test.YtpngddcdcpepmaaApp
import Derived.Laws.ShiftsVar
import Derived.Laws.ShiftsVarLaws
set_option linter.unusedVariables false
set_option linter.unusedSimpArgs false
namespace Go.Proofs.Ytpngddcdcpepmaa
open Go.RowKit

theorem bit_test (m k : Nat) : (((m : Int) / 2 ^ k).tmod 2 == 1) = m.testBit k := by
  have e : (m : Int) / 2 ^ k = ((m / 2 ^ k : Nat) : Int) := by simp
  have e2 : (((m / 2 ^ k : Nat) : Int)).tmod 2 = ((m / 2 ^ k % 2 : Nat) : Int) := rfl
  rw [e, e2, Nat.testBit_eq_decide_div_mod_eq]
  by_cases h : m / 2 ^ k % 2 = 1
  · rw [h]; rfl
  · have h0 : m / 2 ^ k % 2 = 0 := by omega
    rw [h0]; rfl

/-- A slice of ints of the call's own, at most m long. -/
def MaskOf (w : World) (n m : Nat) (e : Ending) (w' : World) : Prop :=
  ∃ A k c, e = .returned (.slice A k c) ∧ Ow w' w.heap.size 3 ILit A k c (movesN n m) ∧ k ≤ n ∧ (∀ b, (Value.slice A k c).ownBlock = some b → w.heap.size ≤ b ∧ b < w'.heap.size) ∧ Below w.heap.size w w'

set_option maxHeartbeats 1000000 in
theorem inMask_c (mask : Nat) (n : Nat) (w : World) (hm : mask ≤ 1048576) (hn : n ≤ 20) :
    Calls Try.prog 28 #[.int .i64 mask, .int .i64 n] w (MaskOf w n mask) := by
  obtain ⟨i0, hi, hi0, hi1, hi2⟩ := info_parts info_int
  go_enter Try.func28, Try.ntmps28
  go_wp2_with fail
  go_loopw [5, 6] (fun v i wr => ∃ (k j : Nat), k ≤ n ∧ i = .int .i64 k ∧ j ≤ k ∧ wr.ownsRow w.heap.size 3 1 v j ((movesN k mask).map ILit) ∧ Below w.heap.size w wr) (fun _ i _ => n - (intOf i).toNat)
  case atStart => exact ⟨0, 0, by omega, rfl, by omega, World.ownsRow_made _ #[] 0 (Nat.le_refl _) (by decide) rfl, by (repeat' (first | (with_reducible exact Below.refl _ _) | (with_reducible assumption) | (with_reducible refine Below.alloc ?_ ?_ _) | (with_reducible refine below_plus ?_ ?_ _ _) | (with_reducible refine Below.drew ?_) | (with_reducible refine Below.setCell ?_ ?_ _) | (with_reducible refine below_adv ?_ ?_ _) | go_size | (simp; done) | (simp; omega)))⟩
  case round =>
    obtain ⟨k, j, hk, rfl, hjk, hB, hb⟩ := hrel
    have hzr := hb.size
    by_cases hlt : k < n
    · have hbt := bit_test mask k
      have hs := movesN_succ k mask
      cases ht : mask.testBit k
      · rw [ht] at hbt hs
        rw [if_neg (by decide), List.append_nil] at hs
        have HS := Lib.hid hs
        clear hs ht
        go_wp2_with fail
        go_roundw
        case rel => exact ⟨k + 1, j, by omega, by go_num, by omega, by rw [HS.out]; exact hB, hb⟩
        case measure => simp [intOf]; omega
      · rw [ht] at hbt hs
        rw [if_pos rfl] at hs
        have HS := Lib.hid hs
        clear hs ht
        go_wp2_with (at_builtin; refine wpList_app1 w wr rfl _ _ 30 rfl 3 i0 (.int .i64 0) 8 Try.underlying30 hi hi0 hi1 hi2 rfl (by decide) w.heap.size _ j _ (by rfl) hB _ rfl _ (by rfl) rfl (by omega) hb hzr ?_; intro v8 w8 hO8 hb8 hg8)
        rw [ints_snoc, ← HS.out] at hO8
        go_roundw
        case rel => exact ⟨k + 1, j + 1, by omega, by go_num, by omega, hO8, hb8⟩
        case measure => simp [intOf]; omega
    · obtain rfl : k = n := by omega
      have hlt5 := hB.lt
      obtain ⟨A5, c5, rfl, hW5⟩ := Ow.of_own hB
      clear hB
      go_wp2_with fail
      go_ret
      exact ⟨_, _, _, rfl, hW5, hjk, hlt5, hb⟩
end Go.Proofs.Ytpngddcdcpepmaa
