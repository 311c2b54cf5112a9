/- The reference's power and tripCost, walked. -/
import Derived.Test.YtillmnhhkhjpkaaSb4
set_option linter.unusedVariables false
set_option linter.unusedSimpArgs false
namespace Go.Proofs.Ytillmnhhkhjpkaa
open Go.RowKit

theorem power_c (k d : Nat) (w : World) (hk : k ≤ 3) (hd : d ≤ 6) :
    Calls Try.prog 17 #[.int .i64 k, .int .i64 d] w fun e w' => e = .returned (.int .i64 ((k ^ d : Nat) : Int)) ∧ w' = w := by
  go_enter Try.func17, Try.ntmps17
  go_wp2_with fail
  go_loopw [5, 6] (fun v i wr => ∃ j : Nat, j ≤ d ∧ i = .int .i64 j ∧ v = .int .i64 ((k ^ j : Nat) : Int) ∧ wr = w) (fun _ i _ => d - (intOf i).toNat)
  case atStart => exact ⟨0, by omega, rfl, rfl, rfl⟩
  case round =>
    obtain ⟨j, hj, rfl, rfl, rfl⟩ := hrel
    have hP : k ^ j ≤ 3 ^ 6 := Nat.le_trans (Nat.pow_le_pow_left hk j) (Nat.pow_le_pow_right (by omega) (by omega))
    have hS := Nat.pow_succ k j
    obtain ⟨P, hP2⟩ : ∃ P, k ^ j = P := ⟨_, rfl⟩
    rw [hP2] at hP hS ⊢
    have HS := Lib.hid hS
    have hPk : P * k ≤ 3 ^ 6 * 3 := Nat.mul_le_mul hP hk
    obtain ⟨R, hR⟩ : ∃ R, P * k = R := ⟨_, rfl⟩
    have hw : IntKind.i64.wrap ((P : Int) * (k : Int)) = (R : Int) := by rw [← hR, IntWalk.i64_in _ (by rw [← Int.natCast_mul]; omega)]; simp
    have HR := Lib.hid hR
    clear hS hPk hR
    by_cases hlt : j < d
    · clear hP2
      go_wp2_with fail
      clear hw
      go_roundw
      case rel => exact ⟨j + 1, by omega, by go_num, by rw [HS.out, HR.out], by first | rfl | trivial⟩
      case measure => simp [intOf]; omega
    · obtain rfl : j = d := by omega
      have HP := Lib.hid hP2
      clear hP2 hw
      go_wp2_with fail
      go_ret
      exact ⟨by rw [HP.out]; rfl, rfl⟩
def NLit (s : Nat) : Value := .int .i64 s
def prC (c : CallT) : Int × Int := (c.1, c.2.1)
theorem trp_step {cs : List CallT} {ss : List Nat} {k i s : Nat} {c : CallT} (a : Int) (hc : cs[k]? = some c) (hs : ss[k]? = some s) :
    trp a ((cs.drop k).map prC) (ss.drop k) i = if s = i then dst a c.1 + dst c.1 c.2.1 + trp c.2.1 ((cs.drop (k + 1)).map prC) (ss.drop (k + 1)) i else trp a ((cs.drop (k + 1)).map prC) (ss.drop (k + 1)) i := by
  obtain ⟨l1, e1⟩ := List.getElem?_eq_some_iff.1 hc
  obtain ⟨l2, e2⟩ := List.getElem?_eq_some_iff.1 hs
  rw [List.drop_eq_getElem_cons l1, List.drop_eq_getElem_cons l2, e1, e2, List.map_cons, trp]
  rfl
end Go.Proofs.Ytillmnhhkhjpkaa
