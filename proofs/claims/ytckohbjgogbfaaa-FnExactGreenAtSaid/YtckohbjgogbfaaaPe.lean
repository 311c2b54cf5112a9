/- My words and contracts, laid together: Ce1, Ce2. -/
import Derived.Test.YtckohbjgogbfaaaPd
set_option linter.unusedVariables false
set_option linter.unusedSimpArgs false
/- lostOf, walked: the program's and the reference's. -/
namespace Go.Proofs.Ytckohbjgogbfaaa
open Go.RowKit

theorem lostUp_succ {t list : List (List Int)} {k : Nat} {xs ys : List Int} (hx : list[k]? = some xs) (hy : list[(k + 1) % list.length]? = some ys) : lostUp t list (k + 1) = lostUp t list k + changeN t xs ys := by
  simp [lostUp, nxt, List.getD_eq_getElem?_getD, hx, hy]
theorem next_at {k n : Nat} (h : k < n) : (k + 1) % n < n := Nat.mod_lt _ (by omega)
theorem int_mod (a b : Nat) : ((a : Int) + 1) % (b : Int) = (((a + 1) % b : Nat) : Int) := by
  rw [show ((a : Int) + 1) = ((a + 1 : Nat) : Int) from rfl]; exact (Int.natCast_emod (a + 1) b).symm

end Go.Proofs.Ytckohbjgogbfaaa

/- LostTime, walked: the reference's and the program's. -/
namespace Go.Proofs.Ytckohbjgogbfaaa
open Go.RowKit

theorem ringB_in {t list : List (List Int)} (h : ringB t list = true) : ∀ p ∈ list, ∀ x ∈ p, 0 ≤ x ∧ x < t.length := fun p hp => fitsB_in ((ringB_iff.1 h).2 p hp)
theorem ring_out {t list : List (List Int)} (h : inB list.length 1 5 = false) : ringB t list = false := by simp [ringB, h]
theorem ring_bad {t list : List (List Int)} {k : Nat} {xs : List Int} (hx : list[k]? = some xs) (h : fitsB t xs = false) : ringB t list = false := by
  have : list.all (fitsB t) = false := by rw [List.all_eq_false]; exact ⟨xs, List.mem_of_getElem? hx, by simp [h]⟩
  simp [ringB, this]
theorem ring_all {t list : List (List Int)} (h : list.all (fitsB t) = true) : ringB t list = inB list.length 1 5 := by simp [ringB, h]

end Go.Proofs.Ytckohbjgogbfaaa
