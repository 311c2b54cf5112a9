/- The exact laws' helpers on []bool once more, in the words of straight walks (wip/steps.py). -/
import Derived.Test.YtpngddcdcpepmaaHb
import Derived.Test.YtpngddcdcpepmaaFr
set_option linter.unusedVariables false
set_option linter.unusedSimpArgs false
namespace Go.Proofs.Ytpngddcdcpepmaa
open Go.RowKit

def FreshBools (w : World) (n : Nat) (xs : List Bool) (e : Ending) (w1 : World) : Prop :=
  ∃ g, e = .returned (.slice (some ⟨g, 0, none⟩) n n) ∧ Ow w1 g 4 OLit (some ⟨g, 0, none⟩) n n xs ∧ w.heap.size ≤ g ∧ g < w1.heap.size ∧ Below w.heap.size w w1
theorem toBoolS_f (A : Option Addr) (n c : Nat) (xs : List Bool) (w : World) (B : Nat) (hS : Sl w B OLit A n c xs) (hB : B ≤ w.heap.size) (hn : n ≤ 1099511627776) :
    Calls Try.prog 20 #[.slice A n c] w (FreshBools w n xs) := by
  refine (toBoolS_c A n c xs w B hS hB hn).mono ?_
  rintro e w1 ⟨rfl, rfl⟩
  have hl := hS.len
  refine ⟨w.heap.size, rfl, ?_, Nat.le_refl _, by simp, (Below.refl _ _).alloc (Nat.le_refl _) _⟩
  have := Ow.new w OLit xs 4 (by omega)
  rw [hl] at this
  exact this
theorem eqBoolS_t (A : Option Addr) (n c : Nat) (xs : List Bool) (A2 : Option Addr) (n2 c2 : Nat) (w : World) (B B2 : Nat) (hS : Sl w B OLit A n c xs) (hB : B ≤ w.heap.size) (hT : Sl w B2 OLit A2 n2 c2 xs) (hB2 : B2 ≤ w.heap.size) :
    Calls Try.prog 22 #[.slice A n c, .slice A2 n2 c2] w fun e w' => e = .returned (.bool true) ∧ Below w.heap.size w w' := by
  have := eqBoolS_c A n c xs A2 n2 c2 xs w B B2 hS hB hT hB2
  rwa [eqL_true rfl] at this
end Go.Proofs.Ytpngddcdcpepmaa
