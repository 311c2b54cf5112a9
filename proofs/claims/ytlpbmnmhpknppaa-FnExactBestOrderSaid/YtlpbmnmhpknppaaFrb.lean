/- The exact laws' helpers on []bool once more, in the words of straight walks (wip/steps.py). -/
import Derived.Test.YtlpbmnmhpknppaaHb
import Derived.Test.YtlpbmnmhpknppaaFr
set_option linter.unusedVariables false
set_option linter.unusedSimpArgs false
namespace Go.Proofs.Ytlpbmnmhpknppaa
open Go.RowKit

theorem eqBoolS_t (A : Option Addr) (n c : Nat) (xs : List Bool) (A2 : Option Addr) (n2 c2 : Nat) (w : World) (B B2 : Nat) (hS : Sl w B OLit A n c xs) (hB : B ≤ w.heap.size) (hT : Sl w B2 OLit A2 n2 c2 xs) (hB2 : B2 ≤ w.heap.size) :
    Calls Try.prog 53 #[.slice A n c, .slice A2 n2 c2] w fun e w' => e = .returned (.bool true) ∧ Below w.heap.size w w' := by
  have := eqBoolS_c A n c xs A2 n2 c2 xs w B B2 hS hB hT hB2
  rwa [eqL_true rfl] at this
def MarkedB (w : World) (lo hi : Nat) (A : Option Addr) (n c : Nat) (k : Int) (e : Ending) (w' : World) : Prop :=
  e = .returned (.int .i64 (k + n)) ∧ Ow w' lo 4 OLit A n c (mkBoolS k n) ∧ Below lo w w' ∧ w'.heap.size = w.heap.size ∧ ∀ b, hi ≤ b → b < w.heap.size → w'.heap[b]? = w.heap[b]?
theorem markBoolS_f (A : Option Addr) (n c : Nat) (xs : List Bool) (k0 : Int) (w : World) (lo hi : Nat) (hO : Ow w lo 4 OLit A n c xs) (hlo : lo ≤ w.heap.size) (hhi : ∀ g, A = some ⟨g, 0, none⟩ → g < hi ∨ w.heap.size ≤ hi) (hk0 : 0 ≤ k0) (hk1 : k0 ≤ 1099511627776) (hn : n ≤ 1099511627776) :
    Calls Try.prog 54 #[.slice A n c, .int .i64 k0] w (MarkedB w lo hi A n c k0) := by
  refine (markBoolS_c A n c xs k0 w lo hO hk0 hk1 hn).mono ?_
  rintro e w1 ⟨rfl, h1, h2, h3⟩
  have hb : ∀ b, b < w.heap.size → (b < lo ∨ hi ≤ b) → w1.heap[b]? = w.heap[b]? := fun b hlt hor => by
    refine h2.block b hlt ?_
    by_cases h0 : n = 0
    · rw [if_pos h0]; simp
    · obtain ⟨g, cs, rfl, hg, hh, -⟩ := hO.2.2.2 (by omega)
      rw [if_neg h0]
      simp only [Option.map_some, ne_eq, Option.some.injEq]
      intro e
      subst e
      rcases hor with h | h
      · omega
      · rcases hhi b rfl with h' | h' <;> omega
  exact ⟨rfl, h1, ⟨h2.os, h2.tape, h2.output, by omega, fun b hlt => hb b (by omega) (.inl hlt)⟩, h3, fun b hhb hlt => hb b hlt (.inr hhb)⟩
end Go.Proofs.Ytlpbmnmhpknppaa
