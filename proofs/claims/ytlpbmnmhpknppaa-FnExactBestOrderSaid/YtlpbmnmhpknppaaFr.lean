/- The exact laws' helpers on []int once more, in the words of straight walks (wip/steps.py). -/
import Derived.Test.YtlpbmnmhpknppaaHi
set_option linter.unusedVariables false
set_option linter.unusedSimpArgs false
namespace Go.Proofs.Ytlpbmnmhpknppaa
open Go.RowKit

theorem Ow.past {α : Type} {w w' : World} {base E n c hi : Nat} {f : α → Value} {A : Option Addr} {xs : List α} (h : Ow w base E f A n c xs) (hk : ∀ b, hi ≤ b → b < w.heap.size → w'.heap[b]? = w.heap[b]?) (hb : hi ≤ base) : Ow w' base E f A n c xs :=
  h.keep fun g hg hlt _ => hk g (by omega) hlt

/-- A slice of ints of the call's own. -/
def OwInts2 (w : World) (xs : List Int) (e : Ending) (w' : World) : Prop :=
  ∃ A n c, e = .returned (.slice A n c) ∧ Ow w' w.heap.size 3 ILit A n c xs ∧ Below w.heap.size w w'

def FreshInts (w : World) (n : Nat) (xs : List Int) (e : Ending) (w1 : World) : Prop :=
  ∃ g, e = .returned (.slice (some ⟨g, 0, none⟩) n n) ∧ Ow w1 g 3 ILit (some ⟨g, 0, none⟩) n n xs ∧ w.heap.size ≤ g ∧ g < w1.heap.size ∧ Below w.heap.size w w1
theorem toIntS_f (A : Option Addr) (n c : Nat) (xs : List Int) (w : World) (B : Nat) (hS : Sl w B ILit A n c xs) (hB : B ≤ w.heap.size) (hn : n ≤ 1099511627776) :
    Calls Try.prog 32 #[.slice A n c] w (FreshInts w n xs) := by
  refine (toIntS_c A n c xs w B hS hB hn).mono ?_
  rintro e w1 ⟨rfl, rfl⟩
  have hl := hS.len
  refine ⟨w.heap.size, rfl, ?_, Nat.le_refl _, by simp, (Below.refl _ _).alloc (Nat.le_refl _) _⟩
  have := Ow.new w ILit xs 3 (by omega)
  rw [hl] at this
  exact this
theorem eqIntS_t (A : Option Addr) (n c : Nat) (xs : List Int) (A2 : Option Addr) (n2 c2 : Nat) (w : World) (B B2 : Nat) (hS : Sl w B ILit A n c xs) (hB : B ≤ w.heap.size) (hT : Sl w B2 ILit A2 n2 c2 xs) (hB2 : B2 ≤ w.heap.size) :
    Calls Try.prog 34 #[.slice A n c, .slice A2 n2 c2] w fun e w' => e = .returned (.bool true) ∧ Below w.heap.size w w' := by
  have := eqIntS_c A n c xs A2 n2 c2 xs w B B2 hS hB hT hB2
  rwa [eqL_true rfl] at this
def MarkedI (w : World) (lo hi : Nat) (A : Option Addr) (n c : Nat) (k : Int) (e : Ending) (w' : World) : Prop :=
  e = .returned (.int .i64 (k + n)) ∧ Ow w' lo 3 ILit A n c (mkIntS k n) ∧ Below lo w w' ∧ w'.heap.size = w.heap.size ∧ ∀ b, hi ≤ b → b < w.heap.size → w'.heap[b]? = w.heap[b]?
theorem markIntS_f (A : Option Addr) (n c : Nat) (xs : List Int) (k0 : Int) (w : World) (lo hi : Nat) (hO : Ow w lo 3 ILit A n c xs) (hlo : lo ≤ w.heap.size) (hhi : ∀ g, A = some ⟨g, 0, none⟩ → g < hi ∨ w.heap.size ≤ hi) (hk0 : 0 ≤ k0) (hk1 : k0 ≤ 1099511627776) (hn : n ≤ 1099511627776) :
    Calls Try.prog 42 #[.slice A n c, .int .i64 k0] w (MarkedI w lo hi A n c k0) := by
  refine (markIntS_c A n c xs k0 w lo hO hk0 hk1 hn).mono ?_
  rintro e w1 ⟨rfl, h1, h2, h3⟩
  have hb : ∀ b, b < w.heap.size → (b < lo ∨ hi ≤ b) → w1.heap[b]? = w.heap[b]? := fun b hlt hor => by
    refine h2.block b hlt ?_
    by_cases h0 : n = 0
    · rw [if_pos h0]; simp
    · obtain ⟨g, cs, rfl, hg, hh, -⟩ := hO.2.2.2 (by omega)
      rw [if_neg h0]
      simp only [Option.map_some, ne_eq, Option.some.injEq]
      intro e
      subst e
      rcases hor with h | h
      · omega
      · rcases hhi b rfl with h' | h' <;> omega
  exact ⟨rfl, h1, ⟨h2.os, h2.tape, h2.output, by omega, fun b hlt => hb b (by omega) (.inl hlt)⟩, h3, fun b hhb hlt => hb b hlt (.inr hhb)⟩
end Go.Proofs.Ytlpbmnmhpknppaa
