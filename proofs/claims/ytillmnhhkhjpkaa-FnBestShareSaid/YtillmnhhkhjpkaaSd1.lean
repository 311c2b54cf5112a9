/- What the closure of BestShare works on. -/
import Derived.Test.YtillmnhhkhjpkaaSc6
import Derived.Test.YtillmnhhkhjpkaaSb5
import Derived.WalkSpells
import Derived.OneCell
set_option linter.unusedVariables false
set_option linter.unusedSimpArgs false
namespace Go.Proofs.Ytillmnhhkhjpkaa
open Go.RowKit

theorem below_undrew {w w2 : World} (h : Below w.drew.heap.size w.drew w2) : Below w.heap.size w w2 := ⟨h.os, h.tape, h.output, h.size, h.block⟩
/-- Only three blocks of the old ones changed. -/
def Ch (g1 g2 g3 : Nat) (w w' : World) : Prop := w'.os = w.os ∧ w'.tape = w.tape ∧ w'.output = w.output ∧ w.heap.size ≤ w'.heap.size ∧ ∀ k, k < w.heap.size → k ≠ g1 → k ≠ g2 → k ≠ g3 → w'.heap[k]? = w.heap[k]?
section
variable {g1 g2 g3 lo : Nat} {w w' w'' : World}
theorem Ch.refl (g1 g2 g3 : Nat) (w : World) : Ch g1 g2 g3 w w := ⟨rfl, rfl, rfl, Nat.le_refl _, fun _ _ _ _ _ => rfl⟩
theorem Ch.trans (h : Ch g1 g2 g3 w w') (h2 : Ch g1 g2 g3 w' w'') : Ch g1 g2 g3 w w'' :=
  ⟨h2.1.trans h.1, h2.2.1.trans h.2.1, h2.2.2.1.trans h.2.2.1, Nat.le_trans h.2.2.2.1 h2.2.2.2.1, fun k h1 h3 h4 h5 => (h2.2.2.2.2 k (Nat.lt_of_lt_of_le h1 h.2.2.2.1) h3 h4 h5).trans (h.2.2.2.2 k h1 h3 h4 h5)⟩
theorem Ch.of (h : Below w.heap.size w w') : Ch g1 g2 g3 w w' := ⟨h.os, h.tape, h.output, h.size, fun k h1 _ _ _ => h.block k h1⟩
theorem Ch.size (h : Ch g1 g2 g3 w w') : w.heap.size ≤ w'.heap.size := h.2.2.2.1
theorem Ch.set (w : World) (g i : Nat) (u : Value) (hg : g = g1 ∨ g = g2 ∨ g = g3) : Ch g1 g2 g3 w (w.setCell ⟨g, i, none⟩ u) := ⟨rfl, rfl, rfl, by simp [World.setCell], fun k _ h1 h2 h3 => Below.heap_setCell w _ _ k (show k ≠ g by omega)⟩
theorem Ch.drew (h : Ch g1 g2 g3 w w') : Ch g1 g2 g3 w w'.drew := h
theorem Ch.below {B : Nat} (h : Ch g1 g2 g3 w w') (h1 : B ≤ g1) (h2 : B ≤ g2) (h3 : B ≤ g3) (h4 : B ≤ w.heap.size) : Below B w w' := ⟨h.1, h.2.1, h.2.2.1, h.2.2.2.1, fun k hk => h.2.2.2.2 k (by omega) (by omega) (by omega) (by omega)⟩
end

def leastS : Best → Int
  | none => -1
  | some s => s.1
def bestL : Best → List Nat
  | none => []
  | some s => s.2
/-- The closure's variables: the least cost, the list, the share's row, the best share so far, the cars, the closure itself. -/
def ShSt (X : World) (gC gT gB gM gR gS gE lo : Nat) (vC vT : Value) (n : Nat) (S : Best) (xs : List Nat) : Prop :=
  X.heap[gC]? = some (.cells #[vC] 23 (0, 0)) ∧ X.heap[gT]? = some (.cells #[vT] 24 (0, 0)) ∧
  (∃ Ab nb cb, X.heap[gB]? = some (.cells #[.slice Ab nb cb] 23 (0, 0)) ∧ Ow X lo 3 NLit Ab nb cb (bestL S)) ∧
  X.heap[gM]? = some (.cells #[.int .i64 (leastS S)] 3 (0, 0)) ∧
  Ow X gR 3 NLit (some ⟨gR, 0, none⟩) n n xs ∧
  X.heap[gS]? = some (.cells #[.slice (some ⟨gR, 0, none⟩) n n] 23 (0, 0)) ∧
  X.heap[gE]? = some (.cells #[.func (.func 12) #[] #[.pointer (some ⟨gM, 0, none⟩), .pointer (some ⟨gT, 0, none⟩), .pointer (some ⟨gS, 0, none⟩), .pointer (some ⟨gB, 0, none⟩), .pointer (some ⟨gC, 0, none⟩), .pointer (some ⟨gE, 0, none⟩)]] 34 (0, 0)) ∧
  (∀ s, S = some s → 0 ≤ s.1)
/-- The order of the blocks. -/
def Row7 (gC gT gB gM gR gS gE lo : Nat) : Prop := gC < gT ∧ gT < gB ∧ gB < gM ∧ gM < gR ∧ gR < gS ∧ gS < gE ∧ gE < lo
section
variable {X X' : World} {gC gT gB gM gR gS gE lo n : Nat} {vC vT : Value} {S : Best} {xs : List Nat}
theorem ShSt.below (h : ShSt X gC gT gB gM gR gS gE lo vC vT n S xs) (hb : Below X.heap.size X X') : ShSt X' gC gT gB gM gR gS gE lo vC vT n S xs := by
  obtain ⟨h1, h2, ⟨Ab, nb, cb, h3, h4⟩, h5, h6, h7, h8, h9⟩ := h
  have k : ∀ {g : Nat} {o : Obj}, X.heap[g]? = some o → X'.heap[g]? = some o := fun {g o} hg => (hb.block g (lt_of_heap hg)).trans hg
  exact ⟨k h1, k h2, ⟨Ab, nb, cb, k h3, h4.below hb⟩, k h5, h6.below hb, k h7, k h8, h9⟩
/-- A share's place is set. -/
theorem ShSt.put (h : ShSt X gC gT gB gM gR gS gE lo vC vT n S xs) (hr : Row7 gC gT gB gM gR gS gE lo) {j : Nat} (hj : j < n) (y : Nat) : ShSt (X.setCell ⟨gR, j, none⟩ (.int .i64 y)) gC gT gB gM gR gS gE lo vC vT n S (xs.set j y) := by
  obtain ⟨r1, r2, r3, r4, r5, r6, r7⟩ := hr
  obtain ⟨h1, h2, ⟨Ab, nb, cb, h3, h4⟩, h5, h6, h7, h8, h9⟩ := h
  have k : ∀ g, g ≠ gR → (X.setCell ⟨gR, j, none⟩ (.int .i64 y)).heap[g]? = X.heap[g]? := fun g e => Below.heap_setCell X ⟨gR, j, none⟩ _ g e
  exact ⟨(k _ (by omega)).trans h1, (k _ (by omega)).trans h2, ⟨Ab, nb, cb, (k _ (by omega)).trans h3, h4.keep fun g hg _ _ => k g (by omega)⟩, (k _ (by omega)).trans h5, h6.setF hj y, (k _ (by omega)).trans h7, (k _ (by omega)).trans h8, h9⟩
/-- A better share is kept. -/
theorem ShSt.best (h : ShSt X gC gT gB gM gR gS gE lo vC vT n S xs) (hr : Row7 gC gT gB gM gR gS gE lo) {x : Int} (hx : 0 ≤ x) {w2 : World} (hb : Below X.heap.size (X.setCell ⟨gM, 0, none⟩ (.int .i64 x)) w2) {A5 : Option Addr} {n5 c5 : Nat} (hO : Ow w2 lo 3 NLit A5 n5 c5 xs) :
    ShSt (w2.setCell ⟨gB, 0, none⟩ (.slice A5 n5 c5)) gC gT gB gM gR gS gE lo vC vT n (some (x, xs)) xs := by
  obtain ⟨r1, r2, r3, r4, r5, r6, r7⟩ := hr
  obtain ⟨h1, h2, ⟨Ab, nb, cb, h3, h4⟩, h5, h6, h7, h8, h9⟩ := h
  have k1 : ∀ g, g ≠ gM → (X.setCell ⟨gM, 0, none⟩ (.int .i64 x)).heap[g]? = X.heap[g]? := fun g e => Below.heap_setCell X ⟨gM, 0, none⟩ _ g e
  have k2 : ∀ g, g ≠ gB → (w2.setCell ⟨gB, 0, none⟩ (.slice A5 n5 c5)).heap[g]? = w2.heap[g]? := fun g e => Below.heap_setCell w2 ⟨gB, 0, none⟩ _ g e
  have k : ∀ {g : Nat} {o : Obj}, g ≠ gM → g ≠ gB → X.heap[g]? = some o → (w2.setCell ⟨gB, 0, none⟩ (.slice A5 n5 c5)).heap[g]? = some o := fun {g o} e1 e2 hg =>
    (k2 g e2).trans ((hb.block g (lt_of_heap hg)).trans ((k1 g e1).trans hg))
  have h5' := one_setCell (u := .int .i64 x) h5
  have h6' := h6.keep (w' := X.setCell ⟨gM, 0, none⟩ (.int .i64 x)) fun g hg _ _ => k1 g (by omega)
  have hzX : (X.setCell ⟨gM, 0, none⟩ (.int .i64 x)).heap.size = X.heap.size := by simp [World.setCell]
  have h6'' := h6'.below (w' := w2) (by rw [hzX]; exact hb)
  refine ⟨k (by omega) (by omega) h1, k (by omega) (by omega) h2, ⟨A5, n5, c5, ?_, hO.keep fun g hg _ _ => k2 g (by omega)⟩, ?_, h6''.keep fun g hg _ _ => k2 g (by omega), k (by omega) (by omega) h7, k (by omega) (by omega) h8, fun s hs => by cases hs; exact hx⟩
  · exact one_setCell ((hb.block gB (lt_of_heap h3)).trans ((k1 gB (by omega)).trans h3))
  · exact (k2 gM (by omega)).trans ((hb.block gM (lt_of_heap h5)).trans h5')
end
/-- What the closure leaves. -/
def SrcOf (gC gT gB gM gR gS gE lo : Nat) (vC vT : Value) (n : Nat) (w : World) (k : Nat) (sh : List Nat) (S' : Best) (e : Ending) (w' : World) : Prop :=
  e = .returned (.tuple #[]) ∧ Ch gM gB gR w w' ∧ ∃ xs', xs'.take k = sh ∧ ShSt w' gC gT gB gM gR gS gE lo vC vT n S' xs'
theorem small_cost {f : Flt} {b : Int} (h : f.small b) : 0 ≤ f.cost := by
  have := (h 0).2.2.1
  unfold Flt.cost; omega
end Go.Proofs.Ytillmnhhkhjpkaa
