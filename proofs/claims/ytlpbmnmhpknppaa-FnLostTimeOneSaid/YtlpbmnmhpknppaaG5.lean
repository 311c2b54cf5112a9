/- A table that reads so in every world in which the blocks from lo on stand: 'Kept2'. -/
import Derived.Test.YtlpbmnmhpknppaaG2
set_option linter.unusedVariables false
set_option linter.unusedSimpArgs false
namespace Go.Proofs.Ytlpbmnmhpknppaa
open Go.RowKit

theorem Ow2.sl2hi {α : Type} {w : World} {lo hi E2 E n c : Nat} {f : α → Value} {A : Option Addr} {xss : List (List α)} (h : Ow2 w lo hi E2 E f A n c xss) : Sl2 w hi f A n c xss := by
  have hn := h.len
  obtain ⟨vs, h1, h2, h3⟩ := h
  obtain ⟨e1, e2, e3, e4⟩ := h1.sl
  refine ⟨hn, e2, e3, fun hp => ?_⟩
  obtain ⟨b, o, hA, hb, hc⟩ := e4 hp
  refine ⟨b, o, hA, h3 b o (by
    obtain ⟨g, cs, hA', -⟩ := h1.2.2.2 hp
    exact hA), fun j xs hj => ?_⟩
  have hl := (List.getElem?_eq_some_iff.1 hj).1
  have hl2 : j < vs.length := by rw [h2.1]; exact hl
  obtain ⟨A', n', c', f1, f2, f3⟩ := h2.2.1 j vs[j] xs (List.getElem?_eq_getElem hl2) hj
  refine ⟨A', n', c', ?_, ?_⟩
  · rw [hc j vs[j] (List.getElem?_eq_getElem hl2), f1]; rfl
  · obtain ⟨g1, g2, g3, g4⟩ := f2.sl
    refine ⟨g1, g2, g3, fun hp2 => ?_⟩
    obtain ⟨b2, o2, hA2, hb2, hc2⟩ := g4 hp2
    subst hA2
    exact ⟨b2, o2, rfl, (f3 b2 (by rw [f1]; rfl)).2, hc2⟩
theorem Sl2.drop {α : Type} {w : World} {B n c : Nat} {f : α → Value} {A : Option Addr} {xss : List (List α)} (h : Sl2 w B f A n c xss) {k : Nat} (hk : k ≤ n) : Sl2 w B f (if c = k then A else A.map (·.add k)) (n - k) (c - k) (xss.drop k) := by
  obtain ⟨h1, h2, h3, h4⟩ := h
  refine ⟨by rw [List.length_drop, h1], by omega, by omega, fun hn => ?_⟩
  obtain ⟨b, o, rfl, hb, hc⟩ := h4 (by omega)
  rw [if_neg (by omega)]
  refine ⟨b, o + k, ?_, hb, fun j x hx => ?_⟩
  · simp only [Option.map_some, Addr.add_lit]
  · rw [List.getElem?_drop] at hx
    obtain ⟨A', n', c', e1, e2⟩ := hc _ _ hx
    exact ⟨A', n', c', by rwa [← Nat.add_assoc] at e1, e2⟩

/-- A table that reads so in every world in which the blocks from lo on stand. -/
def Kept2 {α : Type} (w : World) (lo : Nat) (f : α → Value) (A : Option Addr) (n c : Nat) (t : List (List α)) : Prop :=
  ∀ w', (∀ b, lo ≤ b → b < w.heap.size → w'.heap[b]? = w.heap[b]?) → Sl2 w' w.heap.size f A n c t
theorem Ow2.kept2 {α : Type} {w : World} {lo hi E2 E n c : Nat} {f : α → Value} {A : Option Addr} {xss : List (List α)} (h : Ow2 w lo hi E2 E f A n c xss) (hh : hi ≤ w.heap.size) : Kept2 w lo f A n c xss := fun w' hw =>
  ((h.keep fun b h1 _ h3 => hw b h1 h3).sl2hi).more hh
theorem Kept2.drop {α : Type} {w : World} {lo n c : Nat} {f : α → Value} {A : Option Addr} {xss : List (List α)} (h : Kept2 w lo f A n c xss) {k : Nat} (hk : k ≤ n) : Kept2 w lo f (if c = k then A else A.map (·.add k)) (n - k) (c - k) (xss.drop k) := fun w' hw => (h w' hw).drop hk
theorem Kept2.here {α : Type} {w : World} {lo n c : Nat} {f : α → Value} {A : Option Addr} {xss : List (List α)} (h : Kept2 w lo f A n c xss) : Sl2 w w.heap.size f A n c xss := h w fun _ _ _ => rfl
theorem Kept2.len {α : Type} {w : World} {lo n c : Nat} {f : α → Value} {A : Option Addr} {xss : List (List α)} (h : Kept2 w lo f A n c xss) : xss.length = n := h.here.len
end Go.Proofs.Ytlpbmnmhpknppaa
