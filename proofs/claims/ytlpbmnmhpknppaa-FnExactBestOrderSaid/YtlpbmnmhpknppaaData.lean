/- Slices as lists: 'Sl w B f A n c xs': the slice value (A, n, c) holds the cells f x for the x of xs, in a block below B. -/
import Derived.Test.YtlpbmnmhpknppaaMem
set_option linter.unusedVariables false
set_option linter.unusedSimpArgs false
namespace Go.Proofs.Ytlpbmnmhpknppaa
open Go.RowKit

def Sl {α : Type} (w : World) (B : Nat) (f : α → Value) (A : Option Addr) (n c : Nat) (xs : List α) : Prop :=
  xs.length = n ∧ n ≤ c ∧ c ≤ 9223372036854775807 ∧
  (0 < n → ∃ b o, A = some ⟨b, o, none⟩ ∧ b < B ∧ ∀ j x, xs[j]? = some x → w.cell? ⟨b, o + j, none⟩ = some (f x))

section
variable {α : Type} {w w' : World} {B B' n c : Nat} {f : α → Value} {A : Option Addr} {xs : List α}

theorem Sl.len (h : Sl w B f A n c xs) : xs.length = n := h.1
theorem Sl.cap (h : Sl w B f A n c xs) : n ≤ c ∧ c ≤ 9223372036854775807 := ⟨h.2.1, h.2.2.1⟩

/-- An element inside: its address and its cell. -/
theorem Sl.at_ (h : Sl w B f A n c xs) {k : Nat} (hk : k < n) : ∃ b o x, A = some ⟨b, o, none⟩ ∧ b < B ∧ xs[k]? = some x ∧ w.cell? ⟨b, o + k, none⟩ = some (f x) := by
  obtain ⟨h1, _, _, h4⟩ := h
  obtain ⟨b, o, hA, hb, hc⟩ := h4 (by omega)
  have hl : k < xs.length := by omega
  exact ⟨b, o, xs[k], hA, hb, List.getElem?_eq_getElem hl, hc k _ (List.getElem?_eq_getElem hl)⟩

theorem Sl.more (h : Sl w B f A n c xs) (hB : B ≤ B') : Sl w B' f A n c xs := by
  obtain ⟨h1, h2, h3, h4⟩ := h
  refine ⟨h1, h2, h3, fun hn => ?_⟩
  obtain ⟨b, o, hA, hb, hc⟩ := h4 hn
  exact ⟨b, o, hA, by omega, hc⟩

theorem Sl.keep (h : Sl w B f A n c xs) (hk : ∀ b o, b < B → w'.cell? ⟨b, o, none⟩ = w.cell? ⟨b, o, none⟩) : Sl w' B f A n c xs := by
  obtain ⟨h1, h2, h3, h4⟩ := h
  refine ⟨h1, h2, h3, fun hn => ?_⟩
  obtain ⟨b, o, hA, hb, hc⟩ := h4 hn
  exact ⟨b, o, hA, hb, fun j x hx => (hk _ _ hb).trans (hc j x hx)⟩

theorem Sl.alloc (h : Sl w B f A n c xs) (hB : B ≤ w.heap.size) (o : Obj) : Sl (w.alloc o) B f A n c xs :=
  h.keep fun b i hb => World.cell?_alloc_lt w o ⟨b, i, none⟩ (by show b < _; omega)
theorem Sl.plus (h : Sl w B f A n c xs) (hB : B ≤ w.heap.size) (os : Array Obj) (d : Nat) : Sl (plus w os d) B f A n c xs :=
  h.keep fun b i hb => cell?_plus w os d b i (by omega)
theorem Sl.drew (h : Sl w B f A n c xs) : Sl w.drew B f A n c xs := h
theorem Sl.drewN (h : Sl w B f A n c xs) (k : Nat) : Sl (w.drewN k) B f A n c xs := h
theorem Sl.setCell (h : Sl w B f A n c xs) {p : Addr} (hB : B ≤ p.block) (u : Value) : Sl (w.setCell p u) B f A n c xs :=
  h.keep fun b i hb => World.cell?_setCell_other w p ⟨b, i, none⟩ u (fun e => by subst e; simp at hB; omega)
theorem Sl.below (h : Sl w B f A n c xs) (hb : Below B w w') : Sl w' B f A n c xs := h.keep fun b i hlt => hb.cell (p := ⟨b, i, none⟩) hlt

theorem Sl.nil (w : World) (B : Nat) (f : α → Value) : Sl w B f none 0 0 ([] : List α) := ⟨rfl, Nat.le_refl _, by omega, fun h => absurd h (by omega)⟩

/-- A cut at the front: 's[:k]'. -/
theorem Sl.take (h : Sl w B f A n c xs) {k : Nat} (hk : k ≤ n) : Sl w B f A k c (xs.take k) := by
  obtain ⟨h1, h2, h3, h4⟩ := h
  refine ⟨by rw [List.length_take]; omega, by omega, h3, fun hn => ?_⟩
  obtain ⟨b, o, hA, hb, hc⟩ := h4 (by omega)
  refine ⟨b, o, hA, hb, fun j x hx => hc j x ?_⟩
  rw [List.getElem?_take] at hx
  split at hx
  · exact hx
  · cases hx

/-- A cut behind: 's[k:]'; the model keeps the old address where k is the capacity. -/
theorem Sl.drop (h : Sl w B f A n c xs) {k : Nat} (hk : k ≤ n) : Sl w B f (if c = k then A else A.map (·.add k)) (n - k) (c - k) (xs.drop k) := by
  obtain ⟨h1, h2, h3, h4⟩ := h
  refine ⟨by rw [List.length_drop, h1], by omega, by omega, fun hn => ?_⟩
  obtain ⟨b, o, rfl, hb, hc⟩ := h4 (by omega)
  rw [if_neg (by omega)]
  refine ⟨b, o + k, ?_, hb, fun j x hx => ?_⟩
  · simp only [Option.map_some, Addr.add]
    split
    · subst_vars; rfl
    · rfl
  · rw [List.getElem?_drop] at hx
    have := hc _ _ hx
    rwa [← Nat.add_assoc] at this
end
end Go.Proofs.Ytlpbmnmhpknppaa
