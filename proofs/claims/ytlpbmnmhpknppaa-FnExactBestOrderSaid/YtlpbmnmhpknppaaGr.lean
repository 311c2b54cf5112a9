/- Slices of slices: 'Sl2 w B f A n c xss'; the opening of [][]bool and [][]int. -/
import Derived.Test.YtlpbmnmhpknppaaOpen
set_option linter.unusedVariables false
set_option linter.unusedSimpArgs false
namespace Go.Proofs.Ytlpbmnmhpknppaa
open Go.ChangeShapes Go.WideShapes Go.ChangeAt Go.RowKit Go.Joins Go.Deep

/-- The slice (A, n, c) of slices, whose rows hold the lists of xss; all blocks below B. -/
def Sl2 {α : Type} (w : World) (B : Nat) (f : α → Value) (A : Option Addr) (n c : Nat) (xss : List (List α)) : Prop :=
  xss.length = n ∧ n ≤ c ∧ c ≤ 9223372036854775807 ∧
  (0 < n → ∃ b o, A = some ⟨b, o, none⟩ ∧ b < B ∧ ∀ (j : Nat) (xs : List α), xss[j]? = some xs → ∃ A' n' c', w.cell? ⟨b, o + j, none⟩ = some (.slice A' n' c') ∧ Sl w B f A' n' c' xs)

section
variable {α : Type} {w w' : World} {B B' n c : Nat} {f : α → Value} {A : Option Addr} {xss : List (List α)}
theorem Sl2.len (h : Sl2 w B f A n c xss) : xss.length = n := h.1
theorem Sl2.cap (h : Sl2 w B f A n c xss) : n ≤ c ∧ c ≤ 9223372036854775807 := ⟨h.2.1, h.2.2.1⟩
theorem Sl2.at_ (h : Sl2 w B f A n c xss) {k : Nat} (hk : k < n) : ∃ b o xs A' n' c', A = some ⟨b, o, none⟩ ∧ b < B ∧ xss[k]? = some xs ∧ w.cell? ⟨b, o + k, none⟩ = some (.slice A' n' c') ∧ Sl w B f A' n' c' xs := by
  obtain ⟨h1, _, _, h4⟩ := h
  obtain ⟨b, o, hA, hb, hc⟩ := h4 (by omega)
  have hl : k < xss.length := by omega
  obtain ⟨A', n', c', e1, e2⟩ := hc k _ (List.getElem?_eq_getElem hl)
  exact ⟨b, o, xss[k], A', n', c', hA, hb, List.getElem?_eq_getElem hl, e1, e2⟩
theorem Sl2.more (h : Sl2 w B f A n c xss) (hB : B ≤ B') : Sl2 w B' f A n c xss := by
  obtain ⟨h1, h2, h3, h4⟩ := h
  refine ⟨h1, h2, h3, fun hn => ?_⟩
  obtain ⟨b, o, hA, hb, hc⟩ := h4 hn
  refine ⟨b, o, hA, by omega, fun j xs hj => ?_⟩
  obtain ⟨A', n', c', e1, e2⟩ := hc j xs hj
  exact ⟨A', n', c', e1, e2.more hB⟩
theorem Sl2.keep (h : Sl2 w B f A n c xss) (hk : ∀ b o, b < B → w'.cell? ⟨b, o, none⟩ = w.cell? ⟨b, o, none⟩) : Sl2 w' B f A n c xss := by
  obtain ⟨h1, h2, h3, h4⟩ := h
  refine ⟨h1, h2, h3, fun hn => ?_⟩
  obtain ⟨b, o, hA, hb, hc⟩ := h4 hn
  refine ⟨b, o, hA, hb, fun j xs hj => ?_⟩
  obtain ⟨A', n', c', e1, e2⟩ := hc j xs hj
  exact ⟨A', n', c', (hk _ _ hb).trans e1, e2.keep hk⟩
theorem Sl2.below (h : Sl2 w B f A n c xss) (hb : Below B w w') : Sl2 w' B f A n c xss := h.keep fun b i hlt => hb.cell (p := ⟨b, i, none⟩) hlt
theorem Sl2.nil (w : World) (B : Nat) (f : α → Value) : Sl2 w B f none 0 0 ([] : List (List α)) := ⟨rfl, Nat.le_refl _, by omega, fun h => absurd h (by omega)⟩
end

section
variable {H : Type} {enc : TypeId × Value → H} {P : Program} {w : World} {base : Nat} {held : Bool}
theorem sl2_of_cells {α : Type} {f : α → Value} {a : Addr} {n c : Nat} {xss : List (List α)} (hl : xss.length = n) (hn : n ≤ c) (hc : c ≤ maxLen)
    (hx : ∀ (j : Nat) (xs : List α), xss[j]? = some xs → ∃ A' n' c', w.cell? (a.add j) = some (.slice A' n' c') ∧ Sl w w.heap.size f A' n' c' xs) : Sl2 w w.heap.size f (some a) n c xss := by
  refine ⟨hl, hn, by unfold maxLen at hc; exact hc, fun hp => ?_⟩
  obtain ⟨A0, n0, c0, h0, -⟩ := hx 0 xss[0] (List.getElem?_eq_getElem (by omega))
  obtain ⟨b, o, sp⟩ := a
  have hsp : sp = none := by simpa [Addr.add] using World.cell?_spot h0
  subst hsp
  have hlt := World.block_lt_of_cell? w _ h0
  refine ⟨b, o, rfl, by simpa [Addr.add] using hlt, fun j xs hj => ?_⟩
  obtain ⟨A', n', c', this, h2⟩ := hx j xs hj
  refine ⟨A', n', c', ?_, h2⟩
  unfold Addr.add at this
  split at this
  · subst_vars; simpa using this
  · exact this

theorem open_BoolSS {r : Reach} {b0 : Nat} {t e q : TypeId} {v : Value} {d : DataW H} {p : List MemPlace} (ht : P.underlying t = some (.slice e)) (he : P.underlying e = some (.slice q)) (hq : P.underlying q = some .bool) (ce : P.cellsOf e = 1) (cq : P.cellsOf q = 1)
    (hv : Value.okWide P w r b0 t v) (h : DataW.Trod enc P w base (fun _ => true) held t v d p) :
    ∃ (A : Option Addr) (n c : Nat) (xss : List (List Bool)), v = .slice A n c ∧ Sl2 w w.heap.size OLit A n c xss := by
  obtain ⟨A, n, c, rfl⟩ := okWide_slice ht hv
  obtain ⟨fuel, hf⟩ := h
  rcases open_bool_rows ht he hq ce cq hf with ⟨hcs, _⟩ | ⟨a, len, cap, A', L, C, Bf, hcs, _, hl, hm, _, hcell⟩
  · simp [Value.cells] at hcs
    obtain ⟨rfl, rfl, rfl⟩ := hcs
    exact ⟨none, 0, 0, [], rfl, Sl2.nil _ _ _⟩
  · simp [Value.cells] at hcs
    obtain ⟨rfl, rfl, rfl⟩ := hcs
    refine ⟨some a, n, c, (List.range n).map fun r => (List.range (L r)).map (Bf r), rfl, sl2_of_cells (by simp) hl hm (fun j xs hj => ?_)⟩
    rw [List.getElem?_map] at hj
    by_cases hjn : j < n
    · rw [List.getElem?_range hjn] at hj
      simp at hj
      subst hj
      obtain ⟨h1, h2, h3, h4, h5⟩ := hcell j (by omega)
      refine ⟨A' j, L j, C j, h1, ?_⟩
      cases hA : A' j with
      | none =>
        have hC := h4 hA
        have hL : L j = 0 := by omega
        rw [hC, hL]
        exact Sl.nil _ _ _
      | some a' =>
        refine sl_of_cells (by simp) h2 h3 (fun i x hi => ?_)
        rw [List.getElem?_map] at hi
        by_cases hil : i < L j
        · rw [List.getElem?_range hil] at hi
          simp at hi
          subst hi
          exact (h5 a' hA).2 i (by omega)
        · rw [List.getElem?_eq_none (by simp; omega)] at hi
          cases hi
    · rw [List.getElem?_eq_none (by simp; omega)] at hj
      cases hj
end
end Go.Proofs.Ytlpbmnmhpknppaa
