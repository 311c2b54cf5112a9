/- The opening of [][]int. -/
import Derived.Test.YtlpbmnmhpknppaaGr
set_option linter.unusedVariables false
set_option linter.unusedSimpArgs false
namespace Go.Proofs.Ytlpbmnmhpknppaa
open Go.ChangeShapes Go.WideShapes Go.ChangeAt Go.RowKit Go.Joins Go.Deep
section
variable {H : Type} {enc : TypeId × Value → H} {P : Program} {w : World} {base : Nat} {held : Bool}
theorem open_IntSS {r : Reach} {b0 : Nat} {t e q : TypeId} {v : Value} {d : DataW H} {p : List MemPlace} (ht : P.underlying t = some (.slice e)) (he : P.underlying e = some (.slice q)) (hq : P.underlying q = some (.int .i64)) (ce : P.cellsOf e = 1) (cq : P.cellsOf q = 1)
    (hv : Value.okWide P w r b0 t v) (h : DataW.Trod enc P w base (fun _ => true) held t v d p) :
    ∃ (A : Option Addr) (n c : Nat) (xss : List (List Int)), v = .slice A n c ∧ Sl2 w w.heap.size ILit A n c xss := by
  obtain ⟨A, n, c, rfl⟩ := okWide_slice ht hv
  obtain ⟨fuel, hf⟩ := h
  rcases open_int_rows ht he hq ce cq hf with ⟨hcs, _⟩ | ⟨a, len, cap, A', L, C, Z, hcs, _, hl, hm, _, hcell⟩
  · simp [Value.cells] at hcs
    obtain ⟨rfl, rfl, rfl⟩ := hcs
    exact ⟨none, 0, 0, [], rfl, Sl2.nil _ _ _⟩
  · simp [Value.cells] at hcs
    obtain ⟨rfl, rfl, rfl⟩ := hcs
    refine ⟨some a, n, c, (List.range n).map fun r => (List.range (L r)).map fun i => (Z r).getD i 0, rfl, sl2_of_cells (by simp) hl hm (fun j xs hj => ?_)⟩
    rw [List.getElem?_map] at hj
    by_cases hjn : j < n
    · rw [List.getElem?_range hjn] at hj
      simp at hj
      subst hj
      obtain ⟨h1, h2, h3, hZ, hw, h4, h5⟩ := hcell j (by omega)
      refine ⟨A' j, L j, C j, h1, ?_⟩
      cases hA : A' j with
      | none =>
        have hC := h4 hA
        have hL : L j = 0 := by omega
        rw [hC, hL]
        exact Sl.nil _ _ _
      | some a' =>
        refine sl_of_cells (by simp) h2 h3 (fun i x hi => ?_)
        rw [List.getElem?_map] at hi
        by_cases hil : i < L j
        · rw [List.getElem?_range hil] at hi
          simp at hi
          subst hi
          simpa [ILit] using (h5 a' hA).2 i (by omega)
        · rw [List.getElem?_eq_none (by simp; omega)] at hi
          cases hi
    · rw [List.getElem?_eq_none (by simp; omega)] at hj
      cases hj
end
end Go.Proofs.Ytlpbmnmhpknppaa
