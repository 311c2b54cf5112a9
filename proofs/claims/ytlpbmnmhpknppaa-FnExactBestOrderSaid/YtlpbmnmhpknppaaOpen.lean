/- Opening the laws' arguments: numbers and bools in structs by value, slices of bytes, ints, bools. -/
import Derived.Test.YtlpbmnmhpknppaaRd
import Derived.OpenShut
import Derived.ShutString
import Derived.ChangeOld
import Derived.Lib.SmallJoins
import Derived.Deep.Grids
import Derived.Deep.Matrix
set_option linter.unusedVariables false
set_option linter.unusedSimpArgs false
namespace Go.Proofs.Ytlpbmnmhpknppaa
open Go.ChangeShapes Go.WideShapes Go.ChangeAt Go.RowKit Go.Joins Go.Deep

def ILit (x : Int) : Value := .int .i64 x
def OLit (x : Bool) : Value := .bool x

section
variable {H : Type} {enc : TypeId × Value → H} {P : Program} {w : World} {base : Nat} {held : Bool}
theorem open_Panel {r : Reach} {b0 : Nat} {t : TypeId} {f0 f1 f2 f3 : Field} {v : Value} {d : DataW H} {p : List MemPlace}
    (hs : P.underlying t = some (.struct #[f0, f1, f2, f3])) (h0 : P.underlying f0.type = some (.int .i64)) (h1 : P.underlying f1.type = some (.int .i64)) (h2 : P.underlying f2.type = some .bool) (h3 : P.underlying f3.type = some .bool)
    (hone : oneCellFields P #[f0, f1, f2, f3] = true) (hC : P.cellsOf t = 4)
    (hv : Value.okWide P w r b0 t v) (h : DataW.Trod enc P w base (fun _ => true) held t v d p) :
    ∃ (m f : Int) (mv op : Bool), v = .agg #[.int .i64 m, .int .i64 f, .bool mv, .bool op] := by
  obtain ⟨c0, c1, c2, c3, y0, y1, y2, y3, m, rfl, rfl, rfl, hy0, hy1, hy2, hy3⟩ := open_agg4 hs hone hC hv h
  obtain ⟨a, e0, -, -⟩ := DataW.trod_int h0 hy0
  obtain ⟨b, e1, -, -⟩ := DataW.trod_int h1 hy1
  obtain ⟨c, e2, -⟩ := DataW.trod_bool h2 hy2
  obtain ⟨d, e3, -⟩ := DataW.trod_bool h3 hy3
  simp at e0 e1 e2 e3
  subst e0 e1 e2 e3
  exact ⟨a, b, c, d, rfl⟩

/-- From cells at a.add to the slice's own words. -/
theorem sl_of_cells {α : Type} {f : α → Value} {a : Addr} {n c : Nat} {xs : List α} (hl : xs.length = n) (hn : n ≤ c) (hc : c ≤ maxLen)
    (hx : ∀ j x, xs[j]? = some x → w.cell? (a.add j) = some (f x)) : Sl w w.heap.size f (some a) n c xs := by
  refine ⟨hl, hn, by unfold maxLen at hc; exact hc, fun hp => ?_⟩
  have h0 := hx 0 xs[0] (List.getElem?_eq_getElem (by omega))
  obtain ⟨b, o, sp⟩ := a
  have hsp : sp = none := by simpa [Addr.add] using World.cell?_spot h0
  subst hsp
  have hlt := World.block_lt_of_cell? w _ h0
  refine ⟨b, o, rfl, by simpa [Addr.add] using hlt, fun j x hj => ?_⟩
  have := hx j x hj
  unfold Addr.add at this
  split at this
  · subst_vars; simpa using this
  · exact this

theorem open_Bytes {r : Reach} {b0 : Nat} {t e : TypeId} {v : Value} {d : DataW H} {p : List MemPlace} (ht : P.underlying t = some (.slice e)) (he : P.underlying e = some (.int .u8)) (hC : P.cellsOf e = 1)
    (hv : Value.okWide P w r b0 t v) (h : DataW.Trod enc P w base (fun _ => true) held t v d p) :
    ∃ (A : Option Addr) (n c : Nat) (bs : List Int), v = .slice A n c ∧ Sl w w.heap.size BLit A n c bs ∧ ∀ x ∈ bs, 0 ≤ x ∧ x ≤ 255 := by
  obtain ⟨A, n, c, rfl⟩ := okWide_slice ht hv
  obtain ⟨fuel, hf⟩ := h
  rcases open_ints ht he hC hf with ⟨hcs, _⟩ | ⟨a, len, cap, zs, hcs, _, hl, hm, hz, _, hcell, hwz⟩
  · simp [Value.cells] at hcs
    obtain ⟨rfl, rfl, rfl⟩ := hcs
    exact ⟨none, 0, 0, [], rfl, Sl.nil _ _ _, fun x hx => by simp at hx⟩
  · simp [Value.cells] at hcs
    obtain ⟨rfl, rfl, rfl⟩ := hcs
    simp only [if_true] at hz
    refine ⟨some a, n, c, zs.take n, rfl, sl_of_cells (by rw [List.length_take]; omega) hl hm (fun j x hj => ?_), fun x hx => ?_⟩
    · rw [List.getElem?_take] at hj
      split at hj
      · have hj2 : j < zs.length := by omega
        have := hcell j hj2
        rw [List.getD_eq_getElem?_getD, hj] at this
        exact this
      · cases hj
    · have := hwz x (List.mem_of_mem_take hx)
      simp [Lit.wf, IntKind.min, IntKind.max, IntKind.bits, IntKind.signed] at this
      omega

theorem open_Ints {r : Reach} {b0 : Nat} {t e : TypeId} {v : Value} {d : DataW H} {p : List MemPlace} (ht : P.underlying t = some (.slice e)) (he : P.underlying e = some (.int .i64)) (hC : P.cellsOf e = 1)
    (hv : Value.okWide P w r b0 t v) (h : DataW.Trod enc P w base (fun _ => true) held t v d p) :
    ∃ (A : Option Addr) (n c : Nat) (xs : List Int), v = .slice A n c ∧ Sl w w.heap.size ILit A n c xs := by
  obtain ⟨A, n, c, rfl⟩ := okWide_slice ht hv
  obtain ⟨fuel, hf⟩ := h
  rcases open_ints ht he hC hf with ⟨hcs, _⟩ | ⟨a, len, cap, zs, hcs, _, hl, hm, hz, _, hcell, hwz⟩
  · simp [Value.cells] at hcs
    obtain ⟨rfl, rfl, rfl⟩ := hcs
    exact ⟨none, 0, 0, [], rfl, Sl.nil _ _ _⟩
  · simp [Value.cells] at hcs
    obtain ⟨rfl, rfl, rfl⟩ := hcs
    simp only [if_true] at hz
    refine ⟨some a, n, c, zs.take n, rfl, sl_of_cells (by rw [List.length_take]; omega) hl hm (fun j x hj => ?_)⟩
    rw [List.getElem?_take] at hj
    split at hj
    · have hj2 : j < zs.length := by omega
      have := hcell j hj2
      rw [List.getD_eq_getElem?_getD, hj] at this
      exact this
    · cases hj

theorem open_Bools {r : Reach} {b0 : Nat} {t e : TypeId} {v : Value} {d : DataW H} {p : List MemPlace} (ht : P.underlying t = some (.slice e)) (he : P.underlying e = some .bool) (hC : P.cellsOf e = 1)
    (hv : Value.okWide P w r b0 t v) (h : DataW.Trod enc P w base (fun _ => true) held t v d p) :
    ∃ (A : Option Addr) (n c : Nat) (xs : List Bool), v = .slice A n c ∧ Sl w w.heap.size OLit A n c xs := by
  obtain ⟨A, n, c, rfl⟩ := okWide_slice ht hv
  obtain ⟨fuel, hf⟩ := h
  rcases open_bools ht he hC hf with ⟨hcs, _⟩ | ⟨a, len, cap, B, hcs, _, hl, hm, _, hcell⟩
  · simp [Value.cells] at hcs
    obtain ⟨rfl, rfl, rfl⟩ := hcs
    exact ⟨none, 0, 0, [], rfl, Sl.nil _ _ _⟩
  · simp [Value.cells] at hcs
    obtain ⟨rfl, rfl, rfl⟩ := hcs
    refine ⟨some a, n, c, (List.range n).map B, rfl, sl_of_cells (by simp) hl hm (fun j x hj => ?_)⟩
    rw [List.getElem?_map] at hj
    by_cases hjn : j < n
    · rw [List.getElem?_range hjn] at hj
      simp at hj
      subst hj
      exact hcell j (by omega)
    · rw [List.getElem?_eq_none (by simp; omega)] at hj
      cases hj
end
end Go.Proofs.Ytlpbmnmhpknppaa
