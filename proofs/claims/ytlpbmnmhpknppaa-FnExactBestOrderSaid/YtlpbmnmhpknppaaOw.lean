/- Slices that the call itself made, to be written and read again: 'Ow'. -/
import Derived.Test.YtlpbmnmhpknppaaOwn
import Derived.Test.YtlpbmnmhpknppaaQuiet
import Derived.Test.YtlpbmnmhpknppaaOpen
import Derived.Handy
import Derived.Lib.Hide
import Derived.Deep.OwnRows
set_option linter.unusedVariables false
set_option linter.unusedSimpArgs false
namespace Go.Proofs.Ytlpbmnmhpknppaa
open Go.RowKit

/-- The slice (A, n, c) is the head of a block of the call's own (from base on, element type E), and holds xs; or it is empty. -/
def Ow {α : Type} (w : World) (base E : Nat) (f : α → Value) (A : Option Addr) (n c : Nat) (xs : List α) : Prop :=
  xs.length = n ∧ n ≤ c ∧ c ≤ 9223372036854775807 ∧
  (0 < n → ∃ g cs, A = some ⟨g, 0, none⟩ ∧ base ≤ g ∧ w.heap[g]? = some (.cells cs E (0, 0)) ∧ ∀ (j : Nat) (x : α), xs[j]? = some x → cs[j]? = some (f x))

theorem lt_of_heap {w : World} {g : Nat} {o : Obj} (h : w.heap[g]? = some o) : g < w.heap.size := by
  rcases Nat.lt_or_ge g w.heap.size with hl | hl
  · exact hl
  · rw [Array.getElem?_eq_none hl] at h; cases h

section
variable {α : Type} {w w' : World} {base E n c : Nat} {f : α → Value} {A : Option Addr} {xs : List α}
theorem Ow.len (h : Ow w base E f A n c xs) : xs.length = n := h.1
theorem Ow.sl (h : Ow w base E f A n c xs) : Sl w w.heap.size f A n c xs := by
  obtain ⟨h1, h2, h3, h4⟩ := h
  refine ⟨h1, h2, h3, fun hn => ?_⟩
  obtain ⟨g, cs, hA, hb, hh, hc⟩ := h4 hn
  refine ⟨g, 0, hA, lt_of_heap hh, fun j x hx => ?_⟩
  rw [Nat.zero_add, cell_of_row w g j cs E (0, 0) hh]
  exact hc j x hx
/-- Kept while its block stands. -/
theorem Ow.keep (h : Ow w base E f A n c xs) (hk : ∀ g, base ≤ g → g < w.heap.size → A = some ⟨g, 0, none⟩ → w'.heap[g]? = w.heap[g]?) : Ow w' base E f A n c xs := by
  obtain ⟨h1, h2, h3, h4⟩ := h
  refine ⟨h1, h2, h3, fun hn => ?_⟩
  obtain ⟨g, cs, hA, hb, hh, hc⟩ := h4 hn
  exact ⟨g, cs, hA, hb, (hk g hb (lt_of_heap hh) hA).trans hh, hc⟩
theorem Ow.below (h : Ow w base E f A n c xs) (hb : Below w.heap.size w w') : Ow w' base E f A n c xs := h.keep fun g _ hg _ => hb.block g hg
theorem Ow.mono {b' : Nat} (h : Ow w base E f A n c xs) (hb : b' ≤ base) : Ow w b' E f A n c xs := by
  obtain ⟨h1, h2, h3, h4⟩ := h
  refine ⟨h1, h2, h3, fun hn => ?_⟩
  obtain ⟨g, cs, hA, hb2, hh, hc⟩ := h4 hn
  exact ⟨g, cs, hA, by omega, hh, hc⟩
theorem Ow.nil (w : World) (base E : Nat) (f : α → Value) : Ow w base E f none 0 0 ([] : List α) := ⟨rfl, Nat.le_refl _, by omega, fun h => absurd h (by omega)⟩
theorem Ow.of_own {v : Value} (h : w.ownsRow base E 1 v n (xs.map f)) : ∃ A c, v = .slice A n c ∧ Ow w base E f A n c xs := by
  have hl : xs.length = n := by have := h.1; simpa using this
  rcases h.2 with ⟨rfl, rfl⟩ | ⟨g, cap, cur, rfl, hb, hh, hnc, hcm, hcs, htake⟩
  · exact ⟨none, 0, rfl, hl, Nat.le_refl _, by omega, fun h => absurd h (by omega)⟩
  · refine ⟨some ⟨g, 0, none⟩, cap, rfl, hl, hnc, by unfold maxLen at hcm; exact hcm, fun hp => ⟨g, cur, rfl, hb, hh, fun j x hx => ?_⟩⟩
    have hjn : j < n := by
      have : j < xs.length := (List.getElem?_eq_some_iff.1 hx).1
      omega
    have h2 : (cur.toList.take (n * 1))[j]? = (xs.map f)[j]? := by rw [htake]
    rw [List.getElem?_take, if_pos (by omega), List.getElem?_map, hx] at h2
    simpa using h2
theorem Ow.new (w : World) (f : α → Value) (xs : List α) (E : Nat) (hx : xs.length ≤ 9223372036854775807) : Ow (w.alloc (.cells (xs.map f).toArray E)) w.heap.size E f (some ⟨w.heap.size, 0, none⟩) xs.length xs.length xs :=
  ⟨rfl, Nat.le_refl _, hx, fun _ => ⟨_, _, rfl, Nat.le_refl _, heap_alloc_new w _, fun j x hj => by simp [hj]⟩⟩
end

def eqL {α : Type} [DecidableEq α] (xs ys : List α) : Bool := decide (xs = ys)
theorem eqL_true {α : Type} [DecidableEq α] {xs ys : List α} (h : xs = ys) : eqL xs ys = true := by simp [eqL, h]
theorem eqL_len {α : Type} [DecidableEq α] {xs ys : List α} (h : xs.length ≠ ys.length) : eqL xs ys = false := by
  simp only [eqL, decide_eq_false_iff_not]
  intro e; exact h (by rw [e])
theorem eqL_at {α : Type} [DecidableEq α] {xs ys : List α} {k : Nat} {x y : α} (hx : xs[k]? = some x) (hy : ys[k]? = some y) (h : x ≠ y) : eqL xs ys = false := by
  simp only [eqL, decide_eq_false_iff_not]
  intro e
  rw [e, hy] at hx
  injection hx with hx
  exact h hx.symm
theorem take_snoc {α : Type} {xs : List α} {k : Nat} {x : α} (h : xs[k]? = some x) : xs.take (k + 1) = xs.take k ++ [x] := by
  rw [List.take_add_one, h]; rfl

/-- The row after k of n stores: the first k elements laid, the rest zero. -/
def part {α : Type} (f : α → Value) (z : Value) (xs : List α) (k : Nat) : Array Value := ((xs.take k).map f ++ List.replicate (xs.length - k) z).toArray
theorem part_size {α : Type} (f : α → Value) (z : Value) (xs : List α) {k : Nat} (h : k ≤ xs.length) : (part f z xs k).size = xs.length := by simp [part]; omega
theorem part_zero {α : Type} (f : α → Value) (z : Value) (xs : List α) : part f z xs 0 = madeCells #[z] xs.length := by
  apply Array.ext_getElem?
  intro j
  simp only [part, List.take_zero, List.map_nil, List.nil_append, Nat.sub_zero]
  by_cases hj : j < xs.length
  · simp [madeCells, hj, Nat.mod_one]
  · simp [madeCells, hj]
theorem part_all {α : Type} (f : α → Value) (z : Value) (xs : List α) : part f z xs xs.length = (xs.map f).toArray := by simp [part]
theorem part_old {α : Type} (f : α → Value) (z : Value) (xs : List α) {k : Nat} (h : k < xs.length) : (part f z xs k)[k]? = some z := by
  simp only [part, List.getElem?_toArray]
  rw [List.getElem?_append_right (by simp; omega)]
  simp [List.getElem?_replicate]
  omega
theorem part_set {α : Type} (f : α → Value) (z : Value) (xs : List α) {k : Nat} {x : α} (h : xs[k]? = some x) : (part f z xs k).setIfInBounds k (f x) = part f z xs (k + 1) := by
  have hk : k < xs.length := (List.getElem?_eq_some_iff.1 h).1
  apply Array.ext_getElem?
  intro j
  simp only [part, Array.getElem?_setIfInBounds, List.getElem?_toArray, List.size_toArray]
  rw [take_snoc h]
  have e : xs.length - k = xs.length - (k + 1) + 1 := by omega
  rw [e, List.replicate_succ]
  by_cases hj : k = j
  · subst hj
    simp [List.getElem?_append, hk, Nat.min_eq_left (Nat.le_of_lt hk)]
  · simp only [hj, if_false, List.map_append, List.map_cons, List.map_nil, List.append_assoc, List.cons_append, List.nil_append]
    rcases Nat.lt_or_ge j k with hl | hl
    · rw [List.getElem?_append_left (by simp; omega), List.getElem?_append_left (by simp; omega)]
    · rw [List.getElem?_append_right (by simp; omega), List.getElem?_append_right (by simp; omega)]
      have : j - (List.map f (List.take k xs)).length ≠ 0 := by simp; omega
      obtain ⟨m, hm⟩ := Nat.exists_eq_succ_of_ne_zero this
      rw [hm]
      rfl
end Go.Proofs.Ytlpbmnmhpknppaa
