/- Words for memory: a world with new blocks behind it ('plus'), and what the walk's rules say of it. -/
import Derived.WalkKit
import Derived.ProofKit
import Derived.Deep.Draws
import Derived.Laws.NewBlocks
set_option linter.unusedVariables false
set_option linter.unusedSimpArgs false
namespace Go.Proofs.Ytlpbmnmhpknppaa
open Go.RowKit

/-- The world w with the blocks os behind its own, and a count of draws. -/
def plus (w : World) (os : Array Obj) (d : Nat) : World := { w with heap := w.heap ++ os, drawn := d }

theorem size_plus (w : World) (os : Array Obj) (d : Nat) : (plus w os d).heap.size = w.heap.size + os.size := by simp [plus]
theorem heap_plus (w : World) (os : Array Obj) (d n : Nat) (h : n < w.heap.size) : (plus w os d).heap[n]? = w.heap[n]? := by
  show (w.heap ++ os)[n]? = _
  rw [Array.getElem?_append_left h]
theorem cell?_plus (w : World) (os : Array Obj) (d n i : Nat) (h : n < w.heap.size) : (plus w os d).cell? ⟨n, i, none⟩ = w.cell? ⟨n, i, none⟩ :=
  World.cell?_of_block (heap_plus w os d n h)
theorem frozen?_plus (w : World) (os : Array Obj) (d n i : Nat) (h : n < w.heap.size) : (plus w os d).frozen? ⟨n, i, none⟩ = w.frozen? ⟨n, i, none⟩ :=
  World.frozen?_of_block (heap_plus w os d n h)
theorem plus_plus (w : World) (os os' : Array Obj) (d d' : Nat) : plus (plus w os d) os' d' = plus w (os ++ os') d' := by simp [plus]
theorem plus_drew (w : World) (os : Array Obj) (d : Nat) : (plus w os d).drew = plus w os (d + 1) := rfl
theorem drew_plus (w : World) (os : Array Obj) (d : Nat) : plus w.drew os d = plus w os d := rfl
theorem plus_drewN (w : World) (os : Array Obj) (d n : Nat) : (plus w os d).drewN n = plus w os (d + n) := rfl
theorem drewN_plus (w : World) (os : Array Obj) (d n : Nat) : plus (w.drewN n) os d = plus w os d := rfl
theorem setCell_plus (w : World) (os : Array Obj) (d n i : Nat) (v : Value) (h : n < w.heap.size) :
    (plus w os d).setCell ⟨n, i, none⟩ v = plus (w.setCell ⟨n, i, none⟩ v) os d := by
  unfold plus World.setCell
  congr 1
  apply Array.ext_getElem?
  intro k
  simp only [Array.getElem?_modify, Array.getElem?_append, Array.size_modify]
  by_cases hk : n = k
  · subst hk
    simp [h]
  · simp [hk]
theorem shape?_plus (w : World) (os : Array Obj) (d n : Nat) (h : n < w.heap.size) : (plus w os d).shape? n = w.shape? n := by
  simp [World.shape?, heap_plus w os d n h]

attribute [go_sem] size_plus cell?_plus frozen?_plus plus_plus plus_drew drew_plus plus_drewN drewN_plus setCell_plus shape?_plus
attribute [simp] size_plus


/-! Sizes: what lies below a sum's first part lies below the sum (many parts at once: simp discharges two levels alone). -/
theorem lt_sum1 {n a : Nat} (h : n < a) (b1 : Nat) : (n < a + b1) = True := by simp only [eq_iff_iff, iff_true]; omega
theorem le_sum1 {n a : Nat} (h : n ≤ a) (b1 : Nat) : (n ≤ a + b1) = True := by simp only [eq_iff_iff, iff_true]; omega
theorem lt_sum2 {n a : Nat} (h : n < a) (b1 b2 : Nat) : (n < a + b1 + b2) = True := by simp only [eq_iff_iff, iff_true]; omega
theorem le_sum2 {n a : Nat} (h : n ≤ a) (b1 b2 : Nat) : (n ≤ a + b1 + b2) = True := by simp only [eq_iff_iff, iff_true]; omega
theorem lt_sum3 {n a : Nat} (h : n < a) (b1 b2 b3 : Nat) : (n < a + b1 + b2 + b3) = True := by simp only [eq_iff_iff, iff_true]; omega
theorem le_sum3 {n a : Nat} (h : n ≤ a) (b1 b2 b3 : Nat) : (n ≤ a + b1 + b2 + b3) = True := by simp only [eq_iff_iff, iff_true]; omega
theorem lt_sum4 {n a : Nat} (h : n < a) (b1 b2 b3 b4 : Nat) : (n < a + b1 + b2 + b3 + b4) = True := by simp only [eq_iff_iff, iff_true]; omega
theorem le_sum4 {n a : Nat} (h : n ≤ a) (b1 b2 b3 b4 : Nat) : (n ≤ a + b1 + b2 + b3 + b4) = True := by simp only [eq_iff_iff, iff_true]; omega
theorem lt_sum5 {n a : Nat} (h : n < a) (b1 b2 b3 b4 b5 : Nat) : (n < a + b1 + b2 + b3 + b4 + b5) = True := by simp only [eq_iff_iff, iff_true]; omega
theorem le_sum5 {n a : Nat} (h : n ≤ a) (b1 b2 b3 b4 b5 : Nat) : (n ≤ a + b1 + b2 + b3 + b4 + b5) = True := by simp only [eq_iff_iff, iff_true]; omega
theorem lt_sum6 {n a : Nat} (h : n < a) (b1 b2 b3 b4 b5 b6 : Nat) : (n < a + b1 + b2 + b3 + b4 + b5 + b6) = True := by simp only [eq_iff_iff, iff_true]; omega
theorem le_sum6 {n a : Nat} (h : n ≤ a) (b1 b2 b3 b4 b5 b6 : Nat) : (n ≤ a + b1 + b2 + b3 + b4 + b5 + b6) = True := by simp only [eq_iff_iff, iff_true]; omega
theorem lt_sum7 {n a : Nat} (h : n < a) (b1 b2 b3 b4 b5 b6 b7 : Nat) : (n < a + b1 + b2 + b3 + b4 + b5 + b6 + b7) = True := by simp only [eq_iff_iff, iff_true]; omega
theorem le_sum7 {n a : Nat} (h : n ≤ a) (b1 b2 b3 b4 b5 b6 b7 : Nat) : (n ≤ a + b1 + b2 + b3 + b4 + b5 + b6 + b7) = True := by simp only [eq_iff_iff, iff_true]; omega
theorem lt_sum8 {n a : Nat} (h : n < a) (b1 b2 b3 b4 b5 b6 b7 b8 : Nat) : (n < a + b1 + b2 + b3 + b4 + b5 + b6 + b7 + b8) = True := by simp only [eq_iff_iff, iff_true]; omega
theorem le_sum8 {n a : Nat} (h : n ≤ a) (b1 b2 b3 b4 b5 b6 b7 b8 : Nat) : (n ≤ a + b1 + b2 + b3 + b4 + b5 + b6 + b7 + b8) = True := by simp only [eq_iff_iff, iff_true]; omega
theorem lt_sum9 {n a : Nat} (h : n < a) (b1 b2 b3 b4 b5 b6 b7 b8 b9 : Nat) : (n < a + b1 + b2 + b3 + b4 + b5 + b6 + b7 + b8 + b9) = True := by simp only [eq_iff_iff, iff_true]; omega
theorem le_sum9 {n a : Nat} (h : n ≤ a) (b1 b2 b3 b4 b5 b6 b7 b8 b9 : Nat) : (n ≤ a + b1 + b2 + b3 + b4 + b5 + b6 + b7 + b8 + b9) = True := by simp only [eq_iff_iff, iff_true]; omega
theorem lt_sum10 {n a : Nat} (h : n < a) (b1 b2 b3 b4 b5 b6 b7 b8 b9 b10 : Nat) : (n < a + b1 + b2 + b3 + b4 + b5 + b6 + b7 + b8 + b9 + b10) = True := by simp only [eq_iff_iff, iff_true]; omega
theorem le_sum10 {n a : Nat} (h : n ≤ a) (b1 b2 b3 b4 b5 b6 b7 b8 b9 b10 : Nat) : (n ≤ a + b1 + b2 + b3 + b4 + b5 + b6 + b7 + b8 + b9 + b10) = True := by simp only [eq_iff_iff, iff_true]; omega
theorem lt_sum11 {n a : Nat} (h : n < a) (b1 b2 b3 b4 b5 b6 b7 b8 b9 b10 b11 : Nat) : (n < a + b1 + b2 + b3 + b4 + b5 + b6 + b7 + b8 + b9 + b10 + b11) = True := by simp only [eq_iff_iff, iff_true]; omega
theorem le_sum11 {n a : Nat} (h : n ≤ a) (b1 b2 b3 b4 b5 b6 b7 b8 b9 b10 b11 : Nat) : (n ≤ a + b1 + b2 + b3 + b4 + b5 + b6 + b7 + b8 + b9 + b10 + b11) = True := by simp only [eq_iff_iff, iff_true]; omega
theorem lt_sum12 {n a : Nat} (h : n < a) (b1 b2 b3 b4 b5 b6 b7 b8 b9 b10 b11 b12 : Nat) : (n < a + b1 + b2 + b3 + b4 + b5 + b6 + b7 + b8 + b9 + b10 + b11 + b12) = True := by simp only [eq_iff_iff, iff_true]; omega
theorem le_sum12 {n a : Nat} (h : n ≤ a) (b1 b2 b3 b4 b5 b6 b7 b8 b9 b10 b11 b12 : Nat) : (n ≤ a + b1 + b2 + b3 + b4 + b5 + b6 + b7 + b8 + b9 + b10 + b11 + b12) = True := by simp only [eq_iff_iff, iff_true]; omega
attribute [go_sem] lt_sum1 le_sum1 lt_sum2 le_sum2 lt_sum3 le_sum3 lt_sum4 le_sum4 lt_sum5 le_sum5 lt_sum6 le_sum6 lt_sum7 le_sum7 lt_sum8 le_sum8 lt_sum9 le_sum9 lt_sum10 le_sum10 lt_sum11 le_sum11 lt_sum12 le_sum12

theorem below_plus {B : Nat} {a w : World} (h : Below B a w) (hB : B ≤ w.heap.size) (os : Array Obj) (d : Nat) : Below B a (plus w os d) :=
  h.trans ⟨rfl, rfl, rfl, by simp, fun k hk => heap_plus w os d k (by omega)⟩

/-- What is unchanged below its own size is the world with new blocks behind it. -/
theorem is_plus {w w' : World} (h : Below w.heap.size w w') : ∃ os d, plus w os d = w' := by
  refine ⟨w'.heap.extract w.heap.size w'.heap.size, w'.drawn, ?_⟩
  obtain ⟨h1, h2, h3, h4, h5⟩ := h
  cases w; cases w'
  simp only at h1 h2 h3 h4 h5
  simp only [plus, World.mk.injEq]
  refine ⟨?_, h2.symm, trivial, h1.symm, h3.symm⟩
  apply Array.ext_getElem?
  intro k
  rw [Array.getElem?_append]
  split
  · exact (h5 k ‹_›).symm
  · rw [Array.getElem?_extract]
    simp only [Nat.min_self]
    split
    · congr 1; omega
    · symm
      exact Array.getElem?_eq_none (by omega)

theorem plus_zero (w : World) : plus w #[] w.drawn = w := by simp [plus]
theorem plus_alloc (w : World) (os : Array Obj) (d : Nat) (o : Obj) : (plus w os d).alloc o = plus w (os.push o) d := by
  show ({ w with heap := (w.heap ++ os).push o, drawn := d } : World) = { w with heap := w.heap ++ os.push o, drawn := d }
  rw [Array.append_push]
theorem alloc_is_plus (w : World) (o : Obj) : w.alloc o = plus w #[o] w.drawn := by
  show ({ w with heap := w.heap.push o } : World) = { w with heap := w.heap ++ #[o], drawn := w.drawn }
  rfl

/-- The world in which the reader in block r has come to p. -/
def adv (w : World) (r p : Nat) : World := w.setCell ⟨r, 1, none⟩ (.int .i64 p)

theorem size_adv (w : World) (r p : Nat) : (adv w r p).heap.size = w.heap.size := by simp [adv, World.setCell]
theorem heap_adv (w : World) (r p b : Nat) (h : b ≠ r) : (adv w r p).heap[b]? = w.heap[b]? := Below.heap_setCell w _ _ b h
theorem cell?_adv (w : World) (r p b i : Nat) (h : b ≠ r) : (adv w r p).cell? ⟨b, i, none⟩ = w.cell? ⟨b, i, none⟩ := World.cell?_of_block (heap_adv w r p b h)
theorem frozen?_adv (w : World) (r p b i : Nat) (h : b ≠ r) : (adv w r p).frozen? ⟨b, i, none⟩ = w.frozen? ⟨b, i, none⟩ := World.frozen?_of_block (heap_adv w r p b h)
theorem adv_alloc (w : World) (r p : Nat) (o : Obj) (h : r < w.heap.size) : adv (w.alloc o) r p = (adv w r p).alloc o := World.setCell_alloc_past o r 1 _ h
theorem adv_plus (w : World) (r p : Nat) (os : Array Obj) (d : Nat) (h : r < w.heap.size) : adv (plus w os d) r p = plus (adv w r p) os d := setCell_plus w os d r 1 _ h
theorem adv_drew (w : World) (r p : Nat) : adv w.drew r p = (adv w r p).drew := rfl
theorem adv_drewN (w : World) (r p n : Nat) : adv (w.drewN n) r p = (adv w r p).drewN n := rfl
theorem adv_adv (w : World) (r p q : Nat) : adv (adv w r p) r q = adv w r q := by
  unfold adv World.setCell
  congr 1
  apply Array.ext_getElem?
  intro k
  simp only [Array.getElem?_modify]
  split
  · cases w.heap[k]? with
    | none => rfl
    | some x => cases x <;> simp
  · rfl
theorem cell?_adv_lt (w : World) (r p b i : Nat) (h : b < r) : (adv w r p).cell? ⟨b, i, none⟩ = w.cell? ⟨b, i, none⟩ := cell?_adv w r p b i (by omega)
theorem cell?_adv_gt (w : World) (r p b i : Nat) (h : r < b) : (adv w r p).cell? ⟨b, i, none⟩ = w.cell? ⟨b, i, none⟩ := cell?_adv w r p b i (by omega)
theorem frozen?_adv_lt (w : World) (r p b i : Nat) (h : b < r) : (adv w r p).frozen? ⟨b, i, none⟩ = w.frozen? ⟨b, i, none⟩ := frozen?_adv w r p b i (by omega)
theorem frozen?_adv_gt (w : World) (r p b i : Nat) (h : r < b) : (adv w r p).frozen? ⟨b, i, none⟩ = w.frozen? ⟨b, i, none⟩ := frozen?_adv w r p b i (by omega)
theorem setCell_adv (w : World) (r p b i : Nat) (v : Value) (h : b ≠ r) : (adv w r p).setCell ⟨b, i, none⟩ v = adv (w.setCell ⟨b, i, none⟩ v) r p := by
  unfold adv World.setCell
  congr 1
  apply Array.ext_getElem?
  intro k
  simp only [Array.getElem?_modify]
  by_cases h1 : b = k
  · by_cases h2 : r = k
    · omega
    · simp [h1, h2]
  · by_cases h2 : r = k
    · simp [h1, h2]
    · simp [h1, h2]
theorem setCell_adv_lt (w : World) (r p b i : Nat) (v : Value) (h : b < r) : (adv w r p).setCell ⟨b, i, none⟩ v = adv (w.setCell ⟨b, i, none⟩ v) r p := setCell_adv w r p b i v (by omega)
theorem setCell_adv_gt (w : World) (r p b i : Nat) (v : Value) (h : r < b) : (adv w r p).setCell ⟨b, i, none⟩ v = adv (w.setCell ⟨b, i, none⟩ v) r p := setCell_adv w r p b i v (by omega)
attribute [go_sem] cell?_adv_lt cell?_adv_gt frozen?_adv_lt frozen?_adv_gt setCell_adv_lt setCell_adv_gt
attribute [go_sem] size_adv adv_alloc adv_plus adv_drew adv_drewN adv_adv
attribute [simp] size_adv

theorem below_adv {B : Nat} {a w : World} (h : Below B a w) {r : Nat} (hr : B ≤ r) (p : Nat) : Below B a (adv w r p) := h.setCell hr _
end Go.Proofs.Ytlpbmnmhpknppaa
