/- My words and contracts, laid together: Mem, Data, Quiet, Rd, Open, Rdb, Own, Ow, Rdc. -/
import Derived.WalkKit
import Derived.ProofKit
import Derived.Deep.Draws
import Derived.Laws.NewBlocks
import Derived.BigQuiet
import Derived.Deep.QuietTactic
import Derived.Test.YtillmnhhkhjpkaaRows
import Derived.Handy
import Derived.Outline
import Derived.Lib.Hide
import Derived.Laws.BitsAllLaws
import Derived.OpenShut
import Derived.ShutString
import Derived.ChangeOld
import Derived.Lib.SmallJoins
import Derived.Deep.Grids
import Derived.Deep.Matrix
import Derived.OwnWalk
import Derived.Laws.BytesArg
import Derived.Deep.OwnRows
set_option linter.unusedVariables false
set_option linter.unusedSimpArgs false
/- Words for memory: a world with new blocks behind it ('plus'), and what the walk's rules say of it. -/
namespace Go.Proofs.Ytillmnhhkhjpkaa
open Go.RowKit

/-- The world w with the blocks os behind its own, and a count of draws. -/
def plus (w : World) (os : Array Obj) (d : Nat) : World := { w with heap := w.heap ++ os, drawn := d }

theorem size_plus (w : World) (os : Array Obj) (d : Nat) : (plus w os d).heap.size = w.heap.size + os.size := by simp [plus]
theorem heap_plus (w : World) (os : Array Obj) (d n : Nat) (h : n < w.heap.size) : (plus w os d).heap[n]? = w.heap[n]? := by
  show (w.heap ++ os)[n]? = _
  rw [Array.getElem?_append_left h]
theorem cell?_plus (w : World) (os : Array Obj) (d n i : Nat) (h : n < w.heap.size) : (plus w os d).cell? ⟨n, i, none⟩ = w.cell? ⟨n, i, none⟩ :=
  World.cell?_of_block (heap_plus w os d n h)
theorem frozen?_plus (w : World) (os : Array Obj) (d n i : Nat) (h : n < w.heap.size) : (plus w os d).frozen? ⟨n, i, none⟩ = w.frozen? ⟨n, i, none⟩ :=
  World.frozen?_of_block (heap_plus w os d n h)
theorem plus_plus (w : World) (os os' : Array Obj) (d d' : Nat) : plus (plus w os d) os' d' = plus w (os ++ os') d' := by simp [plus]
theorem plus_drew (w : World) (os : Array Obj) (d : Nat) : (plus w os d).drew = plus w os (d + 1) := rfl
theorem drew_plus (w : World) (os : Array Obj) (d : Nat) : plus w.drew os d = plus w os d := rfl
theorem plus_drewN (w : World) (os : Array Obj) (d n : Nat) : (plus w os d).drewN n = plus w os (d + n) := rfl
theorem drewN_plus (w : World) (os : Array Obj) (d n : Nat) : plus (w.drewN n) os d = plus w os d := rfl
theorem setCell_plus (w : World) (os : Array Obj) (d n i : Nat) (v : Value) (h : n < w.heap.size) :
    (plus w os d).setCell ⟨n, i, none⟩ v = plus (w.setCell ⟨n, i, none⟩ v) os d := by
  unfold plus World.setCell
  congr 1
  apply Array.ext_getElem?
  intro k
  simp only [Array.getElem?_modify, Array.getElem?_append, Array.size_modify]
  by_cases hk : n = k
  · subst hk
    simp [h]
  · simp [hk]
theorem shape?_plus (w : World) (os : Array Obj) (d n : Nat) (h : n < w.heap.size) : (plus w os d).shape? n = w.shape? n := by
  simp [World.shape?, heap_plus w os d n h]

attribute [go_sem] size_plus cell?_plus frozen?_plus plus_plus plus_drew drew_plus plus_drewN drewN_plus setCell_plus shape?_plus
attribute [simp] size_plus


/-! Sizes: what lies below a sum's first part lies below the sum (many parts at once: simp discharges two levels alone). -/
theorem lt_sum1 {n a : Nat} (h : n < a) (b1 : Nat) : (n < a + b1) = True := by simp only [eq_iff_iff, iff_true]; omega
theorem le_sum1 {n a : Nat} (h : n ≤ a) (b1 : Nat) : (n ≤ a + b1) = True := by simp only [eq_iff_iff, iff_true]; omega
theorem lt_sum2 {n a : Nat} (h : n < a) (b1 b2 : Nat) : (n < a + b1 + b2) = True := by simp only [eq_iff_iff, iff_true]; omega
theorem le_sum2 {n a : Nat} (h : n ≤ a) (b1 b2 : Nat) : (n ≤ a + b1 + b2) = True := by simp only [eq_iff_iff, iff_true]; omega
theorem lt_sum3 {n a : Nat} (h : n < a) (b1 b2 b3 : Nat) : (n < a + b1 + b2 + b3) = True := by simp only [eq_iff_iff, iff_true]; omega
theorem le_sum3 {n a : Nat} (h : n ≤ a) (b1 b2 b3 : Nat) : (n ≤ a + b1 + b2 + b3) = True := by simp only [eq_iff_iff, iff_true]; omega
theorem lt_sum4 {n a : Nat} (h : n < a) (b1 b2 b3 b4 : Nat) : (n < a + b1 + b2 + b3 + b4) = True := by simp only [eq_iff_iff, iff_true]; omega
theorem le_sum4 {n a : Nat} (h : n ≤ a) (b1 b2 b3 b4 : Nat) : (n ≤ a + b1 + b2 + b3 + b4) = True := by simp only [eq_iff_iff, iff_true]; omega
theorem lt_sum5 {n a : Nat} (h : n < a) (b1 b2 b3 b4 b5 : Nat) : (n < a + b1 + b2 + b3 + b4 + b5) = True := by simp only [eq_iff_iff, iff_true]; omega
theorem le_sum5 {n a : Nat} (h : n ≤ a) (b1 b2 b3 b4 b5 : Nat) : (n ≤ a + b1 + b2 + b3 + b4 + b5) = True := by simp only [eq_iff_iff, iff_true]; omega
theorem lt_sum6 {n a : Nat} (h : n < a) (b1 b2 b3 b4 b5 b6 : Nat) : (n < a + b1 + b2 + b3 + b4 + b5 + b6) = True := by simp only [eq_iff_iff, iff_true]; omega
theorem le_sum6 {n a : Nat} (h : n ≤ a) (b1 b2 b3 b4 b5 b6 : Nat) : (n ≤ a + b1 + b2 + b3 + b4 + b5 + b6) = True := by simp only [eq_iff_iff, iff_true]; omega
theorem lt_sum7 {n a : Nat} (h : n < a) (b1 b2 b3 b4 b5 b6 b7 : Nat) : (n < a + b1 + b2 + b3 + b4 + b5 + b6 + b7) = True := by simp only [eq_iff_iff, iff_true]; omega
theorem le_sum7 {n a : Nat} (h : n ≤ a) (b1 b2 b3 b4 b5 b6 b7 : Nat) : (n ≤ a + b1 + b2 + b3 + b4 + b5 + b6 + b7) = True := by simp only [eq_iff_iff, iff_true]; omega
theorem lt_sum8 {n a : Nat} (h : n < a) (b1 b2 b3 b4 b5 b6 b7 b8 : Nat) : (n < a + b1 + b2 + b3 + b4 + b5 + b6 + b7 + b8) = True := by simp only [eq_iff_iff, iff_true]; omega
theorem le_sum8 {n a : Nat} (h : n ≤ a) (b1 b2 b3 b4 b5 b6 b7 b8 : Nat) : (n ≤ a + b1 + b2 + b3 + b4 + b5 + b6 + b7 + b8) = True := by simp only [eq_iff_iff, iff_true]; omega
theorem lt_sum9 {n a : Nat} (h : n < a) (b1 b2 b3 b4 b5 b6 b7 b8 b9 : Nat) : (n < a + b1 + b2 + b3 + b4 + b5 + b6 + b7 + b8 + b9) = True := by simp only [eq_iff_iff, iff_true]; omega
theorem le_sum9 {n a : Nat} (h : n ≤ a) (b1 b2 b3 b4 b5 b6 b7 b8 b9 : Nat) : (n ≤ a + b1 + b2 + b3 + b4 + b5 + b6 + b7 + b8 + b9) = True := by simp only [eq_iff_iff, iff_true]; omega
theorem lt_sum10 {n a : Nat} (h : n < a) (b1 b2 b3 b4 b5 b6 b7 b8 b9 b10 : Nat) : (n < a + b1 + b2 + b3 + b4 + b5 + b6 + b7 + b8 + b9 + b10) = True := by simp only [eq_iff_iff, iff_true]; omega
theorem le_sum10 {n a : Nat} (h : n ≤ a) (b1 b2 b3 b4 b5 b6 b7 b8 b9 b10 : Nat) : (n ≤ a + b1 + b2 + b3 + b4 + b5 + b6 + b7 + b8 + b9 + b10) = True := by simp only [eq_iff_iff, iff_true]; omega
theorem lt_sum11 {n a : Nat} (h : n < a) (b1 b2 b3 b4 b5 b6 b7 b8 b9 b10 b11 : Nat) : (n < a + b1 + b2 + b3 + b4 + b5 + b6 + b7 + b8 + b9 + b10 + b11) = True := by simp only [eq_iff_iff, iff_true]; omega
theorem le_sum11 {n a : Nat} (h : n ≤ a) (b1 b2 b3 b4 b5 b6 b7 b8 b9 b10 b11 : Nat) : (n ≤ a + b1 + b2 + b3 + b4 + b5 + b6 + b7 + b8 + b9 + b10 + b11) = True := by simp only [eq_iff_iff, iff_true]; omega
theorem lt_sum12 {n a : Nat} (h : n < a) (b1 b2 b3 b4 b5 b6 b7 b8 b9 b10 b11 b12 : Nat) : (n < a + b1 + b2 + b3 + b4 + b5 + b6 + b7 + b8 + b9 + b10 + b11 + b12) = True := by simp only [eq_iff_iff, iff_true]; omega
theorem le_sum12 {n a : Nat} (h : n ≤ a) (b1 b2 b3 b4 b5 b6 b7 b8 b9 b10 b11 b12 : Nat) : (n ≤ a + b1 + b2 + b3 + b4 + b5 + b6 + b7 + b8 + b9 + b10 + b11 + b12) = True := by simp only [eq_iff_iff, iff_true]; omega
attribute [go_sem] lt_sum1 le_sum1 lt_sum2 le_sum2 lt_sum3 le_sum3 lt_sum4 le_sum4 lt_sum5 le_sum5 lt_sum6 le_sum6 lt_sum7 le_sum7 lt_sum8 le_sum8 lt_sum9 le_sum9 lt_sum10 le_sum10 lt_sum11 le_sum11 lt_sum12 le_sum12

theorem below_plus {B : Nat} {a w : World} (h : Below B a w) (hB : B ≤ w.heap.size) (os : Array Obj) (d : Nat) : Below B a (plus w os d) :=
  h.trans ⟨rfl, rfl, rfl, by simp, fun k hk => heap_plus w os d k (by omega)⟩

/-- What is unchanged below its own size is the world with new blocks behind it. -/
theorem is_plus {w w' : World} (h : Below w.heap.size w w') : ∃ os d, plus w os d = w' := by
  refine ⟨w'.heap.extract w.heap.size w'.heap.size, w'.drawn, ?_⟩
  obtain ⟨h1, h2, h3, h4, h5⟩ := h
  cases w; cases w'
  simp only at h1 h2 h3 h4 h5
  simp only [plus, World.mk.injEq]
  refine ⟨?_, h2.symm, trivial, h1.symm, h3.symm⟩
  apply Array.ext_getElem?
  intro k
  rw [Array.getElem?_append]
  split
  · exact (h5 k ‹_›).symm
  · rw [Array.getElem?_extract]
    simp only [Nat.min_self]
    split
    · congr 1; omega
    · symm
      exact Array.getElem?_eq_none (by omega)

theorem plus_zero (w : World) : plus w #[] w.drawn = w := by simp [plus]
theorem plus_alloc (w : World) (os : Array Obj) (d : Nat) (o : Obj) : (plus w os d).alloc o = plus w (os.push o) d := by
  show ({ w with heap := (w.heap ++ os).push o, drawn := d } : World) = { w with heap := w.heap ++ os.push o, drawn := d }
  rw [Array.append_push]
theorem alloc_is_plus (w : World) (o : Obj) : w.alloc o = plus w #[o] w.drawn := by
  show ({ w with heap := w.heap.push o } : World) = { w with heap := w.heap ++ #[o], drawn := w.drawn }
  rfl

/-- The world in which the reader in block r has come to p. -/
def adv (w : World) (r p : Nat) : World := w.setCell ⟨r, 1, none⟩ (.int .i64 p)

theorem size_adv (w : World) (r p : Nat) : (adv w r p).heap.size = w.heap.size := by simp [adv, World.setCell]
theorem heap_adv (w : World) (r p b : Nat) (h : b ≠ r) : (adv w r p).heap[b]? = w.heap[b]? := Below.heap_setCell w _ _ b h
theorem cell?_adv (w : World) (r p b i : Nat) (h : b ≠ r) : (adv w r p).cell? ⟨b, i, none⟩ = w.cell? ⟨b, i, none⟩ := World.cell?_of_block (heap_adv w r p b h)
theorem frozen?_adv (w : World) (r p b i : Nat) (h : b ≠ r) : (adv w r p).frozen? ⟨b, i, none⟩ = w.frozen? ⟨b, i, none⟩ := World.frozen?_of_block (heap_adv w r p b h)
theorem adv_alloc (w : World) (r p : Nat) (o : Obj) (h : r < w.heap.size) : adv (w.alloc o) r p = (adv w r p).alloc o := World.setCell_alloc_past o r 1 _ h
theorem adv_plus (w : World) (r p : Nat) (os : Array Obj) (d : Nat) (h : r < w.heap.size) : adv (plus w os d) r p = plus (adv w r p) os d := setCell_plus w os d r 1 _ h
theorem adv_drew (w : World) (r p : Nat) : adv w.drew r p = (adv w r p).drew := rfl
theorem adv_drewN (w : World) (r p n : Nat) : adv (w.drewN n) r p = (adv w r p).drewN n := rfl
theorem adv_adv (w : World) (r p q : Nat) : adv (adv w r p) r q = adv w r q := by
  unfold adv World.setCell
  congr 1
  apply Array.ext_getElem?
  intro k
  simp only [Array.getElem?_modify]
  split
  · cases w.heap[k]? with
    | none => rfl
    | some x => cases x <;> simp
  · rfl
theorem cell?_adv_lt (w : World) (r p b i : Nat) (h : b < r) : (adv w r p).cell? ⟨b, i, none⟩ = w.cell? ⟨b, i, none⟩ := cell?_adv w r p b i (by omega)
theorem cell?_adv_gt (w : World) (r p b i : Nat) (h : r < b) : (adv w r p).cell? ⟨b, i, none⟩ = w.cell? ⟨b, i, none⟩ := cell?_adv w r p b i (by omega)
theorem frozen?_adv_lt (w : World) (r p b i : Nat) (h : b < r) : (adv w r p).frozen? ⟨b, i, none⟩ = w.frozen? ⟨b, i, none⟩ := frozen?_adv w r p b i (by omega)
theorem frozen?_adv_gt (w : World) (r p b i : Nat) (h : r < b) : (adv w r p).frozen? ⟨b, i, none⟩ = w.frozen? ⟨b, i, none⟩ := frozen?_adv w r p b i (by omega)
theorem setCell_adv (w : World) (r p b i : Nat) (v : Value) (h : b ≠ r) : (adv w r p).setCell ⟨b, i, none⟩ v = adv (w.setCell ⟨b, i, none⟩ v) r p := by
  unfold adv World.setCell
  congr 1
  apply Array.ext_getElem?
  intro k
  simp only [Array.getElem?_modify]
  by_cases h1 : b = k
  · by_cases h2 : r = k
    · omega
    · simp [h1, h2]
  · by_cases h2 : r = k
    · simp [h1, h2]
    · simp [h1, h2]
theorem setCell_adv_lt (w : World) (r p b i : Nat) (v : Value) (h : b < r) : (adv w r p).setCell ⟨b, i, none⟩ v = adv (w.setCell ⟨b, i, none⟩ v) r p := setCell_adv w r p b i v (by omega)
theorem setCell_adv_gt (w : World) (r p b i : Nat) (v : Value) (h : r < b) : (adv w r p).setCell ⟨b, i, none⟩ v = adv (w.setCell ⟨b, i, none⟩ v) r p := setCell_adv w r p b i v (by omega)
attribute [go_sem] cell?_adv_lt cell?_adv_gt frozen?_adv_lt frozen?_adv_gt setCell_adv_lt setCell_adv_gt
attribute [go_sem] size_adv adv_alloc adv_plus adv_drew adv_drewN adv_adv
attribute [simp] size_adv

theorem below_adv {B : Nat} {a w : World} (h : Below B a w) {r : Nat} (hr : B ≤ r) (p : Nat) : Below B a (adv w r p) := h.setCell hr _
end Go.Proofs.Ytillmnhhkhjpkaa

/- Slices as lists: 'Sl w B f A n c xs': the slice value (A, n, c) holds the cells f x for the x of xs, in a block below B. -/
namespace Go.Proofs.Ytillmnhhkhjpkaa
open Go.RowKit

def Sl {α : Type} (w : World) (B : Nat) (f : α → Value) (A : Option Addr) (n c : Nat) (xs : List α) : Prop :=
  xs.length = n ∧ n ≤ c ∧ c ≤ 9223372036854775807 ∧
  (0 < n → ∃ b o, A = some ⟨b, o, none⟩ ∧ b < B ∧ ∀ j x, xs[j]? = some x → w.cell? ⟨b, o + j, none⟩ = some (f x))

section
variable {α : Type} {w w' : World} {B B' n c : Nat} {f : α → Value} {A : Option Addr} {xs : List α}

theorem Sl.len (h : Sl w B f A n c xs) : xs.length = n := h.1
theorem Sl.cap (h : Sl w B f A n c xs) : n ≤ c ∧ c ≤ 9223372036854775807 := ⟨h.2.1, h.2.2.1⟩

/-- An element inside: its address and its cell. -/
theorem Sl.at_ (h : Sl w B f A n c xs) {k : Nat} (hk : k < n) : ∃ b o x, A = some ⟨b, o, none⟩ ∧ b < B ∧ xs[k]? = some x ∧ w.cell? ⟨b, o + k, none⟩ = some (f x) := by
  obtain ⟨h1, _, _, h4⟩ := h
  obtain ⟨b, o, hA, hb, hc⟩ := h4 (by omega)
  have hl : k < xs.length := by omega
  exact ⟨b, o, xs[k], hA, hb, List.getElem?_eq_getElem hl, hc k _ (List.getElem?_eq_getElem hl)⟩

theorem Sl.more (h : Sl w B f A n c xs) (hB : B ≤ B') : Sl w B' f A n c xs := by
  obtain ⟨h1, h2, h3, h4⟩ := h
  refine ⟨h1, h2, h3, fun hn => ?_⟩
  obtain ⟨b, o, hA, hb, hc⟩ := h4 hn
  exact ⟨b, o, hA, by omega, hc⟩

theorem Sl.keep (h : Sl w B f A n c xs) (hk : ∀ b o, b < B → w'.cell? ⟨b, o, none⟩ = w.cell? ⟨b, o, none⟩) : Sl w' B f A n c xs := by
  obtain ⟨h1, h2, h3, h4⟩ := h
  refine ⟨h1, h2, h3, fun hn => ?_⟩
  obtain ⟨b, o, hA, hb, hc⟩ := h4 hn
  exact ⟨b, o, hA, hb, fun j x hx => (hk _ _ hb).trans (hc j x hx)⟩

theorem Sl.alloc (h : Sl w B f A n c xs) (hB : B ≤ w.heap.size) (o : Obj) : Sl (w.alloc o) B f A n c xs :=
  h.keep fun b i hb => World.cell?_alloc_lt w o ⟨b, i, none⟩ (by show b < _; omega)
theorem Sl.plus (h : Sl w B f A n c xs) (hB : B ≤ w.heap.size) (os : Array Obj) (d : Nat) : Sl (plus w os d) B f A n c xs :=
  h.keep fun b i hb => cell?_plus w os d b i (by omega)
theorem Sl.drew (h : Sl w B f A n c xs) : Sl w.drew B f A n c xs := h
theorem Sl.drewN (h : Sl w B f A n c xs) (k : Nat) : Sl (w.drewN k) B f A n c xs := h
theorem Sl.setCell (h : Sl w B f A n c xs) {p : Addr} (hB : B ≤ p.block) (u : Value) : Sl (w.setCell p u) B f A n c xs :=
  h.keep fun b i hb => World.cell?_setCell_other w p ⟨b, i, none⟩ u (fun e => by subst e; simp at hB; omega)
theorem Sl.below (h : Sl w B f A n c xs) (hb : Below B w w') : Sl w' B f A n c xs := h.keep fun b i hlt => hb.cell (p := ⟨b, i, none⟩) hlt

theorem Sl.nil (w : World) (B : Nat) (f : α → Value) : Sl w B f none 0 0 ([] : List α) := ⟨rfl, Nat.le_refl _, by omega, fun h => absurd h (by omega)⟩

/-- A cut at the front: 's[:k]'. -/
theorem Sl.take (h : Sl w B f A n c xs) {k : Nat} (hk : k ≤ n) : Sl w B f A k c (xs.take k) := by
  obtain ⟨h1, h2, h3, h4⟩ := h
  refine ⟨by rw [List.length_take]; omega, by omega, h3, fun hn => ?_⟩
  obtain ⟨b, o, hA, hb, hc⟩ := h4 (by omega)
  refine ⟨b, o, hA, hb, fun j x hx => hc j x ?_⟩
  rw [List.getElem?_take] at hx
  split at hx
  · exact hx
  · cases hx

/-- A cut behind: 's[k:]'; the model keeps the old address where k is the capacity. -/
theorem Sl.drop (h : Sl w B f A n c xs) {k : Nat} (hk : k ≤ n) : Sl w B f (if c = k then A else A.map (·.add k)) (n - k) (c - k) (xs.drop k) := by
  obtain ⟨h1, h2, h3, h4⟩ := h
  refine ⟨by rw [List.length_drop, h1], by omega, by omega, fun hn => ?_⟩
  obtain ⟨b, o, rfl, hb, hc⟩ := h4 (by omega)
  rw [if_neg (by omega)]
  refine ⟨b, o + k, ?_, hb, fun j x hx => ?_⟩
  · simp only [Option.map_some, Addr.add]
    split
    · subst_vars; rfl
    · rfl
  · rw [List.getElem?_drop] at hx
    have := hc _ _ hx
    rwa [← Nat.add_assoc] at this
end
end Go.Proofs.Ytillmnhhkhjpkaa

/- Regions that draw their order, walked once. -/
namespace Go.Proofs.Ytillmnhhkhjpkaa
open Go.RowKit

/-! A region that draws its order, whose operations only read and whose callees' contracts end in 'Below': walked once, in the order of the text. The class of worlds: the world with new blocks behind it. -/
structure PD where
  os : Array Obj
  d : Nat
instance : Inhabited PD := ⟨⟨#[], 0⟩⟩

theorem wp_region_plus {P : Program} {id : Nat} {Q : Exit → Act → World → Prop} {a : Act} {W : World} {l : List Oper} (hm : P.follows .mixedOrders = true) (hB : Region.lexB .any l.toArray = true)
    (h : wpQuiet P l.toArray (fun w' => ∃ p : PD, w' = plus W p.os p.d) (fun a' => ∀ w', (∃ p : PD, w' = plus W p.os p.d) → Q .normal a' w') l a) : (Code.region id l.toArray true).wp P Q a W :=
  wp_region_quiet (C := fun w' => ∃ p : PD, w' = plus W p.os p.d) hm hB ⟨⟨#[], W.drawn + 1⟩, by
    show _ = ({ W with heap := W.heap ++ #[], drawn := W.drawn + 1 } : World)
    rw [Array.append_empty]⟩ (by simpa using h)

theorem quiet_plus {P : Program} {f : FuncId} {args : Array Value} {W : World} {x : PD} {v : Value}
    (h : Calls P f args (plus W x.os x.d) fun e w' => e = .returned v ∧ Below (plus W x.os x.d).heap.size (plus W x.os x.d) w') :
    Calls P f args (plus W x.os x.d) fun e w'' => e = .returned v ∧ ∃ p : PD, w'' = plus W p.os p.d :=
  h.mono fun _ _ ⟨he, hb⟩ => by
    obtain ⟨os, d, rfl⟩ := is_plus hb
    exact ⟨he, ⟨x.os ++ os, d⟩, plus_plus _ _ _ _ _⟩
theorem quiet_plus2 {P : Program} {f : FuncId} {args : Array Value} {W : World} {o1 : Array Obj} {x : PD} {v : Value}
    (h : Calls P f args (plus W (o1 ++ x.os) x.d) fun e w' => e = .returned v ∧ Below (plus W (o1 ++ x.os) x.d).heap.size (plus W (o1 ++ x.os) x.d) w') :
    Calls P f args (plus W (o1 ++ x.os) x.d) fun e w'' => e = .returned v ∧ ∃ p : PD, w'' = plus W (o1 ++ p.os) p.d :=
  h.mono fun _ _ ⟨he, hb⟩ => by
    obtain ⟨os, d, rfl⟩ := is_plus hb
    exact ⟨he, ⟨x.os ++ os, d⟩, by rw [plus_plus, Array.append_assoc]⟩
/-- A callee that leaves the world alone. -/
theorem quiet_same {P : Program} {f : FuncId} {args : Array Value} {W : World} {C : World → Prop} {v : Value} (hC : C W)
    (h : Calls P f args W fun e w' => e = .returned v ∧ W = w') : Calls P f args W fun e w'' => e = .returned v ∧ C w'' :=
  h.mono fun _ _ ⟨he, hw⟩ => ⟨he, hw ▸ hC⟩
end Go.Proofs.Ytillmnhhkhjpkaa

/- The reader of the generators: its state in memory, and pick, one, newReader. -/
namespace Go.Proofs.Ytillmnhhkhjpkaa
open Go.RowKit

def BLit (x : Int) : Value := .int .u8 x

/-- The reader in block r: the bytes bs, and p numbers picked. -/
def Rd (w : World) (r : Nat) (A : Option Addr) (n c : Nat) (bs : List Int) (p : Nat) : Prop :=
  w.heap[r]? = some (.cells #[.slice A n c, .int .i64 p] 58 (0, 0)) ∧ Sl w r BLit A n c bs ∧ n ≤ 2000 ∧ ∀ x ∈ bs, 0 ≤ x ∧ x ≤ 255

section
variable {w : World} {r n c p : Nat} {A : Option Addr} {bs : List Int}
theorem Rd.lt (h : Rd w r A n c bs p) : r < w.heap.size := by
  rcases Nat.lt_or_ge r w.heap.size with hl | hl
  · exact hl
  · have := h.1
    rw [Array.getElem?_eq_none hl] at this
    cases this
theorem Rd.cell0 (h : Rd w r A n c bs p) : w.cell? ⟨r, 0, none⟩ = some (.slice A n c) := by simp [World.cell?, h.1]
theorem Rd.cell1 (h : Rd w r A n c bs p) : w.cell? ⟨r, 1, none⟩ = some (.int .i64 p) := by simp [World.cell?, h.1]
theorem Rd.free (h : Rd w r A n c bs p) (i : Nat) : w.frozen? ⟨r, i, none⟩ = false := by simp [World.frozen?, h.1]
theorem Rd.alloc (h : Rd w r A n c bs p) (o : Obj) : Rd (w.alloc o) r A n c bs p :=
  ⟨(Below.heap_alloc w o r h.lt).trans h.1, h.2.1.alloc (Nat.le_of_lt h.lt) o, h.2.2⟩
theorem Rd.plus (h : Rd w r A n c bs p) (os : Array Obj) (d : Nat) : Rd (plus w os d) r A n c bs p :=
  ⟨(heap_plus w os d r h.lt).trans h.1, h.2.1.plus (Nat.le_of_lt h.lt) os d, h.2.2⟩
theorem Rd.drew (h : Rd w r A n c bs p) : Rd w.drew r A n c bs p := h
theorem Rd.drewN (h : Rd w r A n c bs p) (k : Nat) : Rd (w.drewN k) r A n c bs p := h
theorem Rd.setCell (h : Rd w r A n c bs p) {b i : Nat} (hb : r < b) (u : Value) : Rd (w.setCell ⟨b, i, none⟩ u) r A n c bs p :=
  ⟨(Below.heap_setCell w _ u r (by simp; omega)).trans h.1, h.2.1.setCell (by simp; omega) u, h.2.2⟩
theorem Rd.adv (h : Rd w r A n c bs p) (q : Nat) : Rd (adv w r q) r A n c bs q := by
  refine ⟨?_, h.2.1.keep fun b i hb => cell?_adv w r q b i (by omega), h.2.2⟩
  exact (heap_setCell_same w r 1 _ _ _ h.1).trans (by simp)
end

/-- The reader, wherever it has come to. -/
def RdX (w : World) (r : Nat) (A : Option Addr) (n c : Nat) (bs : List Int) : Prop := ∃ p, Rd w r A n c bs p
theorem RdX.of {w : World} {r n c p : Nat} {A : Option Addr} {bs : List Int} (h : Rd w r A n c bs p) : RdX w r A n c bs := ⟨p, h⟩
theorem RdX.to {w : World} {r n c : Nat} {A : Option Addr} {bs : List Int} (h : RdX w r A n c bs) (q : Nat) : Rd (adv w r q) r A n c bs q := by
  obtain ⟨p, h⟩ := h
  exact h.adv q
theorem RdX.adv {w : World} {r n c : Nat} {A : Option Addr} {bs : List Int} (h : RdX w r A n c bs) (q : Nat) : RdX (adv w r q) r A n c bs := ⟨q, h.to q⟩
theorem RdX.alloc {w : World} {r n c : Nat} {A : Option Addr} {bs : List Int} (h : RdX w r A n c bs) (o : Obj) : RdX (w.alloc o) r A n c bs := by
  obtain ⟨p, h⟩ := h
  exact ⟨p, h.alloc o⟩
theorem RdX.plus {w : World} {r n c : Nat} {A : Option Addr} {bs : List Int} (h : RdX w r A n c bs) (os : Array Obj) (d : Nat) : RdX (plus w os d) r A n c bs := by
  obtain ⟨p, h⟩ := h
  exact ⟨p, h.plus os d⟩

theorem adv_self {w : World} {r n c p : Nat} {A : Option Addr} {bs : List Int} (h : Rd w r A n c bs p) : adv w r p = w := by
  obtain ⟨h1, -⟩ := h
  unfold adv World.setCell
  cases w with
  | mk heap tape drawn os output =>
    simp only at h1
    congr 1
    apply Array.ext_getElem?
    intro k
    simp only [Array.getElem?_modify]
    split
    · subst_vars
      simp [h1]
    · rfl

/-- What pick gives: a number in 0..m-1, or 0. -/
def PickOk (m k : Int) : Prop := 0 ≤ k ∧ (1 ≤ m → k < m) ∧ (m < 1 → k = 0)

theorem ofInt_i64' (a : Nat) (ha : a < 9223372036854775808) : (BitVec.ofInt 64 (a : Int)).toNat = a := by
  rw [BitVec.ofInt_natCast, BitVec.toNat_ofNat]; exact Nat.mod_eq_of_lt (by omega)
theorem xor_i64 (a b : Int) (ha : 0 ≤ a) (hb : 0 ≤ b) (ha' : a < 1099511627776) (hb' : b < 1099511627776) :
    ∃ x : Int, bits .xor .i64 a b = x ∧ 0 ≤ x ∧ x < 1099511627776 := by
  obtain ⟨m, rfl⟩ := Int.eq_ofNat_of_zero_le ha
  obtain ⟨n, rfl⟩ := Int.eq_ofNat_of_zero_le hb
  have hx : m ^^^ n < 2 ^ 40 := Nat.xor_lt_two_pow (by omega) (by omega)
  have e : bits .xor .i64 (m : Int) (n : Int) = ((m ^^^ n : Nat) : Int) := by
    show IntKind.i64.wrap ((BitVec.ofInt 64 (m : Int) ^^^ BitVec.ofInt 64 (n : Int)).toNat : Int) = _
    rw [BitVec.toNat_xor, ofInt_i64' m (by omega), ofInt_i64' n (by omega), IntKind.wrap_i64]
    omega
  exact ⟨_, e, by omega, by omega⟩

theorem Sl.byte {w : World} {B n c : Nat} {A : Option Addr} {bs : List Int} (h : Sl w B BLit A n c bs) (hb : ∀ x ∈ bs, 0 ≤ x ∧ x ≤ 255) {k : Nat} (hk : k < n) :
    ∃ b o x, A = some ⟨b, o, none⟩ ∧ b < B ∧ 0 ≤ x ∧ x ≤ 255 ∧ w.cell? ⟨b, o + k, none⟩ = some (.int .u8 x) := by
  obtain ⟨b, o, x, h1, h2, h3, h4⟩ := h.at_ hk
  have := hb x (List.mem_of_getElem? h3)
  exact ⟨b, o, x, h1, h2, this.1, this.2, h4⟩

def Picked (w : World) (r p : Nat) (m : Int) (e : Ending) (w' : World) : Prop :=
  ∃ k, PickOk m k ∧ e = .returned (.int .i64 k) ∧ ∃ os d, plus (adv w r (p + 1)) os d = w'

theorem picked_mk {w : World} {r p : Nat} {m k : Int} {q : Int} (hk : PickOk m k) (hq : q = (p : Int) + 1) (d : Nat) :
    Picked w r p m (.returned (.int .i64 k)) ((w.setCell ⟨r, 1, none⟩ (.int .i64 q)).drewN d) := by
  refine ⟨k, hk, rfl, #[], w.drawn + d, ?_⟩
  subst hq
  simp [plus, adv, World.drewN, World.setCell]

theorem pickOk_mod (x : Int) {m : Int} (hm : ¬ m < 1) : PickOk m (x % m) :=
  ⟨Int.emod_nonneg _ (by omega), fun _ => Int.emod_lt_of_pos _ (by omega), fun h => absurd h hm⟩

set_option maxHeartbeats 2000000 in
theorem pick_c (w : World) (r n c p : Nat) (A : Option Addr) (bs : List Int) (m : Int) (hR : Rd w r A n c bs p) (hp : p ≤ 1000000) :
    Calls Try.prog 24 #[.pointer (some ⟨r, 0, none⟩), .int .i64 m] w (Picked w r p m) := by
  have h0 := hR.cell0
  have h1 := hR.cell1
  have hf := hR.free 1
  have hs := hR.2.1
  have hbs := hR.2.2.2
  have hn2 := hR.2.2.1
  clear hR
  by_cases hm : m < 1
  · go_enter Try.func24, Try.ntmps24
    go_wp2
    go_ret
    exact picked_mk ⟨by omega, by omega, by omega⟩ rfl 0
  by_cases hn : n = 0
  · subst hn
    go_enter Try.func24, Try.ntmps24
    go_wp2
    go_ret
    exact picked_mk ⟨by omega, by omega, by omega⟩ rfl 0
  have hnz : ((n : Int) == 0) = false := by simp; omega
  have hb : ∀ q : Int, w.cell? ⟨r, 0, none⟩ = some (.slice A n c) → (w.setCell ⟨r, 1, none⟩ (.int .i64 q)).cell? ⟨r, 0, none⟩ = some (.slice A n c) := fun q h => by
    rw [World.cell?_setCell_other w _ _ _ (by simp)]; exact h
  by_cases hk : p < n
  · obtain ⟨b, o, x, rfl, hbr, hx0, hx1, hc⟩ := hs.byte hbs hk
    have hc2 : (w.setCell ⟨r, 1, none⟩ (.int .i64 ((p : Int) + 1))).cell? ⟨b, o + p, none⟩ = some (.int .u8 x) := by
      rw [World.cell?_setCell_other w _ _ _ (fun e => by simp at e)]; exact hc
    clear hs hbs hc
    go_enter Try.func24, Try.ntmps24
    go_wp2
    go_ret
    exact picked_mk (pickOk_mod x (by omega)) rfl 0
  · obtain ⟨b, o, x1, rfl, hbr, hx0, hx1, hc1⟩ := hs.byte hbs (k := p % n) (Nat.mod_lt _ (by omega))
    obtain ⟨b', o', x2, hA, hbr', hy0, hy1, hc2⟩ := hs.byte hbs (k := (p * 7 + 3) % n) (Nat.mod_lt _ (by omega))
    simp only [Option.some.injEq, Addr.mk.injEq, and_true] at hA
    obtain ⟨rfl, rfl⟩ := hA
    have hd1 : (w.setCell ⟨r, 1, none⟩ (.int .i64 ((p : Int) + 1))).cell? ⟨b, o + p % n, none⟩ = some (.int .u8 x1) := by
      rw [World.cell?_setCell_other w _ _ _ (fun e => by simp at e)]; exact hc1
    have hd2 : (w.setCell ⟨r, 1, none⟩ (.int .i64 ((p : Int) + 1))).cell? ⟨b, o + (p * 7 + 3) % n, none⟩ = some (.int .u8 x2) := by
      rw [World.cell?_setCell_other w _ _ _ (fun e => by simp at e)]; exact hc2
    clear hs hbs hc1 hc2
    have l1 : p % n < n := Nat.mod_lt _ (by omega)
    have l2 : (p * 7 + 3) % n < n := Nat.mod_lt _ (by omega)
    have l3 : p / n ≤ p := Nat.div_le_self _ _
    have t1 : ((p : Int)).tmod (n : Int) = ((p % n : Nat) : Int) := rfl
    have t2 : ((p : Int) * 7 + 3).tmod (n : Int) = (((p * 7 + 3) % n : Nat) : Int) := rfl
    have t3 : ((p : Int)).tdiv (n : Int) = ((p / n : Nat) : Int) := rfl
    obtain ⟨i1, hi1⟩ : ∃ i1, i1 = p % n := ⟨_, rfl⟩
    obtain ⟨i2, hi2⟩ : ∃ i2, i2 = (p * 7 + 3) % n := ⟨_, rfl⟩
    obtain ⟨i3, hi3⟩ : ∃ i3, i3 = p / n := ⟨_, rfl⟩
    rw [← hi1] at l1 t1 hd1
    rw [← hi2] at l2 t2 hd2
    rw [← hi3] at l3 t3
    clear hi1 hi2 hi3
    have z1 : (i1 : Int) < (n : Int) := by omega
    have z2 : (i2 : Int) < (n : Int) := by omega
    have u1 : IntKind.i64.wrap ((i1 : Nat) : Int) = i1 := IntWalk.i64_in _ (by omega)
    have u2 : IntKind.i64.wrap ((i2 : Nat) : Int) = i2 := IntWalk.i64_in _ (by omega)
    have u3 : IntKind.i64.wrap ((i3 : Nat) : Int) = i3 := IntWalk.i64_in _ (by omega)
    have u4 : IntKind.i64.wrap ((p : Int) * 7) = (p : Int) * 7 := IntWalk.i64_in _ (by omega)
    have u5 : IntKind.i64.wrap ((p : Int) * 7 + 3) = (p : Int) * 7 + 3 := IntWalk.i64_in _ (by omega)
    have u6 : IntKind.i64.wrap x1 = x1 := IntWalk.i64_in _ (by omega)
    have u7 : IntKind.i64.wrap x2 = x2 := IntWalk.i64_in _ (by omega)
    have u8 : IntKind.i64.wrap (x1 * 131) = x1 * 131 := IntWalk.i64_in _ (by omega)
    have u9 : IntKind.i64.wrap (x2 * 1117) = x2 * 1117 := IntWalk.i64_in _ (by omega)
    have ua : IntKind.i64.wrap (x1 * 131 + x2 * 1117) = x1 * 131 + x2 * 1117 := IntWalk.i64_in _ (by omega)
    have ub : IntKind.i64.wrap ((p : Int) * 29) = (p : Int) * 29 := IntWalk.i64_in _ (by omega)
    have uc : IntKind.i64.wrap (x1 * 131 + x2 * 1117 + (p : Int) * 29) = x1 * 131 + x2 * 1117 + (p : Int) * 29 := IntWalk.i64_in _ (by omega)
    have ud : IntKind.i64.wrap ((i3 : Int) * 53) = (i3 : Int) * 53 := IntWalk.i64_in _ (by omega)
    have ue : IntKind.i64.wrap (x1 * 131 + x2 * 1117 + (p : Int) * 29 + (i3 : Int) * 53) = x1 * 131 + x2 * 1117 + (p : Int) * 29 + (i3 : Int) * 53 := IntWalk.i64_in _ (by omega)
    go_enter Try.func24, Try.ntmps24
    go_wp2
    go_quiet (fail)
    clear t1 t2 t3 u1 u2 u3 u4 u5 u6 u7 u8 u9 ua ub uc ud ue
    obtain ⟨X, hX⟩ : ∃ X, X = x1 * 131 + x2 * 1117 + (p : Int) * 29 + (i3 : Int) * 53 := ⟨_, rfl⟩
    have hX0 : 0 ≤ X := by omega
    have hX1 : X < 1099511627776 := by omega
    rw [← hX]
    clear hX
    obtain ⟨y, hy, hy0, hy1⟩ := xor_i64 X (X / 64) hX0 (by omega) hX1 (by omega)
    go_wp2
    go_ret
    exact picked_mk (pickOk_mod y (by omega)) rfl _
end Go.Proofs.Ytillmnhhkhjpkaa

/- Opening the laws' arguments: numbers and bools in structs by value, slices of bytes, ints, bools. -/
namespace Go.Proofs.Ytillmnhhkhjpkaa
open Go.ChangeShapes Go.WideShapes Go.ChangeAt Go.RowKit Go.Joins Go.Deep

def ILit (x : Int) : Value := .int .i64 x
def OLit (x : Bool) : Value := .bool x

section
variable {H : Type} {enc : TypeId × Value → H} {P : Program} {w : World} {base : Nat} {held : Bool}
theorem open_Panel {r : Reach} {b0 : Nat} {t : TypeId} {f0 f1 f2 f3 : Field} {v : Value} {d : DataW H} {p : List MemPlace}
    (hs : P.underlying t = some (.struct #[f0, f1, f2, f3])) (h0 : P.underlying f0.type = some (.int .i64)) (h1 : P.underlying f1.type = some (.int .i64)) (h2 : P.underlying f2.type = some .bool) (h3 : P.underlying f3.type = some .bool)
    (hone : oneCellFields P #[f0, f1, f2, f3] = true) (hC : P.cellsOf t = 4)
    (hv : Value.okWide P w r b0 t v) (h : DataW.Trod enc P w base (fun _ => true) held t v d p) :
    ∃ (m f : Int) (mv op : Bool), v = .agg #[.int .i64 m, .int .i64 f, .bool mv, .bool op] := by
  obtain ⟨c0, c1, c2, c3, y0, y1, y2, y3, m, rfl, rfl, rfl, hy0, hy1, hy2, hy3⟩ := open_agg4 hs hone hC hv h
  obtain ⟨a, e0, -, -⟩ := DataW.trod_int h0 hy0
  obtain ⟨b, e1, -, -⟩ := DataW.trod_int h1 hy1
  obtain ⟨c, e2, -⟩ := DataW.trod_bool h2 hy2
  obtain ⟨d, e3, -⟩ := DataW.trod_bool h3 hy3
  simp at e0 e1 e2 e3
  subst e0 e1 e2 e3
  exact ⟨a, b, c, d, rfl⟩

/-- From cells at a.add to the slice's own words. -/
theorem sl_of_cells {α : Type} {f : α → Value} {a : Addr} {n c : Nat} {xs : List α} (hl : xs.length = n) (hn : n ≤ c) (hc : c ≤ maxLen)
    (hx : ∀ j x, xs[j]? = some x → w.cell? (a.add j) = some (f x)) : Sl w w.heap.size f (some a) n c xs := by
  refine ⟨hl, hn, by unfold maxLen at hc; exact hc, fun hp => ?_⟩
  have h0 := hx 0 xs[0] (List.getElem?_eq_getElem (by omega))
  obtain ⟨b, o, sp⟩ := a
  have hsp : sp = none := by simpa [Addr.add] using World.cell?_spot h0
  subst hsp
  have hlt := World.block_lt_of_cell? w _ h0
  refine ⟨b, o, rfl, by simpa [Addr.add] using hlt, fun j x hj => ?_⟩
  have := hx j x hj
  unfold Addr.add at this
  split at this
  · subst_vars; simpa using this
  · exact this

theorem open_Bytes {r : Reach} {b0 : Nat} {t e : TypeId} {v : Value} {d : DataW H} {p : List MemPlace} (ht : P.underlying t = some (.slice e)) (he : P.underlying e = some (.int .u8)) (hC : P.cellsOf e = 1)
    (hv : Value.okWide P w r b0 t v) (h : DataW.Trod enc P w base (fun _ => true) held t v d p) :
    ∃ (A : Option Addr) (n c : Nat) (bs : List Int), v = .slice A n c ∧ Sl w w.heap.size BLit A n c bs ∧ ∀ x ∈ bs, 0 ≤ x ∧ x ≤ 255 := by
  obtain ⟨A, n, c, rfl⟩ := okWide_slice ht hv
  obtain ⟨fuel, hf⟩ := h
  rcases open_ints ht he hC hf with ⟨hcs, _⟩ | ⟨a, len, cap, zs, hcs, _, hl, hm, hz, _, hcell, hwz⟩
  · simp [Value.cells] at hcs
    obtain ⟨rfl, rfl, rfl⟩ := hcs
    exact ⟨none, 0, 0, [], rfl, Sl.nil _ _ _, fun x hx => by simp at hx⟩
  · simp [Value.cells] at hcs
    obtain ⟨rfl, rfl, rfl⟩ := hcs
    simp only [if_true] at hz
    refine ⟨some a, n, c, zs.take n, rfl, sl_of_cells (by rw [List.length_take]; omega) hl hm (fun j x hj => ?_), fun x hx => ?_⟩
    · rw [List.getElem?_take] at hj
      split at hj
      · have hj2 : j < zs.length := by omega
        have := hcell j hj2
        rw [List.getD_eq_getElem?_getD, hj] at this
        exact this
      · cases hj
    · have := hwz x (List.mem_of_mem_take hx)
      simp [Lit.wf, IntKind.min, IntKind.max, IntKind.bits, IntKind.signed] at this
      omega

theorem open_Ints {r : Reach} {b0 : Nat} {t e : TypeId} {v : Value} {d : DataW H} {p : List MemPlace} (ht : P.underlying t = some (.slice e)) (he : P.underlying e = some (.int .i64)) (hC : P.cellsOf e = 1)
    (hv : Value.okWide P w r b0 t v) (h : DataW.Trod enc P w base (fun _ => true) held t v d p) :
    ∃ (A : Option Addr) (n c : Nat) (xs : List Int), v = .slice A n c ∧ Sl w w.heap.size ILit A n c xs := by
  obtain ⟨A, n, c, rfl⟩ := okWide_slice ht hv
  obtain ⟨fuel, hf⟩ := h
  rcases open_ints ht he hC hf with ⟨hcs, _⟩ | ⟨a, len, cap, zs, hcs, _, hl, hm, hz, _, hcell, hwz⟩
  · simp [Value.cells] at hcs
    obtain ⟨rfl, rfl, rfl⟩ := hcs
    exact ⟨none, 0, 0, [], rfl, Sl.nil _ _ _⟩
  · simp [Value.cells] at hcs
    obtain ⟨rfl, rfl, rfl⟩ := hcs
    simp only [if_true] at hz
    refine ⟨some a, n, c, zs.take n, rfl, sl_of_cells (by rw [List.length_take]; omega) hl hm (fun j x hj => ?_)⟩
    rw [List.getElem?_take] at hj
    split at hj
    · have hj2 : j < zs.length := by omega
      have := hcell j hj2
      rw [List.getD_eq_getElem?_getD, hj] at this
      exact this
    · cases hj

theorem open_Bools {r : Reach} {b0 : Nat} {t e : TypeId} {v : Value} {d : DataW H} {p : List MemPlace} (ht : P.underlying t = some (.slice e)) (he : P.underlying e = some .bool) (hC : P.cellsOf e = 1)
    (hv : Value.okWide P w r b0 t v) (h : DataW.Trod enc P w base (fun _ => true) held t v d p) :
    ∃ (A : Option Addr) (n c : Nat) (xs : List Bool), v = .slice A n c ∧ Sl w w.heap.size OLit A n c xs := by
  obtain ⟨A, n, c, rfl⟩ := okWide_slice ht hv
  obtain ⟨fuel, hf⟩ := h
  rcases open_bools ht he hC hf with ⟨hcs, _⟩ | ⟨a, len, cap, B, hcs, _, hl, hm, _, hcell⟩
  · simp [Value.cells] at hcs
    obtain ⟨rfl, rfl, rfl⟩ := hcs
    exact ⟨none, 0, 0, [], rfl, Sl.nil _ _ _⟩
  · simp [Value.cells] at hcs
    obtain ⟨rfl, rfl, rfl⟩ := hcs
    refine ⟨some a, n, c, (List.range n).map B, rfl, sl_of_cells (by simp) hl hm (fun j x hj => ?_)⟩
    rw [List.getElem?_map] at hj
    by_cases hjn : j < n
    · rw [List.getElem?_range hjn] at hj
      simp at hj
      subst hj
      exact hcell j (by omega)
    · rw [List.getElem?_eq_none (by simp; omega)] at hj
      cases hj
end
end Go.Proofs.Ytillmnhhkhjpkaa

/- The reader's one, and newReader. -/
namespace Go.Proofs.Ytillmnhhkhjpkaa
open Go.RowKit



theorem Sl.new {α : Type} (w : World) (f : α → Value) (xs : List α) (t : TypeId) (hx : xs.length ≤ 9223372036854775807) :
    Sl (w.alloc (.cells (xs.map f).toArray t)) (w.heap.size + 1) f (some ⟨w.heap.size, 0, none⟩) xs.length xs.length xs := by
  refine ⟨rfl, Nat.le_refl _, hx, fun _ => ⟨w.heap.size, 0, rfl, by omega, fun j x hj => ?_⟩⟩
  rw [Nat.zero_add, World.cell?_alloc_new]
  simp [hj]

def PickedOne (w : World) (r p : Nat) (xs : List Int) (e : Ending) (w' : World) : Prop :=
  ∃ x, x ∈ xs ∧ e = .returned (.int .i64 x) ∧ ∃ os d, plus (adv w r (p + 1)) os d = w'

theorem one_c (w : World) (r n c p : Nat) (A : Option Addr) (bs : List Int) (hR : Rd w r A n c bs p) (hp : p ≤ 1000000)
    (G : Option Addr) (m c' B : Nat) (xs : List Int) (hS : Sl w B ILit G m c' xs) (hm : 0 < m) (hm2 : m ≤ 1000000) (hg : ∀ b o, G = some ⟨b, o, none⟩ → b ≠ r) :
    Calls Try.prog 34 #[.pointer (some ⟨r, 0, none⟩), .slice G m c'] w (PickedOne w r p xs) := by
  go_enter Try.func34, Try.ntmps34
  go_wp2_with fail
  refine (pick_c w r n c p A bs _ hR hp).mono ?_
  rintro e w1 ⟨k, ⟨hk0, hk1, -⟩, rfl, os1, d1, rfl⟩
  have hk2 := hk1 (by omega)
  clear hk1
  obtain ⟨k, rfl⟩ := Int.eq_ofNat_of_zero_le hk0
  obtain ⟨b, o, x, rfl, hb, hx, hc⟩ := hS.at_ (k := k) (by omega)
  have hlt := World.block_lt_of_cell? w _ hc
  have hne := hg b o rfl
  have hc2 : (plus (adv w r (p + 1)) os1 d1).cell? ⟨b, o + k, none⟩ = some (.int .i64 x) := by
    rw [cell?_plus _ _ _ _ _ (by simpa using hlt), cell?_adv _ _ _ _ _ hne]
    exact hc
  have hmem := List.mem_of_getElem? hx
  clear hx hS hg hc
  go_wp2
  go_ret
  exact ⟨x, hmem, rfl, os1, d1, rfl⟩

/-- 'one' over a list literal that was just built: the list lies in the last block. -/
theorem one_lit_c (X : World) (r n c p : Nat) (A : Option Addr) (bs : List Int) (cs : Array Value) (t : TypeId) (g m : Nat) (xs : List Int)
    (hcs : cs = (xs.map ILit).toArray) (hm : xs.length = m) (hm0 : 0 < m) (hm1 : m ≤ 1000000) (hR : Rd X r A n c bs p) (hp : p ≤ 1000000) (hg : g = X.heap.size) :
    Calls Try.prog 34 #[.pointer (some ⟨r, 0, none⟩), .slice (some ⟨g, 0, none⟩) m m] (X.alloc (.cells cs t)) (PickedOne (X.alloc (.cells cs t)) r p xs) := by
  subst hcs hg
  have hS := Sl.new X ILit xs t (by omega)
  rw [hm] at hS
  have hlt := hR.lt
  exact one_c _ r n c p A bs (hR.alloc _) hp _ _ _ _ xs hS hm0 hm1 (fun b o hb => by
    simp only [Option.some.injEq, Addr.mk.injEq] at hb
    omega)

/-- What newReader leaves: a new block with the reader at 0. -/
def NewR (w : World) (e : Ending) (w' : World) : Prop :=
  ∃ r A n c bs, e = .returned (.pointer (some ⟨r, 0, none⟩)) ∧ w.alloc (.cells #[.slice A n c, .int .i64 0] 58) = w' ∧ Rd w' r A n c bs 0 ∧ w.heap.size ≤ r ∧ r < w.heap.size + 1

theorem newR_mk {w : World} {A : Option Addr} {n c : Nat} {bs : List Int} (h : Sl w w.heap.size BLit A n c bs) (hn : n ≤ 2000) (hb : ∀ x ∈ bs, 0 ≤ x ∧ x ≤ 255) :
    NewR w (.returned (.pointer (some ⟨w.heap.size, 0, none⟩))) (w.alloc (.cells #[.slice A n c, .int .i64 0] 58)) :=
  ⟨w.heap.size, A, n, c, bs, rfl, rfl, ⟨heap_alloc_new w _, h.alloc (Nat.le_refl _) _, hn, hb⟩, Nat.le_refl _, by omega⟩

theorem newReader_c (w : World) (A : Option Addr) (n c B : Nat) (bs : List Int) (h0 : Sl w B BLit A n c bs) (hB : B ≤ w.heap.size) (hb : ∀ x ∈ bs, 0 ≤ x ∧ x ≤ 255) :
    Calls Try.prog 21 #[.slice A n c] w (NewR w) := by
  have h := h0.more hB
  have hcap := h.cap
  by_cases hn : 2000 < n
  · have h2 := h.take (k := 2000) (by omega)
    have hb2 : ∀ x ∈ bs.take 2000, 0 ≤ x ∧ x ≤ 255 := fun x hx => hb x (List.mem_of_mem_take hx)
    obtain ⟨hca, hcb⟩ := hcap
    obtain ⟨b, o, x, rfl, -⟩ := h.at_ (k := 0) (by omega)
    clear h hb h0
    go_enter Try.func21, Try.ntmps21
    go_wp2
    go_ret
    exact newR_mk h2 (by omega) hb2
  · obtain ⟨hca, hcb⟩ := hcap
    go_enter Try.func21, Try.ntmps21
    go_wp2
    go_ret
    exact newR_mk h (by omega) hb
end Go.Proofs.Ytillmnhhkhjpkaa

/- Rows that the call itself makes: one element appended; what is owned read as a slice. -/
namespace Go.Proofs.Ytillmnhhkhjpkaa
open Go.RowKit

/-- 'out = append(out, u)', out the call's own: the new element lies in the last block. -/
theorem wpList_app1 {P : Program} (w0 wr : World) {ops : Array Oper} {rest : List Oper} {o : Oper} {a : Act} {Q : Exit → Act → World → Prop} (hgd : o.guard = none) (s x : Operand) (t : TypeId)
    (ho : o.op = .call { callee := .builtin .append, args := #[s, x], argTypes := #[t, t] })
    (e : TypeId) (i : TypeInfo) (z : Value) (bytes : Nat) (ht : P.underlying t = some (.slice e)) (hi : P.info? e = some i) (hz : i.zero = some z) (hsize : i.size = 1) (hby : i.bytes = bytes) (hzs : z.cells.size = 1) (hbb : bytes ≤ 64)
    (base : Nat) (v : Value) (n : Nat) (xs : List Value) (hs : a.eval s = v) (hown : wr.ownsRow base e 1 v n xs) (u : Value) (hu : u.oneCell' = true) (g : Nat) (hx : a.eval x = .slice (some ⟨g, 0, none⟩) 1 1) (hg : g = wr.heap.size)
    (hn : n ≤ 1099511627776) (hb : Below base w0 wr) (hB : base ≤ wr.heap.size)
    (h : ∀ v' w1, w1.ownsRow base e 1 v' (n + 1) (xs ++ [u]) → Below base w0 w1 → wr.grownBy w1 v.ownBlock → wpList P ops Q rest (a.put o.dst v') w1) : wpList P ops Q (o :: rest) a (wr.alloc (.cells #[u] e)) := by
  subst hg
  refine wpList_append_own (wr.alloc (.cells #[u] e)) hgd s x t ho base e i z 1 bytes ht hi hz hsize hby hzs (by decide) v n xs hs (hown.alloc _) ⟨wr.heap.size, 0, none⟩ 1 1 [u] hx rfl ?_ ?_ ?_ ?_ (by simp; omega) ?_
  · intro j y hj
    match j, hj with
    | 0, hj =>
      simp at hj
      subst hj
      simp [Addr.add, World.cell?_alloc_new]
  · intro y hy
    simp at hy
    subst hy
    exact hu
  · unfold maxLen; omega
  · have : (n + 1) * bytes ≤ (1099511627776 + 1) * 64 := Nat.mul_le_mul (by omega) hbb
    omega
  · intro v' w1 h1 h2 _
    refine h v' w1 h1 ((hb.alloc hB _).grown h2 (by simp; omega) fun k hk => (hown.lt k hk).1) ?_
    exact ⟨h2.os, h2.tape, h2.output, Nat.le_trans (by simp) h2.size, fun k hk hne => (h2.block k (by simp; omega) hne).trans (Below.heap_alloc wr _ k hk)⟩

/-- What is owned, read as a slice. -/
theorem own_sl {α : Type} {w : World} {base : Nat} {e : TypeId} {v : Value} {n : Nat} {f : α → Value} {xs : List α} (h : w.ownsRow base e 1 v n (xs.map f)) :
    ∃ A c, v = .slice A n c ∧ Sl w w.heap.size f A n c xs := by
  have hl : xs.length = n := by have := h.1; simpa using this
  rcases h.2 with ⟨rfl, rfl⟩ | ⟨g, cap, cur, rfl, hb, hh, hnc, hcm, hcs, htake⟩
  · exact ⟨none, 0, rfl, hl, Nat.le_refl _, by omega, fun h => absurd h (by omega)⟩
  · have hlt : g < w.heap.size := by
      rcases Nat.lt_or_ge g w.heap.size with h' | h'
      · exact h'
      · rw [Array.getElem?_eq_none h'] at hh; cases hh
    refine ⟨some ⟨g, 0, none⟩, cap, rfl, hl, hnc, by unfold maxLen at hcm; exact hcm, fun hp => ⟨g, 0, rfl, hlt, fun j x hx => ?_⟩⟩
    have hjn : j < n := by
      have : j < xs.length := (List.getElem?_eq_some_iff.1 hx).1
      omega
    rw [Nat.zero_add, cell_of_row w g j cur e (0, 0) hh]
    have h2 : (cur.toList.take (n * 1))[j]? = (xs.map f)[j]? := by rw [htake]
    rw [List.getElem?_take, if_pos (by omega), List.getElem?_map, hx] at h2
    simpa using h2

/-- string(b) of a slice of bytes. -/
theorem run_bytes_str {P : Program} (w : World) (src e dst : TypeId) (hs : P.underlying src = some (.slice e)) (he : P.underlying e = some (.int .u8)) (hd : P.underlying dst = some .string) {A : Option Addr} {n c B : Nat} {l : List UInt8}
    (h : Sl w B (fun x : UInt8 => Value.int .u8 x.toNat) A n c l) : (convert src dst (.slice A n c)).run P w = .ok (.string ⟨l.toArray⟩) w := by
  have hl := h.len
  rcases Nat.eq_zero_or_pos n with h0 | h0
  · subst h0
    have hnil : l = [] := List.eq_nil_of_length_eq_zero hl
    subst hnil
    rw [run_convert_bytes_string w src dst e A 0 c hs he hd]
    cases A with
    | none => simp [Conv.bytesToString]; rfl
    | some a =>
      rw [run_bytesToString w a 0 c [] (by simp [loadCells, loadCellsFrom])]
      rfl
  · obtain ⟨-, -, -, h4⟩ := h
    obtain ⟨b, o, rfl, hb, hc⟩ := h4 h0
    have := run_convert_bytes_arg (P := P) w src e hs he b o n c (l.map fun x => (x.toNat : Int)) (by simpa using hl) (fun i hi => by
      have hi2 : i < l.length := by omega
      have := hc i l[i] (List.getElem?_eq_getElem hi2)
      rw [this]
      simp [List.getElem?_eq_getElem hi2]) dst hd
    rw [this]
    have hid : ((fun n : Int => UInt8.ofNat n.toNat) ∘ fun x : UInt8 => (x.toNat : Int)) = id := by funext x; simp
    simp [strOfNums, hid]
end Go.Proofs.Ytillmnhhkhjpkaa

/- Slices that the call itself made, to be written and read again: 'Ow'. -/
namespace Go.Proofs.Ytillmnhhkhjpkaa
open Go.RowKit

/-- The slice (A, n, c) is the head of a block of the call's own (from base on, element type E), and holds xs; or it is empty. -/
def Ow {α : Type} (w : World) (base E : Nat) (f : α → Value) (A : Option Addr) (n c : Nat) (xs : List α) : Prop :=
  xs.length = n ∧ n ≤ c ∧ c ≤ 9223372036854775807 ∧
  (0 < n → ∃ g cs, A = some ⟨g, 0, none⟩ ∧ base ≤ g ∧ w.heap[g]? = some (.cells cs E (0, 0)) ∧ ∀ (j : Nat) (x : α), xs[j]? = some x → cs[j]? = some (f x))

theorem lt_of_heap {w : World} {g : Nat} {o : Obj} (h : w.heap[g]? = some o) : g < w.heap.size := by
  rcases Nat.lt_or_ge g w.heap.size with hl | hl
  · exact hl
  · rw [Array.getElem?_eq_none hl] at h; cases h

section
variable {α : Type} {w w' : World} {base E n c : Nat} {f : α → Value} {A : Option Addr} {xs : List α}
theorem Ow.len (h : Ow w base E f A n c xs) : xs.length = n := h.1
theorem Ow.sl (h : Ow w base E f A n c xs) : Sl w w.heap.size f A n c xs := by
  obtain ⟨h1, h2, h3, h4⟩ := h
  refine ⟨h1, h2, h3, fun hn => ?_⟩
  obtain ⟨g, cs, hA, hb, hh, hc⟩ := h4 hn
  refine ⟨g, 0, hA, lt_of_heap hh, fun j x hx => ?_⟩
  rw [Nat.zero_add, cell_of_row w g j cs E (0, 0) hh]
  exact hc j x hx
/-- Kept while its block stands. -/
theorem Ow.keep (h : Ow w base E f A n c xs) (hk : ∀ g, base ≤ g → g < w.heap.size → A = some ⟨g, 0, none⟩ → w'.heap[g]? = w.heap[g]?) : Ow w' base E f A n c xs := by
  obtain ⟨h1, h2, h3, h4⟩ := h
  refine ⟨h1, h2, h3, fun hn => ?_⟩
  obtain ⟨g, cs, hA, hb, hh, hc⟩ := h4 hn
  exact ⟨g, cs, hA, hb, (hk g hb (lt_of_heap hh) hA).trans hh, hc⟩
theorem Ow.below (h : Ow w base E f A n c xs) (hb : Below w.heap.size w w') : Ow w' base E f A n c xs := h.keep fun g _ hg _ => hb.block g hg
theorem Ow.mono {b' : Nat} (h : Ow w base E f A n c xs) (hb : b' ≤ base) : Ow w b' E f A n c xs := by
  obtain ⟨h1, h2, h3, h4⟩ := h
  refine ⟨h1, h2, h3, fun hn => ?_⟩
  obtain ⟨g, cs, hA, hb2, hh, hc⟩ := h4 hn
  exact ⟨g, cs, hA, by omega, hh, hc⟩
theorem Ow.nil (w : World) (base E : Nat) (f : α → Value) : Ow w base E f none 0 0 ([] : List α) := ⟨rfl, Nat.le_refl _, by omega, fun h => absurd h (by omega)⟩
theorem Ow.of_own {v : Value} (h : w.ownsRow base E 1 v n (xs.map f)) : ∃ A c, v = .slice A n c ∧ Ow w base E f A n c xs := by
  have hl : xs.length = n := by have := h.1; simpa using this
  rcases h.2 with ⟨rfl, rfl⟩ | ⟨g, cap, cur, rfl, hb, hh, hnc, hcm, hcs, htake⟩
  · exact ⟨none, 0, rfl, hl, Nat.le_refl _, by omega, fun h => absurd h (by omega)⟩
  · refine ⟨some ⟨g, 0, none⟩, cap, rfl, hl, hnc, by unfold maxLen at hcm; exact hcm, fun hp => ⟨g, cur, rfl, hb, hh, fun j x hx => ?_⟩⟩
    have hjn : j < n := by
      have : j < xs.length := (List.getElem?_eq_some_iff.1 hx).1
      omega
    have h2 : (cur.toList.take (n * 1))[j]? = (xs.map f)[j]? := by rw [htake]
    rw [List.getElem?_take, if_pos (by omega), List.getElem?_map, hx] at h2
    simpa using h2
theorem Ow.new (w : World) (f : α → Value) (xs : List α) (E : Nat) (hx : xs.length ≤ 9223372036854775807) : Ow (w.alloc (.cells (xs.map f).toArray E)) w.heap.size E f (some ⟨w.heap.size, 0, none⟩) xs.length xs.length xs :=
  ⟨rfl, Nat.le_refl _, hx, fun _ => ⟨_, _, rfl, Nat.le_refl _, heap_alloc_new w _, fun j x hj => by simp [hj]⟩⟩
end

def eqL {α : Type} [DecidableEq α] (xs ys : List α) : Bool := decide (xs = ys)
theorem eqL_true {α : Type} [DecidableEq α] {xs ys : List α} (h : xs = ys) : eqL xs ys = true := by simp [eqL, h]
theorem eqL_len {α : Type} [DecidableEq α] {xs ys : List α} (h : xs.length ≠ ys.length) : eqL xs ys = false := by
  simp only [eqL, decide_eq_false_iff_not]
  intro e; exact h (by rw [e])
theorem eqL_at {α : Type} [DecidableEq α] {xs ys : List α} {k : Nat} {x y : α} (hx : xs[k]? = some x) (hy : ys[k]? = some y) (h : x ≠ y) : eqL xs ys = false := by
  simp only [eqL, decide_eq_false_iff_not]
  intro e
  rw [e, hy] at hx
  injection hx with hx
  exact h hx.symm
theorem take_snoc {α : Type} {xs : List α} {k : Nat} {x : α} (h : xs[k]? = some x) : xs.take (k + 1) = xs.take k ++ [x] := by
  rw [List.take_add_one, h]; rfl

/-- The row after k of n stores: the first k elements laid, the rest zero. -/
def part {α : Type} (f : α → Value) (z : Value) (xs : List α) (k : Nat) : Array Value := ((xs.take k).map f ++ List.replicate (xs.length - k) z).toArray
theorem part_size {α : Type} (f : α → Value) (z : Value) (xs : List α) {k : Nat} (h : k ≤ xs.length) : (part f z xs k).size = xs.length := by simp [part]; omega
theorem part_zero {α : Type} (f : α → Value) (z : Value) (xs : List α) : part f z xs 0 = madeCells #[z] xs.length := by
  apply Array.ext_getElem?
  intro j
  simp only [part, List.take_zero, List.map_nil, List.nil_append, Nat.sub_zero]
  by_cases hj : j < xs.length
  · simp [madeCells, hj, Nat.mod_one]
  · simp [madeCells, hj]
theorem part_all {α : Type} (f : α → Value) (z : Value) (xs : List α) : part f z xs xs.length = (xs.map f).toArray := by simp [part]
theorem part_old {α : Type} (f : α → Value) (z : Value) (xs : List α) {k : Nat} (h : k < xs.length) : (part f z xs k)[k]? = some z := by
  simp only [part, List.getElem?_toArray]
  rw [List.getElem?_append_right (by simp; omega)]
  simp [List.getElem?_replicate]
  omega
theorem part_set {α : Type} (f : α → Value) (z : Value) (xs : List α) {k : Nat} {x : α} (h : xs[k]? = some x) : (part f z xs k).setIfInBounds k (f x) = part f z xs (k + 1) := by
  have hk : k < xs.length := (List.getElem?_eq_some_iff.1 h).1
  apply Array.ext_getElem?
  intro j
  simp only [part, Array.getElem?_setIfInBounds, List.getElem?_toArray, List.size_toArray]
  rw [take_snoc h]
  have e : xs.length - k = xs.length - (k + 1) + 1 := by omega
  rw [e, List.replicate_succ]
  by_cases hj : k = j
  · subst hj
    simp [List.getElem?_append, hk, Nat.min_eq_left (Nat.le_of_lt hk)]
  · simp only [hj, if_false, List.map_append, List.map_cons, List.map_nil, List.append_assoc, List.cons_append, List.nil_append]
    rcases Nat.lt_or_ge j k with hl | hl
    · rw [List.getElem?_append_left (by simp; omega), List.getElem?_append_left (by simp; omega)]
    · rw [List.getElem?_append_right (by simp; omega), List.getElem?_append_right (by simp; omega)]
      have : j - (List.map f (List.take k xs)).length ≠ 0 := by simp; omega
      obtain ⟨m, hm⟩ := Nat.exists_eq_succ_of_ne_zero this
      rw [hm]
      rfl
end Go.Proofs.Ytillmnhhkhjpkaa

/- The reader across a loop: the world of the loop is 'Below' the first world with the reader gone on. -/
namespace Go.Proofs.Ytillmnhhkhjpkaa
open Go.RowKit

theorem Rd.below {w w' : World} {r n c p B : Nat} {A : Option Addr} {bs : List Int} (h : Rd w r A n c bs p) (hb : Below B w w') (hB : r < B) : Rd w' r A n c bs p :=
  ⟨(hb.block r hB).trans h.1, h.2.1.below (hb.mono (Nat.le_of_lt hB)), h.2.2⟩

theorem below_setCell2 {B : Nat} {a b : World} (h : Below B a b) (x : Addr) (v : Value) : Below B (a.setCell x v) (b.setCell x v) := by
  obtain ⟨h1, h2, h3, h4, h5⟩ := h
  refine ⟨h1, h2, h3, by simpa [World.setCell] using h4, fun k hk => ?_⟩
  have := h5 k hk
  simp only [World.setCell, Array.getElem?_modify]
  rw [this]

theorem below_adv2 {B : Nat} {w wr : World} {r q : Nat} (h : Below B (adv w r q) wr) (q' : Nat) : Below B (adv w r q') (adv wr r q') := by
  have := below_setCell2 h ⟨r, 1, none⟩ (.int .i64 q')
  rw [show (adv w r q).setCell ⟨r, 1, none⟩ (.int .i64 q') = adv w r q' from adv_adv w r q q'] at this
  exact this

theorem grown_adv {w w1 : World} {r q : Nat} (h : Below w.heap.size (adv w r q) w1) : w.grownBy w1 (some r) := by
  have hs := h.size
  obtain ⟨h1, h2, h3, h4, h5⟩ := h
  refine ⟨h1, h2, h3, by simpa using hs, fun k hk hne => (h5 k hk).trans (heap_adv w r q k fun e => hne (by rw [e]))⟩

theorem own_go {w w1 : World} {r q base e k n : Nat} {v : Value} {xs : List Value} (h : w.ownsRow base e k v n xs) (hr : r < base) (hb : Below w.heap.size (adv w r q) w1) : w1.ownsRow base e k v n xs := by
  refine h.kept (grown_adv hb) (.inr fun hv => ?_)
  have := h.lt r hv
  omega

def PickedG (w wr : World) (r q : Nat) (m : Int) (e : Ending) (w1 : World) : Prop :=
  ∃ k, PickOk m k ∧ e = .returned (.int .i64 k) ∧ Below w.heap.size (adv w r (q + 1)) w1 ∧ Below wr.heap.size (adv wr r (q + 1)) w1

theorem pick_g (w wr : World) (r n c p q : Nat) (A : Option Addr) (bs : List Int) (m : Int) (hR : Rd w r A n c bs p) (hb : Below w.heap.size (adv w r q) wr) (hq : q ≤ 1000000) :
    Calls Try.prog 24 #[.pointer (some ⟨r, 0, none⟩), .int .i64 m] wr (PickedG w wr r q m) := by
  have hl := hR.lt
  refine (pick_c wr r n c q A bs m ((hR.adv q).below hb hl) hq).mono ?_
  rintro e w1 ⟨k, hk, rfl, os, d, rfl⟩
  have hs := hb.size
  simp only [size_adv] at hs
  have h2 := below_adv2 hb (q + 1)
  refine ⟨k, hk, rfl, below_plus h2 (by simpa using hs) _ _, below_plus (Below.refl _ _) (by simp) _ _⟩
end Go.Proofs.Ytillmnhhkhjpkaa
