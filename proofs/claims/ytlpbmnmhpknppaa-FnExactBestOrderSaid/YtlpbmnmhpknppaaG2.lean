/- Slices of slices that the call itself made: 'Ow2'; from them 'Sl2'. -/
import Derived.Test.YtlpbmnmhpknppaaGr
import Derived.Test.YtlpbmnmhpknppaaOw
set_option linter.unusedVariables false
set_option linter.unusedSimpArgs false
namespace Go.Proofs.Ytlpbmnmhpknppaa
open Go.RowKit

/-- Rows: each value of vs is a slice at the head of a block of its own in lo..hi-1 (element type E), which holds the list of xss at its place; no two share a block. -/
def Rws {α : Type} (w : World) (lo hi E : Nat) (f : α → Value) (vs : List Value) (xss : List (List α)) : Prop :=
  vs.length = xss.length ∧
  (∀ (j : Nat) (v : Value) (xs : List α), vs[j]? = some v → xss[j]? = some xs → ∃ A n c, v = .slice A n c ∧ Ow w lo E f A n c xs ∧ ∀ b, v.ownBlock = some b → lo ≤ b ∧ b < hi) ∧
  vs.Pairwise (fun u v => u.ownBlock = none ∨ u.ownBlock ≠ v.ownBlock)

/-- A slice of slices of the call's own, all blocks in lo..hi-1, the outer one of element type E2. -/
def Ow2 {α : Type} (w : World) (lo hi E2 E : Nat) (f : α → Value) (A : Option Addr) (n c : Nat) (xss : List (List α)) : Prop :=
  ∃ vs : List Value, Ow w lo E2 id A n c vs ∧ Rws w lo hi E f vs xss ∧ (∀ b o, A = some ⟨b, o, none⟩ → b < hi)

section
variable {α : Type} {w w' : World} {lo hi E E2 n c : Nat} {f : α → Value} {A : Option Addr} {xss : List (List α)} {vs : List Value}

theorem Rws.nil (w : World) (lo hi E : Nat) (f : α → Value) : Rws w lo hi E f [] ([] : List (List α)) := ⟨rfl, fun j v xs h => (by cases h), List.Pairwise.nil⟩
theorem Rws.at_ (h : Rws w lo hi E f vs xss) {j : Nat} {v : Value} (hj : vs[j]? = some v) : ∃ xs A n c, xss[j]? = some xs ∧ v = .slice A n c ∧ Ow w lo E f A n c xs ∧ ∀ b, v.ownBlock = some b → lo ≤ b ∧ b < hi := by
  have hl := (List.getElem?_eq_some_iff.1 hj).1
  rw [h.1] at hl
  obtain ⟨A, n, c, e1, e2, e3⟩ := h.2.1 j v xss[j] hj (List.getElem?_eq_getElem hl)
  exact ⟨_, A, n, c, List.getElem?_eq_getElem hl, e1, e2, e3⟩
/-- Kept while the blocks lo..hi-1 of the rows stand. -/
theorem Rws.keep (h : Rws w lo hi E f vs xss) (hk : ∀ b, lo ≤ b → b < hi → (∃ v ∈ vs, v.ownBlock = some b) → w'.heap[b]? = w.heap[b]?) : Rws w' lo hi E f vs xss := by
  refine ⟨h.1, fun j v xs hv hx => ?_, h.2.2⟩
  obtain ⟨A, n, c, rfl, e2, e3⟩ := h.2.1 j v xs hv hx
  refine ⟨A, n, c, rfl, e2.keep fun g _ _ hA => ?_, e3⟩
  subst hA
  obtain ⟨b1, b2⟩ := e3 g rfl
  exact hk g b1 b2 ⟨_, List.mem_of_getElem? hv, rfl⟩
theorem Rws.below (h : Rws w lo hi E f vs xss) (hh : hi ≤ w.heap.size) (hb : Below w.heap.size w w') : Rws w' lo hi E f vs xss := h.keep fun b _ h2 _ => hb.block b (by omega)
theorem Rws.more {hi' : Nat} (h : Rws w lo hi E f vs xss) (hh : hi ≤ hi') : Rws w lo hi' E f vs xss := by
  refine ⟨h.1, fun j v xs hv hx => ?_, h.2.2⟩
  obtain ⟨A, n, c, e1, e2, e3⟩ := h.2.1 j v xs hv hx
  exact ⟨A, n, c, e1, e2, fun b hb => ⟨(e3 b hb).1, by have := (e3 b hb).2; omega⟩⟩
theorem Rws.less {lo' : Nat} (h : Rws w lo hi E f vs xss) (hh : lo' ≤ lo) : Rws w lo' hi E f vs xss := by
  refine ⟨h.1, fun j v xs hv hx => ?_, h.2.2⟩
  obtain ⟨A, n, c, e1, e2, e3⟩ := h.2.1 j v xs hv hx
  exact ⟨A, n, c, e1, e2.mono hh, fun b hb => ⟨by have := (e3 b hb).1; omega, (e3 b hb).2⟩⟩
/-- One row more, in a block of its own. -/
theorem Rws.snoc (h : Rws w lo hi E f vs xss) {A1 : Option Addr} {n1 c1 : Nat} {xs : List α} (hO : Ow w lo E f A1 n1 c1 xs)
    (hb : ∀ b, (Value.slice A1 n1 c1).ownBlock = some b → lo ≤ b ∧ b < hi ∧ ∀ v ∈ vs, v.ownBlock ≠ some b) : Rws w lo hi E f (vs ++ [.slice A1 n1 c1]) (xss ++ [xs]) := by
  have hl := h.1
  refine ⟨by simp [hl], fun j v ys hv hy => ?_, ?_⟩
  · rcases Nat.lt_or_ge j vs.length with hlt | hge
    · rw [List.getElem?_append_left hlt] at hv
      rw [List.getElem?_append_left (by omega)] at hy
      exact h.2.1 j v ys hv hy
    · have hj : j = vs.length := by
        have := (List.getElem?_eq_some_iff.1 hv).1
        simp at this; omega
      subst hj
      simp at hv
      rw [hl] at hy
      simp at hy
      subst hv hy
      exact ⟨A1, n1, c1, rfl, hO, fun b hb' => ⟨(hb b hb').1, (hb b hb').2.1⟩⟩
  · rw [List.pairwise_append]
    refine ⟨h.2.2, List.pairwise_singleton _ _, fun u hu v hv => ?_⟩
    simp at hv
    subst hv
    cases hu2 : u.ownBlock with
    | none => exact .inl rfl
    | some b =>
      refine .inr fun e => ?_
      exact (hb b e.symm).2.2 u hu hu2
/-- One row written anew. -/
theorem Rws.set (h : Rws w lo hi E f vs xss) {j n1 c1 : Nat} {A1 : Option Addr} {ys : List α} (hv : vs[j]? = some (.slice A1 n1 c1)) (hO : Ow w' lo E f A1 n1 c1 ys)
    (hg : ∀ b, b < w.heap.size → (Value.slice A1 n1 c1).ownBlock ≠ some b → w'.heap[b]? = w.heap[b]?) (hs : ∀ b, lo ≤ b → b < hi → b < w.heap.size) : Rws w' lo hi E f vs (xss.set j ys) := by
  refine ⟨by simp [h.1], fun i v xs hi hx => ?_, h.2.2⟩
  rw [List.getElem?_set] at hx
  by_cases hji : j = i
  · subst hji
    rw [if_pos rfl] at hx
    have hl : j < xss.length := by rw [← h.1]; exact (List.getElem?_eq_some_iff.1 hv).1
    rw [if_pos hl] at hx
    injection hx with hx
    subst hx
    rw [hv] at hi
    injection hi with hi
    subst hi
    obtain ⟨A, n, c, e1, e2, e3⟩ := h.2.1 j _ xss[j] hv (List.getElem?_eq_getElem hl)
    exact ⟨A1, n1, c1, rfl, hO, e3⟩
  · rw [if_neg hji] at hx
    obtain ⟨A, n, c, rfl, e2, e3⟩ := h.2.1 i v xs hi hx
    refine ⟨A, n, c, rfl, e2.keep fun g hg1 hg2 hA => ?_, e3⟩
    subst hA
    refine hg g hg2 fun e => ?_
    -- two rows would share the block g
    have hpw := h.2.2
    rw [List.pairwise_iff_getElem] at hpw
    obtain ⟨l1, g1⟩ := List.getElem?_eq_some_iff.1 hv
    obtain ⟨l2, g2⟩ := List.getElem?_eq_some_iff.1 hi
    rcases Nat.lt_or_gt_of_ne hji with hlt | hgt
    · have := hpw j i l1 l2 hlt
      rw [g1, g2, e] at this
      simp [Value.ownBlock] at this
    · have := hpw i j l2 l1 hgt
      rw [g1, g2, e] at this
      simp [Value.ownBlock] at this

theorem Ow2.len (h : Ow2 w lo hi E2 E f A n c xss) : xss.length = n := by
  obtain ⟨vs, h1, h2, -⟩ := h
  rw [← h2.1]; exact h1.len
theorem Ow2.cap (h : Ow2 w lo hi E2 E f A n c xss) : n ≤ c ∧ c ≤ 9223372036854775807 := by
  obtain ⟨vs, h1, h2, -⟩ := h
  exact ⟨h1.2.1, h1.2.2.1⟩
theorem Ow2.sl2 (h : Ow2 w lo hi E2 E f A n c xss) : Sl2 w w.heap.size f A n c xss := by
  have hn := h.len
  obtain ⟨vs, h1, h2, h3⟩ := h
  obtain ⟨e1, e2, e3, e4⟩ := h1.sl
  refine ⟨hn, e2, e3, fun hp => ?_⟩
  obtain ⟨b, o, hA, hb, hc⟩ := e4 hp
  refine ⟨b, o, hA, hb, fun j xs hj => ?_⟩
  have hl := (List.getElem?_eq_some_iff.1 hj).1
  have hl2 : j < vs.length := by rw [h2.1]; exact hl
  obtain ⟨A', n', c', f1, f2, f3⟩ := h2.2.1 j vs[j] xs (List.getElem?_eq_getElem hl2) hj
  refine ⟨A', n', c', ?_, f2.sl⟩
  rw [hc j vs[j] (List.getElem?_eq_getElem hl2), f1]; rfl
theorem Ow2.keep (h : Ow2 w lo hi E2 E f A n c xss) (hk : ∀ b, lo ≤ b → b < hi → b < w.heap.size → w'.heap[b]? = w.heap[b]?) : Ow2 w' lo hi E2 E f A n c xss := by
  obtain ⟨vs, h1, h2, h3⟩ := h
  refine ⟨vs, h1.keep fun g hg hlt hA => hk g hg (h3 g 0 hA) hlt, ?_, h3⟩
  refine ⟨h2.1, fun j v xs hv hx => ?_, h2.2.2⟩
  obtain ⟨A', n', c', rfl, f2, f3⟩ := h2.2.1 j v xs hv hx
  refine ⟨A', n', c', rfl, f2.keep fun g hg hlt hA => ?_, f3⟩
  subst hA
  exact hk g hg (f3 g rfl).2 hlt
theorem Ow2.below (h : Ow2 w lo hi E2 E f A n c xss) (hb : Below w.heap.size w w') : Ow2 w' lo hi E2 E f A n c xss := h.keep fun b _ _ hlt => hb.block b hlt
theorem Ow2.more {hi' : Nat} (h : Ow2 w lo hi E2 E f A n c xss) (hh : hi ≤ hi') : Ow2 w lo hi' E2 E f A n c xss := by
  obtain ⟨vs, h1, h2, h3⟩ := h
  exact ⟨vs, h1, h2.more hh, fun b o hA => by have := h3 b o hA; omega⟩
theorem Ow2.less {lo' : Nat} (h : Ow2 w lo hi E2 E f A n c xss) (hh : lo' ≤ lo) : Ow2 w lo' hi E2 E f A n c xss := by
  obtain ⟨vs, h1, h2, h3⟩ := h
  exact ⟨vs, h1.mono hh, h2.less hh, h3⟩
theorem Ow2.nil (w : World) (lo hi E2 E : Nat) (f : α → Value) : Ow2 w lo hi E2 E f none 0 0 ([] : List (List α)) :=
  ⟨[], Ow.nil _ _ _ _, Rws.nil _ _ _ _ _, fun b o h => by cases h⟩
end

/-- The elements of all rows. -/
def tot {α : Type} : List (List α) → Nat
  | [] => 0
  | xs :: r => xs.length + tot r
theorem tot_take_le {α : Type} (xss : List (List α)) (k : Nat) : tot (xss.take k) ≤ tot xss := by
  induction xss generalizing k with
  | nil => simp
  | cons x r ih =>
    cases k with
    | zero => simp [tot]
    | succ k =>
      have := ih k
      simp only [List.take_succ_cons, tot]; omega
theorem tot_snoc {α : Type} {xss : List (List α)} {k : Nat} {xs : List α} (h : xss[k]? = some xs) : tot (xss.take (k + 1)) = tot (xss.take k) + xs.length := by
  induction xss generalizing k with
  | nil => cases h
  | cons x r ih =>
    cases k with
    | zero =>
      simp at h
      subst h
      simp [tot]
    | succ k =>
      simp only [List.getElem?_cons_succ] at h
      have := ih h
      simp only [List.take_succ_cons, tot]; omega
theorem tot_all {α : Type} (xss : List (List α)) : tot (xss.take xss.length) = tot xss := by rw [List.take_length]
theorem tot_at {α : Type} {xss : List (List α)} {k : Nat} {xs : List α} (h : xss[k]? = some xs) : xs.length ≤ tot xss := by
  have h1 := tot_snoc h
  have h2 := tot_take_le xss (k + 1)
  omega

/-- What sz.. returns. -/
def szV {α : Type} (xss : List (List α)) (left : Int) : Int := if (xss.length : Int) + tot xss ≤ left then left - xss.length - tot xss else -1
theorem szV_le {α : Type} {xss : List (List α)} {left : Int} (h : 0 ≤ szV xss left) : (xss.length : Int) + tot xss ≤ left := by
  unfold szV at h
  split at h
  · assumption
  · omega
theorem szV_bd {α : Type} (xss : List (List α)) {left : Int} (h : 0 ≤ left) : szV xss left ≤ left ∧ -1 ≤ szV xss left := by
  unfold szV
  split <;> omega
theorem Ow2.past {α : Type} {w w' : World} {lo hi hi' E E2 n c : Nat} {f : α → Value} {A : Option Addr} {xss : List (List α)} (h : Ow2 w lo hi E2 E f A n c xss) (hk : ∀ b, hi' ≤ b → b < w.heap.size → w'.heap[b]? = w.heap[b]?) (hb : hi' ≤ lo) : Ow2 w' lo hi E2 E f A n c xss :=
  h.keep fun b h1 _ h2 => hk b (by omega) h2
end Go.Proofs.Ytlpbmnmhpknppaa
