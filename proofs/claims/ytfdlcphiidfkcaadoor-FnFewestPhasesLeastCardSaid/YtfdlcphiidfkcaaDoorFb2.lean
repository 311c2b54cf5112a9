/- Rows under way: exchanges. -/
import Derived.Test.YtfdlcphiidfkcaaDoorBc
import Derived.Test.YtfdlcphiidfkcaaDoorBb
set_option linter.unusedVariables false
set_option linter.unusedSimpArgs false
namespace Go.Proofs.YtfdlcphiidfkcaaDoor
open Go.RowKit

/-- A row of one-cell values: its cells, and what a store leaves. -/
theorem own_set {w : World} {base e n : Nat} {v : Value} {xs : List Value} (h : w.ownsRow base e 1 v n xs) (hn : 0 < n) : ∃ g cap, v = .slice (some ⟨g, 0, none⟩) n cap ∧ n ≤ cap ∧ cap ≤ 9223372036854775807 ∧ base ≤ g ∧ g < w.heap.size ∧ (∃ cur, w.heap[g]? = some (.cells cur e (0, 0))) ∧
    (∀ (i : Nat) (x : Value), xs[i]? = some x → w.cell? ⟨g, i, none⟩ = some x) ∧ (∀ i, w.frozen? ⟨g, i, none⟩ = false) ∧ ∀ (j : Nat) (u : Value), j < n → (w.setCell ⟨g, j, none⟩ u).ownsRow base e 1 v n (xs.set j u) := by
  obtain ⟨hl, h2⟩ := h
  rcases h2 with ⟨-, h0⟩ | ⟨g, cap, cur, rfl, hb, hh, hnc, hcm, hcs, htake⟩
  · omega
  · rw [Nat.mul_one] at hl hcs htake
    refine ⟨g, cap, rfl, hnc, by unfold maxLen at hcm; exact hcm, hb, lt_of_heap hh, ⟨cur, hh⟩, fun i x hx => ?_, fun i => by simp [World.frozen?, hh], fun j u hj => ?_⟩
    · rw [cell_of_row _ _ _ _ _ _ hh]
      rw [← htake, List.getElem?_take] at hx
      split at hx
      · simpa using hx
      · cases hx
    · refine ⟨by simp [hl], .inr ⟨g, cap, _, rfl, hb, heap_setCell_same w g j cur _ _ hh, hnc, hcm, by simp [hcs], ?_⟩⟩
      rw [Nat.mul_one, Array.toList_setIfInBounds, List.take_set, htake]

section
variable {α : Type} {w w' : World} {lo hi E2 E k n : Nat} {f : α → Value} {v : Value} {vs vs' : List Value} {xss xss' : List (List α)}
theorem Rws.reindex (h : Rws w lo hi E f vs xss) (hl : vs'.length = xss'.length) (hp : vs'.Perm vs) (hi' : ∀ (j : Nat) (u : Value) (xs : List α), vs'[j]? = some u → xss'[j]? = some xs → ∃ i : Nat, vs[i]? = some u ∧ xss[i]? = some xs) : Rws w lo hi E f vs' xss' := by
  refine ⟨hl, fun j u xs hu hx => ?_, ?_⟩
  · obtain ⟨i, h1, h2⟩ := hi' j u xs hu hx
    exact h.2.1 i u xs h1 h2
  · refine (hp.pairwise_iff (fun {a b} hab => ?_)).2 h.2.2
    rcases hab with hab | hab
    · cases hb : b.ownBlock with
      | none => exact .inl rfl
      | some x => right; rw [hab]; simp
    · exact .inr (fun e => hab e.symm)

/-- An exchange of two rows that lie side by side. -/
theorem Bld.swap (h : Bld w lo E2 E f v k xss) {j : Nat} (hj : j + 1 < k) : ∃ g cap A1 n1 c1 A2 n2 c2 xs1 xs2, v = .slice (some ⟨g, 0, none⟩) k cap ∧ k ≤ cap ∧ cap ≤ 9223372036854775807 ∧ lo ≤ g ∧ g < w.heap.size ∧ xss[j]? = some xs1 ∧ xss[j + 1]? = some xs2 ∧
    w.cell? ⟨g, j, none⟩ = some (.slice A1 n1 c1) ∧ w.cell? ⟨g, j + 1, none⟩ = some (.slice A2 n2 c2) ∧ Sl w w.heap.size f A1 n1 c1 xs1 ∧ Sl w w.heap.size f A2 n2 c2 xs2 ∧ (∀ i, w.frozen? ⟨g, i, none⟩ = false) ∧
    Bld ((w.setCell ⟨g, j + 1, none⟩ (.slice A1 n1 c1)).setCell ⟨g, j, none⟩ (.slice A2 n2 c2)) lo E2 E f v k ((xss.set (j + 1) xs1).set j xs2) := by
  obtain ⟨vs, h1, h2, h3⟩ := h
  obtain ⟨g, cap, rfl, a1, a2, a3, a4, -, a5, a6, a7⟩ := own_set h1 (by omega)
  have hvl : vs.length = k := by simpa using h1.1
  have hu1 : vs[j]? = some vs[j] := List.getElem?_eq_getElem (by omega)
  have hu2 : vs[j + 1]? = some vs[j + 1] := List.getElem?_eq_getElem (by omega)
  obtain ⟨xs1, A1, n1, c1, x1, e1, o1, b1⟩ := h2.at_ hu1
  obtain ⟨xs2, A2, n2, c2, x2, e2, o2, b2⟩ := h2.at_ hu2
  rw [e1] at hu1
  rw [e2] at hu2
  refine ⟨g, cap, A1, n1, c1, A2, n2, c2, xs1, xs2, rfl, a1, a2, a3, a4, x1, x2, a5 _ _ hu1, a5 _ _ hu2, o1.sl, o2.sl, a6, ?_⟩
  have hz : ((w.setCell ⟨g, j + 1, none⟩ (.slice A1 n1 c1)).setCell ⟨g, j, none⟩ (.slice A2 n2 c2)).heap.size = w.heap.size := by simp [World.setCell]
  have hag : ∀ b, b ≠ g → ((w.setCell ⟨g, j + 1, none⟩ (.slice A1 n1 c1)).setCell ⟨g, j, none⟩ (.slice A2 n2 c2)).heap[b]? = w.heap[b]? := fun b hne =>
    (Below.heap_setCell _ ⟨g, j, none⟩ _ b hne).trans (Below.heap_setCell _ ⟨g, j + 1, none⟩ _ b hne)
  have hO1 := a7 (j + 1) (.slice A1 n1 c1) (by omega)
  obtain ⟨g', cap', e, -, -, -, -, -, -, -, a7'⟩ := own_set hO1 (by omega)
  injection e with e
  injection e with e
  injection e with e
  subst e
  have hO2 := a7' j (.slice A2 n2 c2) (by omega)
  have hpv := perm_swap hu1 hu2
  have hR : Rws ((w.setCell ⟨g, j + 1, none⟩ (.slice A1 n1 c1)).setCell ⟨g, j, none⟩ (.slice A2 n2 c2)) lo w.heap.size E f vs xss := h2.keep fun b hb1 hb2 ⟨u, hu, hub⟩ => hag b fun e => by
    rcases h3 u hu with h | h
    · rw [h] at hub; cases hub
    · exact h (by rw [hub, e]; rfl)
  refine ⟨_, hO2, ?_, fun u hu => h3 u (hpv.mem_iff.1 hu)⟩
  rw [hz]
  have hxl : xss.length = vs.length := h2.1.symm
  refine hR.reindex (by simp [hxl]) hpv fun i u xs hu hx => ?_
  by_cases h4 : i = j
  · subst h4
    rw [List.getElem?_set_self (by simp; omega)] at hu hx
    exact ⟨i + 1, by rw [hu2]; exact hu, by rw [x2]; exact hx⟩
  · rw [List.getElem?_set_ne (fun h => h4 h.symm)] at hu hx
    by_cases h5 : i = j + 1
    · subst h5
      rw [List.getElem?_set_self (by omega)] at hu hx
      exact ⟨j, by rw [hu1]; exact hu, by rw [x1]; exact hx⟩
    · rw [List.getElem?_set_ne (fun h => h5 h.symm)] at hu hx
      exact ⟨i, hu, hx⟩
theorem Bld.sl_at (h : Bld w lo E2 E f v k xss) {j : Nat} (hj : j < k) : ∃ g cap A1 n1 c1 xs1, v = .slice (some ⟨g, 0, none⟩) k cap ∧ k ≤ cap ∧ cap ≤ 9223372036854775807 ∧ g < w.heap.size ∧ xss[j]? = some xs1 ∧ w.cell? ⟨g, j, none⟩ = some (.slice A1 n1 c1) ∧ Sl w w.heap.size f A1 n1 c1 xs1 := by
  obtain ⟨vs, h1, h2, h3⟩ := h
  obtain ⟨g, cap, rfl, a1, a2, a3, a4, -, a5, a6, a7⟩ := own_set h1 (by omega)
  have hvl : vs.length = k := by simpa using h1.1
  have hu1 : vs[j]? = some vs[j] := List.getElem?_eq_getElem (by omega)
  obtain ⟨xs1, A1, n1, c1, x1, e1, o1, b1⟩ := h2.at_ hu1
  rw [e1] at hu1
  exact ⟨g, cap, A1, n1, c1, xs1, rfl, a1, a2, a4, x1, a5 _ _ hu1, o1.sl⟩
theorem Bld.len (h : Bld w lo E2 E f v k xss) : xss.length = k := by
  obtain ⟨vs, h1, h2, -⟩ := h
  have : vs.length = k := by simpa using h1.1
  rw [← h2.1]; exact this
end
end Go.Proofs.YtfdlcphiidfkcaaDoor
