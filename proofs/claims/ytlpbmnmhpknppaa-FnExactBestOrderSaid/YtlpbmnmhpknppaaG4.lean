/- Slices of slices that the call makes whole and fills: bools; a row put into its place. -/
import Derived.Test.YtlpbmnmhpknppaaG3
set_option linter.unusedVariables false
set_option linter.unusedSimpArgs false
namespace Go.Proofs.Ytlpbmnmhpknppaa
open Go.RowKit

theorem Ow.setB {w : World} {base E n c g j : Nat} {xs : List Bool} {x : Bool} (h : Ow w base E OLit (some ⟨g, 0, none⟩) n c xs) (hj : j < n) : Ow (w.setCell ⟨g, j, none⟩ (.bool x)) base E OLit (some ⟨g, 0, none⟩) n c (xs.set j x) := by
  obtain ⟨h1, h2, h3, h4⟩ := h
  refine ⟨by simpa using h1, h2, h3, fun hn => ?_⟩
  obtain ⟨g', cs, hA, hb, hh, hc⟩ := h4 hn
  injection hA with hA
  injection hA with hA
  subst hA
  refine ⟨g, _, rfl, hb, heap_setCell_same w g j cs _ _ hh, fun k y hy => ?_⟩
  rw [Array.getElem?_setIfInBounds]
  have hjx : j < xs.length := by omega
  have hjc : j < cs.size := by
    have := hc j xs[j] (List.getElem?_eq_getElem hjx)
    exact (Array.getElem?_eq_some_iff.1 this).1
  rw [List.getElem?_set] at hy
  by_cases hk : j = k
  · subst hk
    rw [if_pos rfl, if_pos hjx] at hy
    injection hy with hy
    subst hy
    rw [if_pos rfl, if_pos hjc]; rfl
  · rw [if_neg hk] at hy ⊢
    exact hc k y hy


/-- A row of a slice of slices of the call's own: its cells, and what a store into it leaves. -/
theorem Ow2.rowB {w : World} {lo hi E2 E n c j : Nat} {A : Option Addr} {xss : List (List Bool)} (h : Ow2 w lo hi E2 E OLit A n c xss) (hne : E ≠ E2) (hhi : hi ≤ w.heap.size) {xs : List Bool} (hx : xss[j]? = some xs) (hp : 0 < xs.length) :
    ∃ g gj cj, A = some ⟨g, 0, none⟩ ∧ lo ≤ g ∧ g < w.heap.size ∧ lo ≤ gj ∧ gj < w.heap.size ∧ g ≠ gj ∧ xs.length ≤ cj ∧ w.cell? ⟨g, j, none⟩ = some (.slice (some ⟨gj, 0, none⟩) xs.length cj) ∧
      (∀ k x, xs[k]? = some x → w.cell? ⟨gj, k, none⟩ = some (.bool x)) ∧ (∀ k, w.frozen? ⟨gj, k, none⟩ = false) ∧
      ∀ k x, k < xs.length → Ow2 (w.setCell ⟨gj, k, none⟩ (.bool x)) lo hi E2 E OLit A n c (xss.set j (xs.set k x)) := by
  have hlen := h.len
  obtain ⟨vs, h1, h2, h3⟩ := h
  have hj := (List.getElem?_eq_some_iff.1 hx).1
  obtain ⟨g, cs, rfl, hg1, hg2, hg3⟩ := h1.2.2.2 (by omega)
  obtain ⟨v, hv⟩ : ∃ v, vs[j]? = some v := ⟨_, List.getElem?_eq_getElem (by rw [h2.1]; exact hj)⟩
  obtain ⟨xs', A', n', c', hx', rfl, hO, hbl⟩ := h2.at_ hv
  have hxx : xs' = xs := by rw [hx] at hx'; injection hx' with hx'; exact hx'.symm
  subst hxx
  have hn' : n' = xs'.length := hO.len.symm
  subst hn'
  obtain ⟨gj, ds, rfl, hj1, hj2, hj3⟩ := hO.2.2.2 hp
  have hne2 : g ≠ gj := fun e => by
    subst e
    rw [hg2] at hj2
    injection hj2 with hj2
    injection hj2 with _ hj2
    exact hne hj2.symm
  refine ⟨g, gj, c', rfl, hg1, lt_of_heap hg2, hj1, lt_of_heap hj2, hne2, hO.2.1, by rw [cell_of_row w g j cs _ _ hg2]; exact hg3 j _ hv, fun k x hk => by rw [cell_of_row w gj k ds _ _ hj2]; exact hj3 k x hk, fun k => by simp [World.frozen?, hj2], fun k x hk => ?_⟩
  have hset := hO.setB (j := k) (x := x) hk
  refine ⟨vs, h1.keep fun b hb hb2 hA => ?_, ?_, h3⟩
  · injection hA with hA
    injection hA with hA
    subst hA
    exact Below.heap_setCell w _ _ _ hne2
  · refine h2.set (w' := w.setCell ⟨gj, k, none⟩ (.bool x)) hv hset (fun b hb hbn => Below.heap_setCell w _ _ b (fun e => hbn ?_)) (fun b _ hb => by omega)
    simp only at e
    subst e; rfl
theorem Ow2.storeB {w : World} {lo hi E2 E n c j g gj m cj k : Nat} {xss : List (List Bool)} (h : Ow2 w lo hi E2 E OLit (some ⟨g, 0, none⟩) n c xss) (hne : E ≠ E2) (hhi : hi ≤ w.heap.size) {xs : List Bool} (hx : xss[j]? = some xs) (hk : k < xs.length)
    (hc : w.cell? ⟨g, j, none⟩ = some (.slice (some ⟨gj, 0, none⟩) m cj)) (x : Bool) : Ow2 (w.setCell ⟨gj, k, none⟩ (.bool x)) lo hi E2 E OLit (some ⟨g, 0, none⟩) n c (xss.set j (xs.set k x)) := by
  obtain ⟨g', gj', cj', hA, -, -, -, -, -, -, cell1, -, -, hset⟩ := h.rowB hne hhi hx (by omega)
  injection hA with hA
  injection hA with hA
  subst hA
  rw [hc] at cell1
  injection cell1 with e
  injection e with e _ _
  injection e with e
  injection e with e
  subst e
  exact hset k x hk

/-- A value stored into an outer row. -/
theorem Ow.setV {w : World} {base E n c g j : Nat} {vs : List Value} {u : Value} (h : Ow w base E id (some ⟨g, 0, none⟩) n c vs) (hj : j < n) : Ow (w.setCell ⟨g, j, none⟩ u) base E id (some ⟨g, 0, none⟩) n c (vs.set j u) := by
  obtain ⟨h1, h2, h3, h4⟩ := h
  refine ⟨by simpa using h1, h2, h3, fun hn => ?_⟩
  obtain ⟨g', cs, hA, hb, hh, hc⟩ := h4 hn
  injection hA with hA
  injection hA with hA
  subst hA
  refine ⟨g, _, rfl, hb, heap_setCell_same w g j cs _ _ hh, fun k y hy => ?_⟩
  rw [Array.getElem?_setIfInBounds]
  have hjx : j < vs.length := by omega
  have hjc : j < cs.size := by
    have := hc j vs[j] (List.getElem?_eq_getElem hjx)
    exact (Array.getElem?_eq_some_iff.1 this).1
  rw [List.getElem?_set] at hy
  by_cases hk : j = k
  · subst hk
    rw [if_pos rfl, if_pos hjx] at hy
    injection hy with hy
    subst hy
    rw [if_pos rfl, if_pos hjc]; rfl
  · rw [if_neg hk] at hy ⊢
    exact hc k y hy
/-- n rows, all nil. -/
theorem Ow2.make {α : Type} (w : World) (E2 E n : Nat) (f : α → Value) (hn : n ≤ 9223372036854775807) :
    Ow2 (w.alloc (.cells (madeCells #[.slice none 0 0] n) E2)) w.heap.size (w.heap.size + 1) E2 E f (some ⟨w.heap.size, 0, none⟩) n n (List.replicate n []) := by
  refine ⟨List.replicate n (.slice none 0 0), ⟨by simp, Nat.le_refl _, hn, fun _ => ⟨_, _, rfl, Nat.le_refl _, heap_alloc_new w _, fun j x hx => ?_⟩⟩, ⟨by simp, fun j v xs hv hx => ?_, ?_⟩, fun b o hA => ?_⟩
  · rw [List.getElem?_replicate] at hx
    split at hx
    · injection hx with hx
      subst hx
      rename_i hj
      simp [madeCells, hj, Nat.mod_one]
    · cases hx
  · rw [List.getElem?_replicate] at hv hx
    split at hv
    · rename_i hj
      rw [if_pos hj] at hx
      injection hv with hv
      injection hx with hx
      subst hv hx
      exact ⟨none, 0, 0, rfl, Ow.nil _ _ _ _, fun b hb => by simp [Value.ownBlock] at hb⟩
    · cases hv
  · rw [List.pairwise_iff_getElem]
    intro i j h1 h2 _
    left
    simp [Value.ownBlock]
  · injection hA with hA
    injection hA with hA
    omega
/-- A row of its own put into its place. -/
theorem Ow2.put {α : Type} {w : World} {lo hi E2 E n c g j hb m : Nat} {f : α → Value} {xss : List (List α)} {zs : List α} (h : Ow2 w lo hi E2 E f (some ⟨g, 0, none⟩) n c xss) (hne : E ≠ E2) (hj : j < n) (hO : Ow w hb E f (some ⟨hb, 0, none⟩) m m zs) (h1 : hi ≤ hb) (h2 : hb < w.heap.size) (hlo : lo ≤ hi) :
    Ow2 (w.setCell ⟨g, j, none⟩ (.slice (some ⟨hb, 0, none⟩) m m)) lo w.heap.size E2 E f (some ⟨g, 0, none⟩) n c (xss.set j zs) := by
  have hlen := h.len
  obtain ⟨vs, e1, e2, e3⟩ := h
  obtain ⟨g', cs, hA, hg1, hg2, hg3⟩ := e1.2.2.2 (by omega)
  injection hA with hA
  injection hA with hA
  subst hA
  have hgh := e3 g 0 rfl
  have hkeep : ∀ {A' : Option Addr} {n' c' b' : Nat} {xs : List α}, Ow w b' E f A' n' c' xs → Ow (w.setCell ⟨g, j, none⟩ (.slice (some ⟨hb, 0, none⟩) m m)) b' E f A' n' c' xs := by
    intro A' n' c' b' xs hOw
    refine ⟨hOw.1, hOw.2.1, hOw.2.2.1, fun hp => ?_⟩
    obtain ⟨g2, ds, hA2, hb2, hh2, hc2⟩ := hOw.2.2.2 hp
    refine ⟨g2, ds, hA2, hb2, (Below.heap_setCell w _ _ g2 (fun e => ?_)).trans hh2, hc2⟩
    simp only at e
    subst e
    rw [hg2] at hh2
    injection hh2 with hh2
    injection hh2 with _ hh2
    exact hne hh2.symm
  refine ⟨vs.set j (.slice (some ⟨hb, 0, none⟩) m m), e1.setV hj, ⟨by simp [e2.1], fun i v xs hv hx => ?_, ?_⟩, fun b o hA => ?_⟩
  · rw [List.getElem?_set] at hv hx
    by_cases hji : j = i
    · subst hji
      rw [if_pos rfl] at hv hx
      rw [if_pos (by rw [e2.1, hlen]; exact hj)] at hv
      rw [if_pos (by rw [hlen]; exact hj)] at hx
      injection hv with hv
      injection hx with hx
      subst hv hx
      refine ⟨_, _, _, rfl, hkeep (hO.mono (by omega)), fun b hb' => ?_⟩
      simp only [Value.ownBlock, Option.some.injEq] at hb'
      omega
    · rw [if_neg hji] at hv hx
      obtain ⟨A', n', c', f1, f2, f3⟩ := e2.2.1 i v xs hv hx
      exact ⟨A', n', c', f1, hkeep f2, fun b hb' => ⟨(f3 b hb').1, by have := (f3 b hb').2; omega⟩⟩
  · have hpw := e2.2.2
    rw [List.pairwise_iff_getElem] at hpw ⊢
    intro a b ha hb' hab
    simp only [List.length_set] at ha hb'
    have hbl : ∀ (k : Nat) (hk : k < vs.length), (vs[k]).ownBlock ≠ some hb := fun k hk e => by
      obtain ⟨A', n', c', f1, f2, f3⟩ := e2.2.1 k vs[k] (xss[k]'(by rw [← e2.1]; exact hk)) (List.getElem?_eq_getElem hk) (List.getElem?_eq_getElem _)
      have := (f3 hb e).2
      omega
    rw [List.getElem_set, List.getElem_set]
    split
    · split
      · omega
      · right
        intro e
        exact hbl b hb' (by simpa [Value.ownBlock] using e.symm)
    · split
      · cases hv : (vs[a]).ownBlock with
        | none => exact .inl rfl
        | some x =>
          right
          intro e
          simp only [Value.ownBlock] at e
          exact hbl a ha (hv.trans e)
      · exact hpw a b ha hb' hab
  · injection hA with hA
    injection hA with hA
    omega
end Go.Proofs.Ytlpbmnmhpknppaa
