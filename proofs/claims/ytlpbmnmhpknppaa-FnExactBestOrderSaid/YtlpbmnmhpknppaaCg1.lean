/- The generator of tables of clearance times: randomClear. -/
import Derived.Test.YtlpbmnmhpknppaaCa2
import Derived.Test.YtlpbmnmhpknppaaStp
set_option linter.unusedVariables false
set_option linter.unusedSimpArgs false
namespace Go.Proofs.Ytlpbmnmhpknppaa
open Go.RowKit

/-- A table as the generator makes it. -/
def matOk (n : Nat) (t : List (List Int)) : Prop := t.length = n ∧ sqB t = true ∧ inC t = true ∧ ∀ a b, a < n → b < n → okC t a b = true
theorem matOk.ok {n : Nat} {t : List (List Int)} (h : matOk n t) (h1 : 1 ≤ n) (h2 : n ≤ 8) : cOk t = true := by
  obtain ⟨e1, e2, e3, e4⟩ := h
  subst e1
  exact cOk_iff.2 ⟨h1, h2, e2, e3, fun a b ha hb => e4 a b ha hb⟩
theorem matOk_zero (n : Nat) : matOk n (List.replicate n (List.replicate n 0)) := by
  have hat : ∀ a b, cAt (List.replicate n (List.replicate n 0)) a b = 0 := fun a b => by
    simp only [cAt, List.getD_eq_getElem?_getD, List.getElem?_replicate]
    split
    · simp only [Option.getD_some, List.getElem?_replicate]
      split <;> rfl
    · rfl
  refine ⟨by simp, sqB_mk fun a r ha => ?_, inC_mk fun a r ha => ?_, fun a b _ _ => okC_ok (by rw [hat, hat]) fun _ => hat a b⟩
  · rw [List.getElem?_replicate] at ha
    split at ha
    · injection ha with ha; subst ha; simp
    · cases ha
  · rw [List.getElem?_replicate] at ha
    split at ha
    · injection ha with ha
      subst ha
      rw [allB, List.all_eq_true]
      intro x hx
      have := (List.mem_replicate.1 hx).2
      subst this; decide
    · cases ha
theorem cAt_set {t : List (List Int)} {i k a b : Nat} {r : List Int} {x : Int} (hr : t[i]? = some r) (hk : k < r.length) : cAt (t.set i (r.set k x)) a b = if a = i ∧ b = k then x else cAt t a b := by
  have hi := (List.getElem?_eq_some_iff.1 hr).1
  simp only [cAt, List.getD_eq_getElem?_getD, List.getElem?_set]
  by_cases ha : i = a
  · subst ha
    rw [if_pos rfl, if_pos hi]
    simp only [Option.getD_some, List.getElem?_set, hr, true_and]
    by_cases hb : k = b
    · subst hb; simp [hk]
    · rw [if_neg hb, if_neg (fun e => hb e.symm)]
  · rw [if_neg ha, if_neg (fun e => ha e.1.symm)]
theorem matOk_step {n i k : Nat} {t : List (List Int)} {ri rk : List Int} {x1 x2 : Int} (h : matOk n t) (hki : k < i) (hi : i < n) (hri : t[i]? = some ri) (hrk : (t.set i (ri.set k x1))[k]? = some rk) (h1 : 1 ≤ x1 ∧ x1 ≤ 5) (h2 : 1 ≤ x2 ∧ x2 ≤ 5) :
    matOk n ((t.set i (ri.set k x1)).set k (rk.set i x2)) := by
  obtain ⟨e1, e2, e3, e4⟩ := h
  have hl1 := sqB_all e2 hri
  have hrk0 : t[k]? = some rk := by
    rw [List.getElem?_set] at hrk
    rwa [if_neg (by omega)] at hrk
  have hl2 := sqB_all e2 hrk0
  have hrow : ∀ (a : Nat) (r : List Int), ((t.set i (ri.set k x1)).set k (rk.set i x2))[a]? = some r → r.length = n ∧ allB r 0 5 = true := by
    intro a r ha
    rw [List.getElem?_set] at ha
    by_cases hak : k = a
    · rw [if_pos hak, if_pos (by simp; omega)] at ha
      injection ha with ha
      subst ha
      refine ⟨by simp; omega, ?_⟩
      have := inC_row e3 hrk0
      rw [allB, List.all_eq_true] at this ⊢
      intro y hy
      rcases List.mem_or_eq_of_mem_set hy with hy | rfl
      · exact this y hy
      · simp [inB]; omega
    · rw [if_neg hak, List.getElem?_set] at ha
      by_cases hai : i = a
      · rw [if_pos hai, if_pos (by omega)] at ha
        injection ha with ha
        subst ha
        refine ⟨by simp; omega, ?_⟩
        have := inC_row e3 hri
        rw [allB, List.all_eq_true] at this ⊢
        intro y hy
        rcases List.mem_or_eq_of_mem_set hy with hy | rfl
        · exact this y hy
        · simp [inB]; omega
      · rw [if_neg hai] at ha
        exact ⟨by rw [sqB_all e2 ha, e1], inC_row e3 ha⟩
  have hat : ∀ a b, cAt ((t.set i (ri.set k x1)).set k (rk.set i x2)) a b = if a = k ∧ b = i then x2 else if a = i ∧ b = k then x1 else cAt t a b := fun a b => by
    rw [cAt_set hrk (by omega), cAt_set hri (by omega)]
  refine ⟨by simp [e1], sqB_mk fun a r ha => by simp [(hrow a r ha).1, e1], inC_mk fun a r ha => (hrow a r ha).2, fun a b ha hb => ?_⟩
  refine okC_ok ?_ fun e => ?_
  · rw [hat, hat]
    by_cases c1 : a = k ∧ b = i
    · obtain ⟨rfl, rfl⟩ := c1
      rw [if_pos ⟨rfl, rfl⟩, if_neg (by omega), if_pos ⟨rfl, rfl⟩]
      simp; omega
    · rw [if_neg c1]
      by_cases c2 : a = i ∧ b = k
      · obtain ⟨rfl, rfl⟩ := c2
        rw [if_pos ⟨rfl, rfl⟩, if_pos ⟨rfl, rfl⟩]
        simp; omega
      · rw [if_neg c2, if_neg (fun e => c2 ⟨e.2, e.1⟩), if_neg (fun e => c1 ⟨e.2, e.1⟩)]
        exact okC_sym (e4 a b ha hb)
  · subst e
    rw [hat, if_neg (by omega), if_neg (by omega)]
    exact okC_irr (e4 a a ha ha)

/-- A row of a slice of slices of the call's own: its cells, and what a store into it leaves. -/
theorem Ow2.row {w : World} {lo hi E2 E n c j : Nat} {A : Option Addr} {xss : List (List Int)} (h : Ow2 w lo hi E2 E ILit A n c xss) (hne : E ≠ E2) (hhi : hi ≤ w.heap.size) {xs : List Int} (hx : xss[j]? = some xs) (hp : 0 < xs.length) :
    ∃ g gj cj, A = some ⟨g, 0, none⟩ ∧ lo ≤ g ∧ g < w.heap.size ∧ lo ≤ gj ∧ gj < w.heap.size ∧ g ≠ gj ∧ xs.length ≤ cj ∧ w.cell? ⟨g, j, none⟩ = some (.slice (some ⟨gj, 0, none⟩) xs.length cj) ∧
      (∀ k x, xs[k]? = some x → w.cell? ⟨gj, k, none⟩ = some (.int .i64 x)) ∧ (∀ k, w.frozen? ⟨gj, k, none⟩ = false) ∧
      ∀ k x, k < xs.length → Ow2 (w.setCell ⟨gj, k, none⟩ (.int .i64 x)) lo hi E2 E ILit A n c (xss.set j (xs.set k x)) := by
  have hlen := h.len
  obtain ⟨vs, h1, h2, h3⟩ := h
  have hj := (List.getElem?_eq_some_iff.1 hx).1
  obtain ⟨g, cs, rfl, hg1, hg2, hg3⟩ := h1.2.2.2 (by omega)
  obtain ⟨v, hv⟩ : ∃ v, vs[j]? = some v := ⟨_, List.getElem?_eq_getElem (by rw [h2.1]; exact hj)⟩
  obtain ⟨xs', A', n', c', hx', rfl, hO, hbl⟩ := h2.at_ hv
  have hxx : xs' = xs := by rw [hx] at hx'; injection hx' with hx'; exact hx'.symm
  subst hxx
  have hn' : n' = xs'.length := hO.len.symm
  subst hn'
  obtain ⟨gj, ds, rfl, hj1, hj2, hj3⟩ := hO.2.2.2 hp
  have hne2 : g ≠ gj := fun e => by
    subst e
    rw [hg2] at hj2
    injection hj2 with hj2
    injection hj2 with _ hj2
    exact hne hj2.symm
  refine ⟨g, gj, c', rfl, hg1, lt_of_heap hg2, hj1, lt_of_heap hj2, hne2, hO.2.1, by rw [cell_of_row w g j cs _ _ hg2]; exact hg3 j _ hv, fun k x hk => by rw [cell_of_row w gj k ds _ _ hj2]; exact hj3 k x hk, fun k => by simp [World.frozen?, hj2], fun k x hk => ?_⟩
  have hset := hO.set (j := k) (x := x) hk
  refine ⟨vs, h1.keep fun b hb hb2 hA => ?_, ?_, h3⟩
  · injection hA with hA
    injection hA with hA
    subst hA
    exact Below.heap_setCell w _ _ _ hne2
  · refine h2.set (w' := w.setCell ⟨gj, k, none⟩ (.int .i64 x)) hv hset (fun b hb hbn => Below.heap_setCell w _ _ b (fun e => hbn ?_)) (fun b _ hb => by omega)
    simp only at e
    subst e; rfl
theorem Ow2.store {w : World} {lo hi E2 E n c j g gj m cj k : Nat} {xss : List (List Int)} (h : Ow2 w lo hi E2 E ILit (some ⟨g, 0, none⟩) n c xss) (hne : E ≠ E2) (hhi : hi ≤ w.heap.size) {xs : List Int} (hx : xss[j]? = some xs) (hk : k < xs.length)
    (hc : w.cell? ⟨g, j, none⟩ = some (.slice (some ⟨gj, 0, none⟩) m cj)) (x : Int) : Ow2 (w.setCell ⟨gj, k, none⟩ (.int .i64 x)) lo hi E2 E ILit (some ⟨g, 0, none⟩) n c (xss.set j (xs.set k x)) := by
  obtain ⟨g', gj', cj', hA, -, -, -, -, -, -, cell1, -, -, hset⟩ := h.row hne hhi hx (by omega)
  injection hA with hA
  injection hA with hA
  subst hA
  rw [hc] at cell1
  injection cell1 with e
  injection e with e _ _
  injection e with e
  injection e with e
  subst e
  exact hset k x hk
end Go.Proofs.Ytlpbmnmhpknppaa
