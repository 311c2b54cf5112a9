/- Slices of slices whose outer row is the call's own and whose rows lie below it: 'Shr'. -/
import Derived.Test.YtlpbmnmhpknppaaG3
set_option linter.unusedVariables false
set_option linter.unusedSimpArgs false
namespace Go.Proofs.Ytlpbmnmhpknppaa
open Go.RowKit

/-- The slice values vs read as the rows xss, in blocks below hi. -/
def Rsl {α : Type} (w : World) (hi : Nat) (f : α → Value) (vs : List Value) (xss : List (List α)) : Prop :=
  vs.length = xss.length ∧ ∀ (j : Nat) (u : Value) (xs : List α), vs[j]? = some u → xss[j]? = some xs → ∃ A n c, u = .slice A n c ∧ Sl w hi f A n c xs
def Shr {α : Type} (w : World) (lo hi E2 : Nat) (f : α → Value) (v : Value) (k : Nat) (xss : List (List α)) : Prop :=
  ∃ vs : List Value, w.ownsRow lo E2 1 v k vs ∧ Rsl w hi f vs xss

section
variable {α : Type} {w w' w8 : World} {lo hi E2 k n c B : Nat} {f : α → Value} {v v' : Value} {vs us : List Value} {xss yss : List (List α)} {A : Option Addr}
theorem Rsl.nil (w : World) (hi : Nat) (f : α → Value) : Rsl w hi f [] ([] : List (List α)) := ⟨rfl, fun j u xs h => by simp at h⟩
theorem Rsl.keep (h : Rsl w hi f vs xss) (hk : ∀ b o, b < hi → w'.cell? ⟨b, o, none⟩ = w.cell? ⟨b, o, none⟩) : Rsl w' hi f vs xss := by
  refine ⟨h.1, fun j u xs hu hx => ?_⟩
  obtain ⟨A, n, c, e1, e2⟩ := h.2 j u xs hu hx
  exact ⟨A, n, c, e1, e2.keep hk⟩
theorem Rsl.below (h : Rsl w hi f vs xss) (hb : Below hi w w') : Rsl w' hi f vs xss := h.keep fun b i hlt => hb.cell (p := ⟨b, i, none⟩) hlt
theorem Rsl.more {hi' : Nat} (h : Rsl w hi f vs xss) (hh : hi ≤ hi') : Rsl w hi' f vs xss := by
  refine ⟨h.1, fun j u xs hu hx => ?_⟩
  obtain ⟨A, n, c, e1, e2⟩ := h.2 j u xs hu hx
  exact ⟨A, n, c, e1, e2.more hh⟩
theorem Rsl.app (h : Rsl w hi f vs xss) (h2 : Rsl w hi f us yss) : Rsl w hi f (vs ++ us) (xss ++ yss) := by
  refine ⟨by simp [h.1, h2.1], fun j u xs hu hx => ?_⟩
  rcases Nat.lt_or_ge j vs.length with hl | hl
  · rw [List.getElem?_append_left hl] at hu
    rw [List.getElem?_append_left (by rw [← h.1]; exact hl)] at hx
    exact h.2 j u xs hu hx
  · rw [List.getElem?_append_right hl] at hu
    rw [List.getElem?_append_right (by rw [← h.1]; exact hl), ← h.1] at hx
    exact h2.2 _ u xs hu hx
theorem Rsl.one {xs : List α} (h : Sl w hi f A n c xs) : Rsl w hi f [.slice A n c] [xs] := by
  refine ⟨rfl, fun j u ys hu hx => ?_⟩
  match j, hu, hx with
  | 0, hu, hx =>
    simp at hu hx
    subst hu hx
    exact ⟨A, n, c, rfl, h⟩
theorem Sl2.vals (h : Sl2 w B f A n c xss) : ∃ vs : List Value, Sl w B id A n c vs ∧ Rsl w B f vs xss := by
  rcases Nat.eq_zero_or_pos n with h0 | h0
  · have hx : xss = [] := List.eq_nil_of_length_eq_zero (by rw [h.len]; exact h0)
    subst hx
    exact ⟨[], ⟨by simp [h0], h.cap.1, h.cap.2, fun hn => absurd hn (by omega)⟩, Rsl.nil _ _ _⟩
  · obtain ⟨h1, h2, h3, h4⟩ := h
    obtain ⟨b, o, hA, hb, hc⟩ := h4 h0
    have hv : ∀ j, j < n → ∃ u, w.cell? ⟨b, o + j, none⟩ = some u ∧ ∀ xs, xss[j]? = some xs → ∃ A' n' c', u = .slice A' n' c' ∧ Sl w B f A' n' c' xs := fun j hj => by
      obtain ⟨A', n', c', e1, e2⟩ := hc j _ (List.getElem?_eq_getElem (by omega))
      refine ⟨_, e1, fun xs hx => ?_⟩
      rw [List.getElem?_eq_getElem (by omega)] at hx
      injection hx with hx
      subst hx
      exact ⟨A', n', c', rfl, e2⟩
    have hg : ∀ j, w.cell? ⟨b, o + j, none⟩ = some ((w.cell? ⟨b, o + j, none⟩).getD (.int .i64 0)) ∨ n ≤ j := fun j => by
      rcases Nat.lt_or_ge j n with hl | hl
      · obtain ⟨u, hu, -⟩ := hv j hl
        left; rw [hu]; rfl
      · exact .inr hl
    refine ⟨(List.range n).map fun j => (w.cell? ⟨b, o + j, none⟩).getD (.int .i64 0), ⟨by simp, h2, h3, fun _ => ⟨b, o, hA, hb, fun j u hu => ?_⟩⟩, by simp [h1], fun j u xs hu hx => ?_⟩
    · rw [List.getElem?_map] at hu
      rcases Nat.lt_or_ge j n with hl | hl
      · rw [List.getElem?_range hl] at hu
        simp only [Option.map_some, Option.some.injEq] at hu
        subst hu
        rcases hg j with e | e
        · exact e
        · omega
      · rw [List.getElem?_eq_none (by simp; omega)] at hu; cases hu
    · have hl : j < n := by
        have := (List.getElem?_eq_some_iff.1 hx).1
        omega
      obtain ⟨u', hu', hr⟩ := hv j hl
      rw [List.getElem?_map, List.getElem?_range hl] at hu
      simp only [Option.map_some, Option.some.injEq, hu', Option.getD_some] at hu
      subst hu
      exact hr xs hx
theorem Sl2.of_vals (h : Sl w B id A n c vs) (h2 : Rsl w B f vs xss) : Sl2 w B f A n c xss := by
  refine ⟨by rw [← h2.1]; exact h.len, h.cap.1, h.cap.2, fun hn => ?_⟩
  obtain ⟨b, o, hA, hb, hc⟩ := h.2.2.2 hn
  refine ⟨b, o, hA, hb, fun j xs hx => ?_⟩
  have hl : j < vs.length := by rw [h2.1]; exact (List.getElem?_eq_some_iff.1 hx).1
  obtain ⟨A', n', c', e1, e2⟩ := h2.2 j vs[j] xs (List.getElem?_eq_getElem hl) hx
  refine ⟨A', n', c', ?_, e2⟩
  rw [hc j vs[j] (List.getElem?_eq_getElem hl), e1]; rfl

theorem Shr.nil (h : w.ownsRow lo E2 1 v 0 []) : Shr w lo hi E2 f v 0 ([] : List (List α)) := ⟨[], h, Rsl.nil _ _ _⟩
theorem Shr.len (h : Shr w lo hi E2 f v k xss) : xss.length = k := by
  obtain ⟨vs, h1, h2⟩ := h
  rw [← h2.1]; simpa using h1.1
theorem Shr.below (h : Shr w lo hi E2 f v k xss) (hb : Below w.heap.size w w') (hh : hi ≤ w.heap.size) : Shr w' lo hi E2 f v k xss := by
  obtain ⟨vs, h1, h2⟩ := h
  exact ⟨vs, own_below h1 hb, h2.below (hb.mono hh)⟩
/-- Some rows more. -/
theorem Shr.app (h1 : w.ownsRow lo E2 1 v k vs) (h2 : Rsl w hi f vs xss) (hlo : hi ≤ lo) (hsz : lo ≤ w.heap.size) {m : Nat} (hu : Rsl w hi f us yss)
    (hO8 : w8.ownsRow lo E2 1 v' (k + m) (vs ++ us)) (hg : w.grownBy w8 v.ownBlock) : Shr w8 lo hi E2 f v' (k + m) (xss ++ yss) := by
  refine ⟨vs ++ us, hO8, (h2.app hu).keep fun b o hb => ?_⟩
  refine World.cell?_of_block (a := ⟨b, o, none⟩) (hg.block b (by omega) fun e => ?_)
  have := (h1.lt b e.symm).1
  omega
theorem Shr.sl2 (h : Shr w lo hi E2 f v k xss) (hh : hi ≤ w.heap.size) : ∃ A c, v = .slice A k c ∧ Sl2 w w.heap.size f A k c xss := by
  obtain ⟨vs, h1, h2⟩ := h
  obtain ⟨A, c, e1, e2⟩ := own_sl (f := id) (xs := vs) (by simpa using h1)
  exact ⟨A, c, e1, Sl2.of_vals e2 (h2.more hh)⟩
end
/-- A slice value by its three parts. -/
def SLit (x : Option Addr × Nat × Nat) : Value := .slice x.1 x.2.1 x.2.2
def triple : Value → Option Addr × Nat × Nat
  | .slice A n c => (A, n, c)
  | _ => (none, 0, 0)
theorem Sl2.trips {α : Type} {w : World} {B n c : Nat} {f : α → Value} {A : Option Addr} {xss : List (List α)} (h : Sl2 w B f A n c xss) : ∃ ts : List (Option Addr × Nat × Nat), Sl w B SLit A n c ts ∧ Rsl w B f (ts.map SLit) xss := by
  obtain ⟨vs, h1, h2⟩ := h.vals
  have hid : vs.map (fun v => SLit (triple v)) = vs := by
    refine (List.map_congr_left fun v hv => ?_).trans (List.map_id vs)
    obtain ⟨j, hj⟩ := List.getElem?_of_mem hv
    have hl : j < xss.length := by rw [← h2.1]; exact (List.getElem?_eq_some_iff.1 hj).1
    obtain ⟨A', n', c', e, -⟩ := h2.2 j v _ hj (List.getElem?_eq_getElem hl)
    subst e; rfl
  have hm : (vs.map triple).map SLit = vs := by rw [List.map_map]; exact hid
  refine ⟨vs.map triple, ⟨by simpa using h1.len, h1.cap.1, h1.cap.2, fun hn => ?_⟩, by rw [hm]; exact h2⟩
  obtain ⟨b, o, hA, hb, hc⟩ := h1.2.2.2 hn
  refine ⟨b, o, hA, hb, fun j x hx => ?_⟩
  have hx2 : ((vs.map triple).map SLit)[j]? = some (SLit x) := by rw [List.getElem?_map, hx]; rfl
  rw [hm] at hx2
  exact hc j _ hx2
theorem Rsl.drop {α : Type} {w : World} {hi : Nat} {f : α → Value} {vs : List Value} {xss : List (List α)} (h : Rsl w hi f vs xss) (k : Nat) : Rsl w hi f (vs.drop k) (xss.drop k) := by
  refine ⟨by simp [h.1], fun j u xs hu hx => ?_⟩
  rw [List.getElem?_drop] at hu hx
  exact h.2 _ u xs hu hx
theorem Rsl.take {α : Type} {w : World} {hi : Nat} {f : α → Value} {vs : List Value} {xss : List (List α)} (h : Rsl w hi f vs xss) (k : Nat) : Rsl w hi f (vs.take k) (xss.take k) := by
  refine ⟨by simp [h.1], fun j u xs hu hx => ?_⟩
  rw [List.getElem?_take] at hu hx
  split at hu
  · rename_i hl
    rw [if_pos hl] at hx
    exact h.2 _ u xs hu hx
  · cases hu
theorem Sl2.take {α : Type} {w : World} {B n c : Nat} {f : α → Value} {A : Option Addr} {xss : List (List α)} (h : Sl2 w B f A n c xss) {k : Nat} (hk : k ≤ n) : Sl2 w B f A k c (xss.take k) := by
  obtain ⟨vs, h1, h2⟩ := h.vals
  exact Sl2.of_vals (h1.take hk) (h2.take k)
theorem Rsl.tripled {α : Type} {w : World} {hi : Nat} {f : α → Value} {vs : List Value} {xss : List (List α)} (h2 : Rsl w hi f vs xss) : (vs.map triple).map SLit = vs := by
  rw [List.map_map]
  refine (List.map_congr_left fun v hv => ?_).trans (List.map_id vs)
  obtain ⟨j, hj⟩ := List.getElem?_of_mem hv
  have hl : j < xss.length := by rw [← h2.1]; exact (List.getElem?_eq_some_iff.1 hj).1
  obtain ⟨A', n', c', e, -⟩ := h2.2 j v _ hj (List.getElem?_eq_getElem hl)
  subst e; rfl
theorem Sl.tripled {w : World} {B n c : Nat} {A : Option Addr} {vs : List Value} (h1 : Sl w B id A n c vs) (hm : (vs.map triple).map SLit = vs) : Sl w B SLit A n c (vs.map triple) := by
  refine ⟨by simpa using h1.len, h1.cap.1, h1.cap.2, fun hn => ?_⟩
  obtain ⟨b, o, hA, hb, hc⟩ := h1.2.2.2 hn
  refine ⟨b, o, hA, hb, fun j x hx => ?_⟩
  have hx2 : ((vs.map triple).map SLit)[j]? = some (SLit x) := by rw [List.getElem?_map, hx]; rfl
  rw [hm] at hx2
  exact hc j _ hx2
theorem own_mono {w : World} {base base' e k n : Nat} {v : Value} {xs : List Value} (h : w.ownsRow base e k v n xs) (hb : base' ≤ base) : w.ownsRow base' e k v n xs := by
  refine ⟨h.1, ?_⟩
  rcases h.2 with h2 | ⟨g, cap, cur, e1, e2, e3⟩
  · exact .inl h2
  · exact .inr ⟨g, cap, cur, e1, Nat.le_trans hb e2, e3⟩
theorem own_keep {w w' : World} {base e k n : Nat} {v : Value} {xs : List Value} (h : w.ownsRow base e k v n xs) (hk : ∀ g, base ≤ g → g < w.heap.size → w'.heap[g]? = w.heap[g]?) : w'.ownsRow base e k v n xs := by
  have hl := h.lt
  refine ⟨h.1, ?_⟩
  rcases h.2 with h2 | ⟨g, cap, cur, e1, e2, e3, e4⟩
  · exact .inl h2
  · subst e1
    have := (hl g rfl).2
    exact .inr ⟨g, cap, cur, rfl, e2, (hk g e2 this).trans e3, e4⟩

/-- A literal of one element. -/
theorem own_one (w : World) (u : Value) (e : TypeId) {base : Nat} (hb : base ≤ w.heap.size) : (w.alloc (.cells #[u] e)).ownsRow base e 1 (.slice (some ⟨w.heap.size, 0, none⟩) 1 1) 1 [u] :=
  ⟨by simp, .inr ⟨w.heap.size, 1, #[u], rfl, hb, heap_alloc_new w _, Nat.le_refl _, by unfold maxLen; omega, rfl, by simp⟩⟩
end Go.Proofs.Ytlpbmnmhpknppaa
