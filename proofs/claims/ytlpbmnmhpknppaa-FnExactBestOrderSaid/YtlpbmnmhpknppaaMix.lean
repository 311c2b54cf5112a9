/- A slice of slices under way whose rows are any slices of the call's own: 'Mix'. -/
import Derived.Test.YtlpbmnmhpknppaaSh
import Derived.Test.YtlpbmnmhpknppaaRdc
set_option linter.unusedVariables false
set_option linter.unusedSimpArgs false
namespace Go.Proofs.Ytlpbmnmhpknppaa
open Go.RowKit

theorem Sl.at1 {α : Type} {w w' : World} {B n c : Nat} {f : α → Value} {A : Option Addr} {xs : List α} (h : Sl w B f A n c xs) (hk : 0 < n → ∀ b o, A = some ⟨b, o, none⟩ → b < B → w'.heap[b]? = w.heap[b]?) : Sl w' B f A n c xs := by
  obtain ⟨h1, h2, h3, h4⟩ := h
  refine ⟨h1, h2, h3, fun hn => ?_⟩
  obtain ⟨b, o, hA, hb, hc⟩ := h4 hn
  exact ⟨b, o, hA, hb, fun j x hx => (World.cell?_of_block (a := ⟨b, o + j, none⟩) (hk hn b o hA hb)).trans (hc j x hx)⟩

def RowsOff {α : Type} (w : World) (lo : Nat) (f : α → Value) (own : Option Nat) (vs : List Value) (xss : List (List α)) : Prop :=
  vs.length = xss.length ∧ ∀ (j : Nat) (u : Value) (xs : List α), vs[j]? = some u → xss[j]? = some xs → ∃ A n c, u = .slice A n c ∧ Sl w w.heap.size f A n c xs ∧ (0 < n → ∀ b o, A = some ⟨b, o, none⟩ → lo ≤ b ∧ own ≠ some b)
def Mix {α : Type} (w : World) (lo E2 : Nat) (f : α → Value) (v : Value) (k : Nat) (xss : List (List α)) : Prop :=
  ∃ vs : List Value, w.ownsRow lo E2 1 v k vs ∧ RowsOff w lo f v.ownBlock vs xss

section
variable {α : Type} {w w' w8 : World} {lo E2 k n c r q : Nat} {f : α → Value} {v v' : Value} {vs : List Value} {xss : List (List α)} {A : Option Addr} {own own' : Option Nat}
theorem RowsOff.keep (h : RowsOff w lo f own vs xss) (hz : w.heap.size ≤ w'.heap.size) (ho : ∀ b, b < w.heap.size → own ≠ some b → own' ≠ some b) (hk : ∀ b, lo ≤ b → b < w.heap.size → own ≠ some b → w'.heap[b]? = w.heap[b]?) : RowsOff w' lo f own' vs xss := by
  refine ⟨h.1, fun j u xs hu hx => ?_⟩
  obtain ⟨A, n, c, e1, e2, e3⟩ := h.2 j u xs hu hx
  refine ⟨A, n, c, e1, (e2.at1 fun hn b o hA hb => hk b (e3 hn b o hA).1 hb (e3 hn b o hA).2).more hz, fun hn b o hA => ⟨(e3 hn b o hA).1, ho b ?_ (e3 hn b o hA).2⟩⟩
  obtain ⟨b', o', hA', hb', -⟩ := e2.2.2.2 hn
  rw [hA] at hA'
  injection hA' with hA'
  injection hA' with hA'
  omega
theorem Mix.nil (h : w.ownsRow lo E2 1 v 0 []) : Mix w lo E2 f v 0 ([] : List (List α)) := ⟨[], h, rfl, fun j u xs h => by simp at h⟩
theorem Mix.len (h : Mix w lo E2 f v k xss) : xss.length = k := by
  obtain ⟨vs, h1, h2⟩ := h
  rw [← h2.1]; simpa using h1.1
theorem Mix.below (h : Mix w lo E2 f v k xss) (hb : Below w.heap.size w w') : Mix w' lo E2 f v k xss := by
  obtain ⟨vs, h1, h2⟩ := h
  exact ⟨vs, own_below h1 hb, h2.keep hb.size (fun b _ h => h) fun b _ hl _ => hb.block b hl⟩
theorem Mix.go (h : Mix w lo E2 f v k xss) (hr : r < lo) (hb : Below w.heap.size (adv w r q) w') : Mix w' lo E2 f v k xss := by
  obtain ⟨vs, h1, h2⟩ := h
  have hz := hb.size
  rw [size_adv] at hz
  exact ⟨vs, own_go h1 hr hb, h2.keep hz (fun b _ h => h) fun b h1 hl _ => (hb.block b hl).trans (heap_adv _ _ _ _ (by omega))⟩
theorem Mix.fresh (h : Mix w lo E2 f v k xss) (hf : 0 < n → ∀ b o, A = some ⟨b, o, none⟩ → w.heap.size ≤ b) (hlo : lo ≤ w.heap.size) : 0 < n → ∀ b o, A = some ⟨b, o, none⟩ → lo ≤ b ∧ v.ownBlock ≠ some b := fun hn b o hA => by
  obtain ⟨vs, h1, -⟩ := h
  have h2 := hf hn b o hA
  refine ⟨by omega, fun e => ?_⟩
  have := (h1.lt b e).2
  omega
theorem Mix.app (h1 : w.ownsRow lo E2 1 v k vs) (h2 : RowsOff w lo f v.ownBlock vs xss) {A1 : Option Addr} {n1 c1 : Nat} {xs : List α} (hS : Sl w w.heap.size f A1 n1 c1 xs)
    (hf : 0 < n1 → ∀ b o, A1 = some ⟨b, o, none⟩ → lo ≤ b ∧ v.ownBlock ≠ some b) (hO8 : w8.ownsRow lo E2 1 v' (k + 1) (vs ++ [.slice A1 n1 c1])) (hg : w.grownBy w8 v.ownBlock)
    (hv' : v'.ownBlock = v.ownBlock ∨ v'.ownBlock = some (w.heap.size + 1)) : Mix w8 lo E2 f v' (k + 1) (xss ++ [xs]) := by
  have hz := hg.size
  have ho : ∀ b, b < w.heap.size → v.ownBlock ≠ some b → v'.ownBlock ≠ some b := fun b hb hne => by
    rcases hv' with e | e
    · rw [e]; exact hne
    · rw [e]; intro e2; injection e2 with e2; omega
  have hk : ∀ b, lo ≤ b → b < w.heap.size → v.ownBlock ≠ some b → w8.heap[b]? = w.heap[b]? := fun b _ hb hne => hg.block b hb fun e => hne e.symm
  have hR := h2.keep (w' := w8) (own' := v'.ownBlock) hz ho hk
  refine ⟨vs ++ [.slice A1 n1 c1], hO8, by simp [hR.1], fun j u ys hu hx => ?_⟩
  rcases Nat.lt_or_ge j vs.length with hl | hl
  · rw [List.getElem?_append_left hl] at hu
    rw [List.getElem?_append_left (by rw [← h2.1]; exact hl)] at hx
    exact hR.2 j u ys hu hx
  · have hj : j = vs.length := by
      have := (List.getElem?_eq_some_iff.1 hu).1
      simp at this; omega
    subst hj
    simp at hu
    rw [h2.1] at hx
    simp at hx
    subst hu hx
    refine ⟨A1, n1, c1, rfl, (hS.at1 fun hn b o hA hb => hk b (hf hn b o hA).1 hb (hf hn b o hA).2).more hz, fun hn b o hA => ⟨(hf hn b o hA).1, ho b ?_ (hf hn b o hA).2⟩⟩
    obtain ⟨b', o', hA', hb', -⟩ := hS.2.2.2 hn
    rw [hA] at hA'
    injection hA' with hA'
    injection hA' with hA'
    omega
theorem Mix.sl2 (h : Mix w lo E2 f v k xss) : ∃ A c, v = .slice A k c ∧ Sl2 w w.heap.size f A k c xss := by
  obtain ⟨vs, h1, h2⟩ := h
  obtain ⟨A, c, e1, e2⟩ := own_sl (f := id) (xs := vs) (by simpa using h1)
  refine ⟨A, c, e1, Sl2.of_vals e2 ⟨h2.1, fun j u xs hu hx => ?_⟩⟩
  obtain ⟨A, n, c, e3, e4, -⟩ := h2.2 j u xs hu hx
  exact ⟨A, n, c, e3, e4⟩
end
end Go.Proofs.Ytlpbmnmhpknppaa
