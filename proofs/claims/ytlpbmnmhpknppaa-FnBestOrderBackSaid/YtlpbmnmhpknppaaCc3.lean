/- Orders, in plain words: how many, which, and what is best. -/
import Derived.Test.YtlpbmnmhpknppaaPd
set_option linter.unusedVariables false
set_option linter.unusedSimpArgs false
namespace Go.Proofs.Ytlpbmnmhpknppaa
open Go.RowKit

/-- The orders that go on from o with a number below k. -/
def ordUp (n d : Nat) (o : List Int) (k : Nat) : List (List Int) := (List.range k).flatMap fun j => if ((j : Nat) : Int) ∈ o then [] else ordL n d (o ++ [(j : Int)])
theorem ordUp_zero (n d : Nat) (o : List Int) : ordUp n d o 0 = [] := rfl
theorem ordUp_all (n d : Nat) (o : List Int) : ordUp n d o n = ordL n (d + 1) o := rfl
theorem ordUp_in {n d : Nat} {o : List Int} {k : Nat} (h : (k : Int) ∈ o) : ordUp n d o (k + 1) = ordUp n d o k := by
  simp [ordUp, List.range_succ, h]
theorem ordUp_out {n d : Nat} {o : List Int} {k : Nat} (h : (k : Int) ∉ o) : ordUp n d o (k + 1) = ordUp n d o k ++ ordL n d (o ++ [(k : Int)]) := by
  simp [ordUp, List.range_succ, h]
theorem ordL_len (n : Nat) (hn : n ≤ 5) : ∀ (d : Nat) (o : List Int), (ordL n d o).length ≤ 5 ^ d ∧ ∀ k, k ≤ n → (ordUp n d o k).length ≤ k * 5 ^ d := by
  intro d
  induction d with
  | zero =>
    intro o
    refine ⟨by simp [ordL], fun k hk => ?_⟩
    clear hk
    induction k with
    | zero => simp [ordUp]
    | succ k ih =>
      by_cases h : (k : Int) ∈ o
      · rw [ordUp_in h]; omega
      · rw [ordUp_out h, List.length_append]; simp [ordL]; omega
  | succ d ih =>
    have hup : ∀ (o : List Int), (ordL n (d + 1) o).length ≤ 5 ^ (d + 1) := fun o => by
      rw [← ordUp_all]
      refine Nat.le_trans ((ih o).2 n (Nat.le_refl _)) ?_
      rw [Nat.pow_succ, Nat.mul_comm]
      exact Nat.mul_le_mul_left _ hn
    intro o
    refine ⟨hup o, fun k hk => ?_⟩
    clear hk
    induction k with
    | zero => simp [ordUp]
    | succ k ih2 =>
      by_cases h : (k : Int) ∈ o
      · rw [ordUp_in h]
        refine Nat.le_trans ih2 (Nat.mul_le_mul_right _ (by omega))
      · rw [ordUp_out h, List.length_append, Nat.succ_mul]
        have := hup (o ++ [(k : Int)])
        omega
theorem pow5 {d : Nat} (h : d ≤ 5) : 5 ^ d ≤ 3125 := by
  match d, h with
  | 0, _ => decide
  | 1, _ => decide
  | 2, _ => decide
  | 3, _ => decide
  | 4, _ => decide
  | 5, _ => decide
theorem ordL_small {n d : Nat} {o : List Int} (hn : n ≤ 5) (hd : d ≤ 5) : (ordL n d o).length ≤ 3125 := Nat.le_trans (ordL_len n hn d o).1 (pow5 hd)
theorem ordUp_small {n d : Nat} {o : List Int} {k : Nat} (hn : n ≤ 5) (hd : d ≤ 5) (hk : k ≤ n) : (ordUp n d o k).length ≤ 15625 := by
  have h1 := (ordL_len n hn d o).2 k hk
  have h2 := pow5 hd
  have h3 : k * 5 ^ d ≤ 5 * 3125 := Nat.mul_le_mul (by omega) h2
  omega
theorem arrL_len (list : List (List Int)) (o : List Int) : (arrL list o).length = o.length := by simp [arrL]
theorem arrL_snoc (list : List (List Int)) (o : List Int) {k : Nat} {xs : List Int} (h : list[k]? = some xs) : arrL list (o ++ [(k : Int)]) = arrL list o ++ [xs] := by
  simp [arrL, List.getD_eq_getElem?_getD, h]
theorem arrL_mem {list : List (List Int)} {o : List Int} (h : ∀ k ∈ o, 0 ≤ k ∧ k < list.length) : ∀ p ∈ arrL list o, p ∈ list := fun p hp => by
  simp only [arrL, List.mem_map] at hp
  obtain ⟨k, hk, rfl⟩ := hp
  obtain ⟨h0, h1⟩ := h k hk
  have hl : k.toNat < list.length := by omega
  rw [List.getD_eq_getElem?_getD, List.getElem?_eq_getElem hl]
  exact List.getElem_mem hl
theorem isOrd_zero {n : Nat} (h : 1 ≤ n) : isOrd n [0] := ⟨by simp, fun k hk => by simp at hk; subst hk; omega⟩
theorem isOrd_snoc {n k : Nat} {o : List Int} (h : isOrd n o) (hk : k < n) (hno : (k : Int) ∉ o) : isOrd n (o ++ [(k : Int)]) := by
  refine ⟨?_, fun x hx => ?_⟩
  · rw [List.nodup_append]
    refine ⟨h.1, by simp, fun a ha b hb => ?_⟩
    simp at hb
    subst hb
    intro e
    subst e
    exact hno ha
  · rcases List.mem_append.1 hx with hx | hx
    · exact h.2 x hx
    · simp at hx; omega
/-- Distinct numbers below n are at most n; n of them are all. -/
theorem ord_le : ∀ (n : Nat) (o : List Int), isOrd n o → o.length ≤ n ∧ (o.length = n → ∀ i : Nat, i < n → (i : Int) ∈ o) := by
  intro n
  induction n with
  | zero =>
    intro o h
    cases o with
    | nil => exact ⟨by simp, fun _ i hi => by omega⟩
    | cons x r => have := h.2 x List.mem_cons_self; omega
  | succ n ih =>
    intro o h
    by_cases hm : (n : Int) ∈ o
    · have hl := List.length_erase_of_mem hm
      have hpos : 1 ≤ o.length := List.length_pos_of_mem hm
      have h2 : isOrd n (o.erase (n : Int)) := ⟨h.1.erase _, fun k hk => by
        rw [h.1.mem_erase_iff] at hk
        have := h.2 k hk.2
        have := hk.1
        omega⟩
      obtain ⟨i1, i2⟩ := ih _ h2
      refine ⟨by omega, fun he i hi => ?_⟩
      rcases Nat.lt_or_ge i n with hlt | hge
      · exact List.mem_of_mem_erase (i2 (by omega) i hlt)
      · obtain rfl : i = n := by omega
        exact hm
    · have h2 : isOrd n o := ⟨h.1, fun k hk => by
        have := h.2 k hk
        have : k ≠ (n : Int) := fun e => hm (e ▸ hk)
        omega⟩
      obtain ⟨i1, -⟩ := ih _ h2
      exact ⟨by omega, fun he => by omega⟩
/-- The order of the indices themselves. -/
def idO (n : Nat) : List Int := (List.range n).map fun (k : Nat) => ((k : Nat) : Int)
theorem idO_succ (n : Nat) : idO (n + 1) = idO n ++ [(n : Int)] := by simp [idO, List.range_succ]
theorem idO_mem {n : Nat} {x : Int} : x ∈ idO n ↔ 0 ≤ x ∧ x < n := by
  simp only [idO, List.mem_map, List.mem_range]
  constructor
  · rintro ⟨k, hk, rfl⟩; omega
  · rintro ⟨h0, h1⟩; exact ⟨x.toNat, by omega, by omega⟩
theorem idO_one : idO 1 = [0] := by simp [idO]
theorem ord_id (n : Nat) : ∀ (d k : Nat), k + d = n → idO n ∈ ordL n d (idO k) := by
  intro d
  induction d with
  | zero => intro k h; simp at h; subst h; simp [ordL]
  | succ d ih =>
    intro k h
    simp only [ordL, List.mem_flatMap, List.mem_range]
    refine ⟨k, by omega, ?_⟩
    rw [if_neg (by rw [idO_mem]; omega), ← idO_succ]
    exact ih (k + 1) (by omega)
theorem arr_id (list : List (List Int)) : arrL list (idO list.length) = list := by
  apply List.ext_getElem?
  intro i
  simp only [arrL, idO, List.map_map, List.getElem?_map]
  rcases Nat.lt_or_ge i list.length with h | h
  · rw [List.getElem?_range h]
    simp [List.getD_eq_getElem?_getD, List.getElem?_eq_getElem h]
  · rw [List.getElem?_eq_none (by simp; exact h), List.getElem?_eq_none h]; rfl
theorem fold_best (t list : List (List Int)) (n : Nat) : ∀ (os : List (List Int)), (∀ o ∈ os, isOrd n o ∧ o ≠ []) → ∀ b, (b = [] ∨ isOrd n b) → (os.foldl (betterO t list) b = [] ∨ isOrd n (os.foldl (betterO t list) b)) := by
  intro os
  induction os with
  | nil => intro _ b h; exact h
  | cons o r ih =>
    intro hos b hb
    refine ih (fun o h => hos o (List.mem_cons_of_mem _ h)) _ ?_
    unfold betterO
    split
    · exact .inr (hos o List.mem_cons_self).1
    · exact hb
theorem ord_all {n : Nat} (h1 : 1 ≤ n) : ∀ o ∈ ordL n (n - 1) [0], isOrd n o ∧ o.length = n ∧ o.take 1 = [0] ∧ o ≠ [] := fun o ho => by
  obtain ⟨a1, a2, a3⟩ := ordL_all n (n - 1) [0] (isOrd_zero h1) o ho
  simp only [List.length_singleton] at a2 a3
  exact ⟨a1, by omega, a3, fun e => by subst e; simp at a2; omega⟩
/-- What BestOrder returns for a valid ring. -/
theorem bestOrd_all {t list : List (List Int)} (h1 : 1 ≤ list.length) :
    isOrd list.length (bestOrd t list) ∧ (bestOrd t list).length = list.length ∧ (bestOrd t list).take 1 = [0] ∧ lostN t (arrL list (bestOrd t list)) ≤ lostN t list := by
  have hall := ord_all h1
  have hne : ordL list.length (list.length - 1) [0] ≠ [] := fun e => by
    have := ord_id list.length (list.length - 1) 1 (by omega)
    rw [idO_one, e] at this
    cases this
  obtain ⟨b1, b2, b3, b4⟩ := best_fold t list (ordL list.length (list.length - 1) [0]) (fun o ho => (hall o ho).2.2.2) []
  have hmem : bestOrd t list ∈ ordL list.length (list.length - 1) [0] := by
    rcases b1 with e | e
    · exact absurd e (b2 hne)
    · exact e
  obtain ⟨c1, c2, c3, -⟩ := hall _ hmem
  refine ⟨c1, c2, c3, ?_⟩
  have := b4 (idO list.length) (by have := ord_id list.length (list.length - 1) 1 (by omega); rwa [idO_one] at this)
  rw [arr_id] at this
  exact this
end Go.Proofs.Ytlpbmnmhpknppaa
