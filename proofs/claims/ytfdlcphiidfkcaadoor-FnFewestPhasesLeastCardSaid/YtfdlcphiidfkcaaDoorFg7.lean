/- Fewest phases, plain: facts for the laws. -/
import Derived.Test.YtfdlcphiidfkcaaDoorFg3
set_option linter.unusedVariables false
set_option linter.unusedSimpArgs false
namespace Go.Proofs.YtfdlcphiidfkcaaDoor
open Go.RowKit

theorem fewC_sound {α : Type} {Z : List (α × List Int)} {m c : Nat} {O : List (α × List Int)} (h : fewC Z m c = some O) : O.Sublist Z := by
  induction c with
  | zero => cases h
  | succ c ih =>
    rw [fewC] at h
    split at h
    · rename_i o ho
      injection h with h
      subst h
      exact ih ho
    · exact (cwP_sound h).1
theorem few_sub (t : List (List Bool)) : (fewL t).Sublist (fullL t) := by
  rw [fewL]
  split
  · exact List.nil_sublist _
  · split
    · rename_i o ho
      have h := (fewC_sound ho).map Prod.snd
      have e : (unitZ (fullL t)).map Prod.snd = fullL t := by simp [unitZ, Function.comp_def]
      rwa [e] at h
    · exact List.nil_sublist _
theorem few_parts {t : List (List Bool)} (h : 0 < (fewL t).length) : tOk t = true ∧ ∃ O : List (Int × List Int), fewL t = O.map Prod.snd ∧ O.Sublist (numZ (fullL t)) ∧ coverB t.length (O.map Prod.snd) = true ∧
    ∀ S : List (Int × List Int), S.Sublist (numZ (fullL t)) → coverB t.length (S.map Prod.snd) = true → O.length ≤ S.length := by
  have hl := (few_sub t).length_le
  have ht := fullL_ok (t := t) (by omega)
  have h12 : (fullL t).length ≤ 12 := by
    rcases Nat.lt_or_ge 12 (fullL t).length with h2 | h2
    · rw [fewL, if_pos (.inr h2)] at h; simp at h
    · exact h2
  obtain ⟨O, hO, hs, h1, hc, hmin⟩ := few_first ht h12
  refine ⟨ht, O, ?_, hs, hc, fun S hS hcS => ?_⟩
  · rw [fewL_of (numZ_snd _) (by rintro (h | h) <;> omega), hO]
  · rcases hmin S hS hcS with h | ⟨h, -⟩ <;> omega
theorem few_cover {t : List (List Bool)} (h : 0 < (fewL t).length) {m : Nat} (hm : m < t.length) : ((fewL t).any fun ph => decide ((m : Int) ∈ ph)) = true := by
  obtain ⟨-, O, e, -, hc, -⟩ := few_parts h
  rw [e]
  exact List.all_eq_true.1 hc m (List.mem_range.2 hm)
/-- Movements of which no two lie in one phase need as many phases. -/
theorem clique_le : ∀ (rows : List (List Int)) (K : List Int), K.Nodup → (∀ p ∈ rows, ∀ a ∈ K, ∀ b ∈ K, a ∈ p → b ∈ p → a = b) → (∀ k ∈ K, ∃ p ∈ rows, k ∈ p) → K.length ≤ rows.length
  | [], K, _, _, h => by
    cases K with
    | nil => simp
    | cons k r => obtain ⟨p, hp, -⟩ := h k List.mem_cons_self; cases hp
  | p :: r, K, hn, h1, h2 => by
    have hs : K.length = (K.filter fun k => decide (k ∈ p)).length + (K.filter fun k => !decide (k ∈ p)).length := by
      clear hn h1 h2
      induction K with
      | nil => rfl
      | cons k r ih =>
        by_cases hk : k ∈ p
        · rw [List.filter_cons_of_pos (by simpa using hk), List.filter_cons_of_neg (by simpa using hk)]
          simp only [List.length_cons]; omega
        · rw [List.filter_cons_of_neg (by simpa using hk), List.filter_cons_of_pos (by simpa using hk)]
          simp only [List.length_cons]; omega
    have ha : (K.filter fun k => decide (k ∈ p)).length ≤ 1 := by
      have hnd := hn.filter (fun k => decide (k ∈ p))
      have hall : ∀ a ∈ K.filter (fun k => decide (k ∈ p)), ∀ b ∈ K.filter (fun k => decide (k ∈ p)), a = b := fun a ha b hb => by
        rw [List.mem_filter] at ha hb
        exact h1 p List.mem_cons_self a ha.1 b hb.1 (by simpa using ha.2) (by simpa using hb.2)
      generalize K.filter (fun k => decide (k ∈ p)) = F at hnd hall
      match F, hnd, hall with
      | [], _, _ => simp
      | [a], _, _ => simp
      | a :: b :: q, hnd, hall =>
        have := hall a (by simp) b (by simp)
        subst this
        simp at hnd
    have ih := clique_le r (K.filter fun k => !decide (k ∈ p)) (hn.filter _)
      (fun q hq a ha b hb => h1 q (List.mem_cons_of_mem _ hq) a (List.mem_filter.1 ha).1 b (List.mem_filter.1 hb).1)
      (fun k hk => by
        rw [List.mem_filter] at hk
        obtain ⟨q, hq, hin⟩ := h2 k hk.1
        rcases List.mem_cons.1 hq with rfl | hq
        · simp [hin] at hk
        · exact ⟨q, hq, hin⟩)
    simp only [List.length_cons]
    omega
theorem full_clear {t : List (List Bool)} (ht : tOk t = true) {ph : List Int} (h : ph ∈ fullL t) {a b : Nat} (ha : (a : Int) ∈ ph) (hb : (b : Int) ∈ ph) : tAt t a b = false := by
  obtain ⟨m, hm, hf, rfl⟩ := (mem_fullL ht).1 h
  obtain ⟨a', e1, h1, h2⟩ := mem_movesN.1 ha
  obtain ⟨b', e2, h3, h4⟩ := mem_movesN.1 hb
  obtain rfl : a = a' := by omega
  obtain rfl : b = b' := by omega
  exact hf.1 a b h1 h3 h2 h4
theorem few_one {t : List (List Bool)} (h : 0 < (fewL t).length) : (fewL t).length = 1 ↔ ∀ a b, a < t.length → b < t.length → tAt t a b = false := by
  obtain ⟨ht, O, e, hs, hc, hmin⟩ := few_parts h
  constructor
  · intro h1 a b ha hb
    have hsub := (few_sub t).subset
    obtain ⟨p, hp⟩ := List.length_eq_one_iff.1 h1
    have ca := few_cover h ha
    have cb := few_cover h hb
    rw [hp] at ca cb hsub
    simp at ca cb
    exact full_clear ht (hsub List.mem_cons_self) ca cb
  · intro hn
    obtain ⟨p, hp, -⟩ := full_cover ht (m := 0) (by have := (tOk_iff.1 ht).1; omega)
    have hall : ∀ m : Nat, m < t.length → (m : Int) ∈ p := fun m hm => by
      rcases full_stuck ht hp hm with h | ⟨k, hk, hc⟩
      · exact h
      · have := full_in ht hp k hk
        rw [hn m k.toNat hm (by omega)] at hc; cases hc
    have hp2 : p ∈ (numZ (fullL t)).map Prod.snd := by rw [numZ_snd]; exact hp
    obtain ⟨q, hq, rfl⟩ := List.mem_map.1 hp2
    have := hmin [q] (List.singleton_sublist.2 hq) (by
      rw [coverB, List.all_eq_true]
      intro i hi
      simpa using hall i (List.mem_range.1 hi))
    rw [e, List.length_map] at h ⊢
    simp at this
    omega
/-- Movements chosen in their order, of which all have conflicts with each other. -/
def clq (t : List (List Bool)) : Nat → List Int
  | 0 => []
  | a + 1 => if ((clq t a).all fun x => tAt t a x.toNat) = true then clq t a ++ [(a : Int)] else clq t a
theorem clq_in (t : List (List Bool)) : ∀ a, ∀ x ∈ clq t a, 0 ≤ x ∧ x < a
  | 0, x, hx => by cases hx
  | a + 1, x, hx => by
    rw [clq] at hx
    split at hx
    · rcases List.mem_append.1 hx with h | h
      · have := clq_in t a x h; omega
      · simp at h; omega
    · have := clq_in t a x hx; omega
theorem clq_pw (t : List (List Bool)) : ∀ a, (clq t a).Pairwise (fun x y => x < y ∧ tAt t y.toNat x.toNat = true)
  | 0 => List.Pairwise.nil
  | a + 1 => by
    rw [clq]
    split
    · rename_i h
      rw [List.pairwise_append]
      refine ⟨clq_pw t a, by simp, fun x hx y hy => ?_⟩
      simp at hy
      subst hy
      have h1 := clq_in t a x hx
      have h2 := List.all_eq_true.1 h x hx
      exact ⟨by omega, by simpa using h2⟩
    · exact clq_pw t a
theorem clq_few {t : List (List Bool)} (h : 0 < (fewL t).length) : (clq t t.length).length ≤ (fewL t).length := by
  obtain ⟨ht, -⟩ := few_parts h
  have hpw := clq_pw t t.length
  refine clique_le _ _ (hpw.imp fun h e => by have := h.1; omega) (fun p hp a ha b hb ha2 hb2 => ?_) (fun k hk => ?_)
  · obtain ⟨i, hi⟩ := List.getElem?_of_mem ha
    obtain ⟨j, hj⟩ := List.getElem?_of_mem hb
    obtain ⟨l1, e1⟩ := List.getElem?_eq_some_iff.1 hi
    obtain ⟨l2, e2⟩ := List.getElem?_eq_some_iff.1 hj
    have hpf := (few_sub t).subset hp
    have ra := clq_in t _ a ha
    have rb := clq_in t _ b hb
    obtain ⟨a, rfl⟩ := Int.eq_ofNat_of_zero_le ra.1
    obtain ⟨b, rfl⟩ := Int.eq_ofNat_of_zero_le rb.1
    rw [List.pairwise_iff_getElem] at hpw
    rcases Nat.lt_trichotomy i j with h | h | h
    · have := (hpw i j l1 l2 h).2
      rw [e1, e2] at this
      rw [show tAt t (Int.toNat (b : Int)) (Int.toNat (a : Int)) = false from full_clear ht hpf hb2 ha2] at this
      cases this
    · subst h; exact e1.symm.trans e2
    · have := (hpw j i l2 l1 h).2
      rw [e1, e2] at this
      rw [show tAt t (Int.toNat (a : Int)) (Int.toNat (b : Int)) = false from full_clear ht hpf ha2 hb2] at this
      cases this
  · obtain ⟨h0, h1⟩ := clq_in t _ k hk
    obtain ⟨k, rfl⟩ := Int.eq_ofNat_of_zero_le h0
    have := few_cover h (m := k) (by omega)
    rw [List.any_eq_true] at this
    obtain ⟨p, hp, hin⟩ := this
    exact ⟨p, hp, by simpa using hin⟩
end Go.Proofs.YtfdlcphiidfkcaaDoor
