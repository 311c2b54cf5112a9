/- Plain words on sorting: insertion into a sorted row by exchanges; a sorted row is known by its members. -/
import Derived.Test.YtlpbmnmhpknppaaOw
set_option linter.unusedVariables false
set_option linter.unusedSimpArgs false
namespace Go.Proofs.Ytlpbmnmhpknppaa
open Go.RowKit

section
variable {α : Type} {R : α → α → Prop}

/-- Two rows sorted by an antisymmetric order, with the same members: the same row. -/
theorem sorted_unique (anti : ∀ a b, R a b → R b a → a = b) {xs ys : List α} (hp : xs.Perm ys) (h1 : xs.Pairwise R) (h2 : ys.Pairwise R) : xs = ys := by
  induction xs generalizing ys with
  | nil => exact (List.nil_perm.1 hp).symm
  | cons x xs ih =>
    cases ys with
    | nil => exact absurd hp.symm.nil_eq (by simp)
    | cons y ys =>
      have hxy : x = y := by
        have hx : x ∈ y :: ys := hp.subset List.mem_cons_self
        have hy : y ∈ x :: xs := hp.symm.subset List.mem_cons_self
        rcases List.mem_cons.1 hx with h | h
        · exact h
        · rcases List.mem_cons.1 hy with h' | h'
          · exact h'.symm
          · exact anti x y ((List.pairwise_cons.1 h1).1 y h') ((List.pairwise_cons.1 h2).1 x h)
      subst hxy
      rw [ih (List.perm_cons x |>.1 hp) (List.pairwise_cons.1 h1).2 (List.pairwise_cons.1 h2).2]

/-- The row while x is on its way down: a ++ x :: b ++ rest, a of length k, a ++ b sorted, x below all of b; i of them are sorted. -/
def Sinks (R : α → α → Prop) (i k : Nat) (zs : List α) : Prop :=
  ∃ a x b rest, zs = a ++ x :: (b ++ rest) ∧ a.length = k ∧ a.length + b.length = i ∧ (a ++ b).Pairwise R ∧ ∀ y ∈ b, R x y

theorem Sinks.start {i : Nat} {zs : List α} (h : (zs.take i).Pairwise R) (hi : i < zs.length) : Sinks R i i zs := by
  refine ⟨zs.take i, zs[i], [], zs.drop (i + 1), ?_, by rw [List.length_take]; omega, by simp; omega, by simpa using h, fun y hy => by cases hy⟩
  rw [List.nil_append, ← List.drop_eq_getElem_cons hi, List.take_append_drop]

/-- It stops: at the foot, or the one ahead is below it. -/
theorem Sinks.stop {i k : Nat} {zs : List α} (tr : ∀ a b c, R a b → R b c → R a c) (h : Sinks R i k zs) (hk : k = 0 ∨ ∃ u v, zs[k - 1]? = some u ∧ zs[k]? = some v ∧ R u v) : (zs.take (i + 1)).Pairwise R := by
  obtain ⟨a, x, b, rest, rfl, rfl, hl, hp, hb⟩ := h
  have ht : (a ++ x :: (b ++ rest)).take (i + 1) = a ++ x :: b := by
    rw [show a ++ x :: (b ++ rest) = (a ++ x :: b) ++ rest by simp, List.take_append_of_le_length (by simp; omega), List.take_of_length_le (by simp; omega)]
  rw [ht]
  have hax : ∀ u ∈ a, R u x := by
    rcases hk with h0 | ⟨u, v, hu, hv, huv⟩
    · have : a = [] := List.eq_nil_of_length_eq_zero h0
      subst this
      intro u hu; cases hu
    · intro c hc
      rcases List.eq_nil_or_concat a with rfl | ⟨a', y, rfl⟩
      · cases hc
      · have e1 : u = y := by
          rw [List.concat_eq_append] at hu
          simp at hu
          exact hu.symm
        have e2 : v = x := by
          rw [List.getElem?_append_right (Nat.le_refl _), Nat.sub_self] at hv
          simpa using hv.symm
        subst e1 e2
        rw [List.concat_eq_append] at hc hp
        rcases List.mem_append.1 hc with h' | h'
        · refine tr _ _ _ ?_ huv
          rw [List.append_assoc, List.pairwise_append] at hp
          exact hp.2.2 c h' u (by simp)
        · simp at h'; subst h'; exact huv
  rw [List.pairwise_append] at hp ⊢
  refine ⟨hp.1, List.pairwise_cons.2 ⟨hb, hp.2.1⟩, fun u hu v hv => ?_⟩
  rcases List.mem_cons.1 hv with rfl | hv
  · exact hax u hu
  · exact hp.2.2 u hu v hv

/-- One exchange. -/
theorem Sinks.swap {i k : Nat} {zs : List α} {u v : α} (h : Sinks R i (k + 1) zs) (hu : zs[k]? = some u) (hv : zs[k + 1]? = some v) (hvu : R v u) :
    Sinks R i k ((zs.set (k + 1) u).set k v) := by
  obtain ⟨a, x, b, rest, rfl, ha, hl, hp, hb⟩ := h
  rcases List.eq_nil_or_concat a with rfl | ⟨a', y, rfl⟩
  · cases ha
  · rw [List.concat_eq_append] at *
    have ha' : a'.length = k := by simpa using ha
    subst ha'
    have e1 : u = y := by
      rw [List.append_assoc, List.getElem?_append_right (Nat.le_refl _), Nat.sub_self] at hu
      simpa using hu.symm
    have e2 : v = x := by
      rw [List.getElem?_append_right (by simp), show a'.length + 1 - (a' ++ [y]).length = 0 by simp] at hv
      simpa using hv.symm
    subst e1 e2
    refine ⟨a', v, u :: b, rest, ?_, rfl, by simp at hl ⊢; omega, by simpa using hp, ?_⟩
    · have e : a' ++ [u] ++ v :: (b ++ rest) = a' ++ u :: v :: (b ++ rest) := by simp
      rw [e]
      apply List.ext_getElem?
      intro j
      simp only [List.getElem?_set, List.length_set]
      by_cases h1 : a'.length = j
      · subst h1
        simp
      · rw [if_neg h1]
        by_cases h2 : a'.length + 1 = j
        · subst h2
          simp
        · rw [if_neg h2]
          rcases Nat.lt_or_ge j a'.length with hlt | hge
          · rw [List.getElem?_append_left hlt, List.getElem?_append_left hlt]
          · obtain ⟨m, hm⟩ : ∃ m, j = a'.length + (m + 2) := ⟨j - a'.length - 2, by omega⟩
            subst hm
            rw [List.getElem?_append_right (by omega), List.getElem?_append_right (by omega)]
            simp
    · intro z hz
      rcases List.mem_cons.1 hz with rfl | hz
      · exact hvu
      · exact hb z hz

theorem perm_swap {zs : List α} {k : Nat} {u v : α} (hu : zs[k]? = some u) (hv : zs[k + 1]? = some v) : ((zs.set (k + 1) u).set k v).Perm zs := by
  obtain ⟨h1, rfl⟩ := List.getElem?_eq_some_iff.1 hu
  obtain ⟨h2, rfl⟩ := List.getElem?_eq_some_iff.1 hv
  have e : zs = zs.take k ++ zs[k] :: zs[k + 1] :: zs.drop (k + 2) := by
    rw [← List.drop_eq_getElem_cons h2, ← List.drop_eq_getElem_cons h1, List.take_append_drop]
  have hlen : (zs.take k).length = k := by rw [List.length_take]; omega
  have e2 : (zs.set (k + 1) zs[k]).set k zs[k + 1] = zs.take k ++ zs[k + 1] :: zs[k] :: zs.drop (k + 2) := by
    apply List.ext_getElem?
    intro j
    simp only [List.getElem?_set, List.length_set]
    rcases Nat.lt_or_ge j k with hlt | hge
    · rw [if_neg (by omega), if_neg (by omega), List.getElem?_append_left (by omega), List.getElem?_take, if_pos hlt]
    · rw [List.getElem?_append_right (by omega), hlen]
      by_cases ha : k = j
      · subst ha; simp; omega
      · rw [if_neg ha]
        by_cases hb : k + 1 = j
        · subst hb
          rw [if_pos rfl, if_pos h2, show k + 1 - k = 1 by omega]; rfl
        · rw [if_neg hb]
          obtain ⟨m, hm⟩ : ∃ m, j = k + (m + 2) := ⟨j - k - 2, by omega⟩
          subst hm
          rw [show k + (m + 2) - k = m + 2 by omega]
          simp [List.getElem?_drop]
          congr 1; omega
  rw [e2]
  conv => rhs; rw [e]
  exact List.Perm.append_left _ (List.Perm.swap _ _ _)
end
end Go.Proofs.Ytlpbmnmhpknppaa
