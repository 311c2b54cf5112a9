/- Full phases in plain words: sets as numbers, the order of lists, the sorted row of full phases. -/
import Derived.Test.YtfdlcphiidfkcaaDoorPp
import Derived.Test.YtfdlcphiidfkcaaDoorBb
set_option linter.unusedVariables false
set_option linter.unusedSimpArgs false
namespace Go.Proofs.YtfdlcphiidfkcaaDoor
open Go.RowKit

/-- The order of lists. -/
def lessL : List Int → List Int → Bool
  | [], [] => false
  | [], _ :: _ => true
  | _ :: _, [] => false
  | a :: r, b :: s => if a = b then lessL r s else decide (a < b)
theorem lessL_irr (a : List Int) : lessL a a = false := by
  induction a with
  | nil => rfl
  | cons x r ih => simp [lessL, ih]
theorem lessL_anti : ∀ {a b : List Int}, lessL a b = false → lessL b a = false → a = b := by
  intro a
  induction a with
  | nil => intro b h1 h2; cases b with
    | nil => rfl
    | cons y s => cases h1
  | cons x r ih =>
    intro b h1 h2
    cases b with
    | nil => cases h2
    | cons y s =>
      unfold lessL at h1 h2
      by_cases e : x = y
      · subst e
        rw [if_pos rfl] at h1 h2
        rw [ih h1 h2]
      · rw [if_neg e] at h1
        rw [if_neg (fun h => e h.symm)] at h2
        simp at h1 h2
        omega
theorem lessL_asym : ∀ {a b : List Int}, lessL a b = true → lessL b a = false := by
  intro a
  induction a with
  | nil => intro b h; cases b with
    | nil => cases h
    | cons y s => rfl
  | cons x r ih =>
    intro b h
    cases b with
    | nil => cases h
    | cons y s =>
      unfold lessL at h ⊢
      by_cases e : x = y
      · subst e
        rw [if_pos rfl] at h ⊢
        exact ih h
      · rw [if_neg e] at h
        rw [if_neg (fun h => e h.symm)]
        simp at h ⊢
        omega
theorem lessL_trans : ∀ {a b c : List Int}, lessL b a = false → lessL c b = false → lessL c a = false := by
  intro a
  induction a with
  | nil => intro b c h1 h2; cases c with
    | nil => rfl
    | cons z u => rfl
  | cons x r ih =>
    intro b c h1 h2
    cases b with
    | nil => cases h1
    | cons y s =>
      cases c with
      | nil => cases h2
      | cons z u =>
        unfold lessL at h1 h2 ⊢
        by_cases e1 : y = x
        · subst e1
          rw [if_pos rfl] at h1
          by_cases e2 : z = y
          · subst e2
            rw [if_pos rfl] at h2 ⊢
            exact ih h1 h2
          · rw [if_neg e2] at h2 ⊢
            exact h2
        · rw [if_neg e1] at h1
          by_cases e2 : z = y
          · subst e2
            rw [if_neg e1]; exact h1
          · rw [if_neg e2] at h2
            simp at h1 h2
            rw [if_neg (by omega)]
            simp; omega
def leL (a b : List Int) : Prop := lessL b a = false
def sortL (xss : List (List Int)) : List (List Int) := xss.mergeSort fun a b => !lessL b a
theorem sortL_perm (xss : List (List Int)) : (sortL xss).Perm xss := List.mergeSort_perm xss _
theorem sortL_sorted (xss : List (List Int)) : (sortL xss).Pairwise leL := by
  have := List.pairwise_mergeSort (le := fun a b : List Int => !lessL b a) (fun a b c h1 h2 => by
    simp only [Bool.not_eq_true'] at *
    exact lessL_trans h1 h2) (fun a b => by
    cases h : lessL b a
    · simp
    · simp [lessL_asym h]) xss
  exact this.imp fun h => by simpa [leL] using h
theorem sortL_of {xss yss : List (List Int)} (hp : yss.Perm xss) (hs : yss.Pairwise leL) : yss = sortL xss :=
  sorted_unique (fun a b h1 h2 => lessL_anti h2 h1) (hp.trans (sortL_perm xss).symm) hs (sortL_sorted xss)

/-- The numbers below n whose binary digit in m is 1. -/
def movesN (n m : Nat) : List Int := ((List.range n).filter fun k => m.testBit k).map fun (k : Nat) => (k : Int)
theorem mem_movesN {n m : Nat} {x : Int} : x ∈ movesN n m ↔ ∃ k : Nat, x = k ∧ k < n ∧ m.testBit k = true := by
  simp only [movesN, List.mem_map, List.mem_filter, List.mem_range]
  constructor
  · rintro ⟨k, ⟨h1, h2⟩, rfl⟩; exact ⟨k, rfl, h1, h2⟩
  · rintro ⟨k, rfl, h1, h2⟩; exact ⟨k, ⟨h1, h2⟩, rfl⟩
theorem movesN_asc (n m : Nat) : (movesN n m).Pairwise (fun a b => a < b) := by
  unfold movesN
  rw [List.pairwise_map]
  exact (List.pairwise_lt_range.filter _).imp fun h => by omega
theorem movesN_range {n m : Nat} {x : Int} (h : x ∈ movesN n m) : 0 ≤ x ∧ x < n := by
  obtain ⟨k, rfl, h1, -⟩ := mem_movesN.1 h
  omega
theorem movesN_inj {n a b : Nat} (ha : a < 2 ^ n) (hb : b < 2 ^ n) (h : movesN n a = movesN n b) : a = b := by
  apply Nat.eq_of_testBit_eq
  intro i
  by_cases hi : i < n
  · have : ∀ {x y : Nat}, movesN n x = movesN n y → x.testBit i = true → y.testBit i = true := fun {x y} e hx => by
      have h1 : (i : Int) ∈ movesN n x := mem_movesN.2 ⟨i, rfl, hi, hx⟩
      rw [e] at h1
      obtain ⟨k, hk, -, h2⟩ := mem_movesN.1 h1
      have : k = i := by omega
      rw [← this]; exact h2
    cases h1 : a.testBit i <;> cases h2 : b.testBit i
    · rfl
    · have := this h.symm h2; rw [h1] at this; cases this
    · have := this h h1; rw [h2] at this; cases this
    · rfl
  · have hle : 2 ^ n ≤ 2 ^ i := Nat.pow_le_pow_right (by omega) (by omega)
    rw [Nat.testBit_lt_two_pow (by omega), Nat.testBit_lt_two_pow (by omega)]
theorem movesN_succ (n m : Nat) : movesN (n + 1) m = movesN n m ++ if m.testBit n = true then [(n : Int)] else [] := by
  unfold movesN
  rw [List.range_succ, List.filter_append, List.map_append]
  congr 1
  by_cases h : m.testBit n = true
  · rw [if_pos h]; simp [h]
  · rw [if_neg h]; simp [h]
theorem movesN_len (n m : Nat) : (movesN n m).length ≤ n := by
  simp only [movesN, List.length_map]
  exact Nat.le_trans (List.length_filter_le _ _) (by simp)

/-- A phase that no movement can be added to. -/
def fullB (t : List (List Bool)) (ph : List Int) : Bool := clearB t ph && (List.range t.length).all fun m => decide ((m : Int) ∈ ph) || ph.any fun k => tAt t m k.toNat
def fullUp (t : List (List Bool)) (m : Nat) : List (List Int) := ((List.range m).map (movesN t.length)).filter (fullB t)
def fullL (t : List (List Bool)) : List (List Int) := if tOk t = true then sortL (fullUp t (2 ^ t.length)) else []
theorem fullUp_succ (t : List (List Bool)) (m : Nat) : fullUp t (m + 1) = fullUp t m ++ if fullB t (movesN t.length m) = true then [movesN t.length m] else [] := by
  unfold fullUp
  rw [List.range_succ, List.map_append, List.filter_append, List.map_singleton]
  congr 1
  by_cases h : fullB t (movesN t.length m) = true
  · rw [if_pos h]; simp [h]
  · rw [if_neg h]; simp [h]
theorem fullUp_one {t : List (List Bool)} (h : 1 ≤ t.length) : fullUp t 1 = [] := by
  have e0 : movesN t.length 0 = [] := by simp [movesN]
  have e : fullB t [] = false := by
    simp only [fullB, Bool.and_eq_false_iff]
    right
    rw [List.all_eq_false]
    exact ⟨0, by simp; omega, by simp⟩
  simp [fullUp, e0, e]

/-- Sets as numbers: no two in conflict. -/
def clearM (t : List (List Bool)) (m : Nat) : Prop := ∀ a b, a < t.length → b < t.length → m.testBit a = true → m.testBit b = true → tAt t a b = false
theorem clearB_iff {t : List (List Bool)} (ht : tOk t = true) (m : Nat) : clearB t (movesN t.length m) = true ↔ clearM t m := by
  rw [clearB, decide_eq_true_eq]
  constructor
  · intro h a b ha hb h1 h2
    have key : ∀ a b, a < t.length → b < t.length → m.testBit a = true → m.testBit b = true → a < b → tAt t b a = false := fun a b ha hb h1 h2 hl => by
      obtain ⟨i, hi⟩ := List.getElem?_of_mem (mem_movesN.2 ⟨a, rfl, ha, h1⟩)
      obtain ⟨j, hj⟩ := List.getElem?_of_mem (mem_movesN.2 ⟨b, rfl, hb, h2⟩)
      have hs := movesN_asc t.length m
      rw [List.pairwise_iff_getElem] at h hs
      obtain ⟨l1, e1⟩ := List.getElem?_eq_some_iff.1 hi
      obtain ⟨l2, e2⟩ := List.getElem?_eq_some_iff.1 hj
      have hij : i < j := by
        rcases Nat.lt_trichotomy i j with hh | hh | hh
        · exact hh
        · subst hh; rw [e1] at e2; omega
        · have := hs j i l2 l1 hh
          rw [e1, e2] at this; omega
      have := h i j l1 l2 hij
      rw [e1, e2] at this
      simpa using this
    rcases Nat.lt_trichotomy a b with hl | he | hg
    · rw [tOk_sym ht ha hb]; exact key a b ha hb h1 h2 hl
    · subst he; exact tOk_irr ht ha
    · exact key b a hb ha h2 h1 hg
  · intro h
    rw [List.pairwise_iff_getElem]
    intro i j l1 l2 hij
    obtain ⟨a, ea, ha, h1⟩ := mem_movesN.1 (List.getElem_mem l1)
    obtain ⟨b, eb, hb, h2⟩ := mem_movesN.1 (List.getElem_mem l2)
    rw [ea, eb]
    simp only [Int.toNat_natCast]
    exact h b a hb ha h2 h1
def fullM (t : List (List Bool)) (m : Nat) : Prop := clearM t m ∧ ∀ a, a < t.length → m.testBit a = true ∨ ∃ b, b < t.length ∧ m.testBit b = true ∧ tAt t a b = true
theorem fullB_iff {t : List (List Bool)} (ht : tOk t = true) (m : Nat) : fullB t (movesN t.length m) = true ↔ fullM t m := by
  simp only [fullB, Bool.and_eq_true, clearB_iff ht, fullM, List.all_eq_true, List.mem_range, Bool.or_eq_true, decide_eq_true_eq, List.any_eq_true]
  constructor
  · rintro ⟨h1, h2⟩
    refine ⟨h1, fun a ha => ?_⟩
    rcases h2 a ha with h | ⟨k, hk, hc⟩
    · obtain ⟨k, e, -, h'⟩ := mem_movesN.1 h
      have : k = a := by omega
      subst this
      exact .inl h'
    · obtain ⟨b, rfl, hb, h⟩ := mem_movesN.1 hk
      exact .inr ⟨b, hb, h, by simpa using hc⟩
  · rintro ⟨h1, h2⟩
    refine ⟨h1, fun a ha => ?_⟩
    rcases h2 a ha with h | ⟨b, hb, h, hc⟩
    · exact .inl (mem_movesN.2 ⟨a, rfl, ha, h⟩)
    · exact .inr ⟨b, mem_movesN.2 ⟨b, rfl, hb, h⟩, by simpa using hc⟩

theorem testBit_add {m a i : Nat} : (m ||| 2 ^ a).testBit i = (m.testBit i || decide (a = i)) := by
  rw [Nat.testBit_or, Nat.testBit_two_pow]
/-- Every clear set lies in a full one. -/
theorem full_grow {t : List (List Bool)} (ht : tOk t = true) : ∀ (d m : Nat), 2 ^ t.length - m ≤ d → m < 2 ^ t.length → clearM t m → ∃ M, M < 2 ^ t.length ∧ fullM t M ∧ ∀ i, m.testBit i = true → M.testBit i = true := by
  intro d
  induction d with
  | zero => intro m h1 h2; omega
  | succ d ih =>
    intro m hd hm hc
    by_cases hf : ∃ a, a < t.length ∧ m.testBit a = false ∧ ∀ b, b < t.length → m.testBit b = true → tAt t a b = false
    · obtain ⟨a, ha, hma, hab⟩ := hf
      have hlt : m < m ||| 2 ^ a := by
        have h1 : m ≤ m ||| 2 ^ a := Nat.left_le_or
        rcases Nat.lt_or_ge m (m ||| 2 ^ a) with h | h
        · exact h
        · have e : m = m ||| 2 ^ a := by omega
          have : m.testBit a = (m ||| 2 ^ a).testBit a := by rw [← e]
          rw [testBit_add, hma] at this
          simp at this
      have hlt2 : m ||| 2 ^ a < 2 ^ t.length := Nat.or_lt_two_pow hm (Nat.pow_lt_pow_right (by omega) ha)
      have hc2 : clearM t (m ||| 2 ^ a) := by
        intro x y hx hy h1 h2
        rw [testBit_add] at h1 h2
        simp only [Bool.or_eq_true, decide_eq_true_eq] at h1 h2
        rcases h1 with h1 | rfl <;> rcases h2 with h2 | rfl
        · exact hc x y hx hy h1 h2
        · rw [tOk_sym ht hx hy]; exact hab x hx h1
        · exact hab y hy h2
        · exact tOk_irr ht hx
      obtain ⟨M, hM1, hM2, hM3⟩ := ih _ (by omega) hlt2 hc2
      exact ⟨M, hM1, hM2, fun i hi => hM3 i (by rw [testBit_add, hi]; rfl)⟩
    · refine ⟨m, hm, ⟨hc, fun a ha => ?_⟩, fun i hi => hi⟩
      cases h : m.testBit a
      · right
        refine Classical.byContradiction fun hn => hf ⟨a, ha, h, fun b hb hmb => ?_⟩
        cases h2 : tAt t a b
        · rfl
        · exact absurd ⟨b, hb, hmb, h2⟩ hn
      · exact .inl rfl

theorem mem_fullL {t : List (List Bool)} (ht : tOk t = true) {ph : List Int} : ph ∈ fullL t ↔ ∃ m, m < 2 ^ t.length ∧ fullM t m ∧ ph = movesN t.length m := by
  rw [fullL, if_pos ht, (sortL_perm _).mem_iff]
  simp only [fullUp, List.mem_filter, List.mem_map, List.mem_range]
  constructor
  · rintro ⟨⟨m, hm, rfl⟩, h⟩; exact ⟨m, hm, (fullB_iff ht m).1 h, rfl⟩
  · rintro ⟨m, hm, h, rfl⟩; exact ⟨⟨m, hm, rfl⟩, (fullB_iff ht m).2 h⟩
theorem fullL_nodup {t : List (List Bool)} : (fullL t).Nodup := by
  unfold fullL
  split
  · rw [(sortL_perm _).nodup_iff]
    unfold fullUp List.Nodup
    refine List.Pairwise.filter _ ?_
    rw [List.pairwise_map, List.pairwise_iff_getElem]
    intro i j h1 h2 hij
    simp only [List.getElem_range]
    intro e
    have := movesN_inj (by simpa using h1) (by simpa using h2) e
    omega
  · exact List.Pairwise.nil
theorem fullL_len (t : List (List Bool)) (ht : tOk t = true) : (fullL t).length ≤ 256 := by
  rw [fullL, if_pos ht, (sortL_perm _).length_eq]
  have h1 : (fullUp t (2 ^ t.length)).length ≤ 2 ^ t.length := by
    unfold fullUp
    exact Nat.le_trans (List.length_filter_le _ _) (by simp)
  have h2 : 2 ^ t.length ≤ 2 ^ 8 := Nat.pow_le_pow_right (by omega) (tOk_iff.1 ht).2.1
  omega
end Go.Proofs.YtfdlcphiidfkcaaDoor
