/- Tables of conflicts and phases in plain words. -/
import Derived.Test.YtlpbmnmhpknppaaIn
import Derived.Test.YtlpbmnmhpknppaaG2
set_option linter.unusedVariables false
set_option linter.unusedSimpArgs false
namespace Go.Proofs.Ytlpbmnmhpknppaa
open Go.RowKit

theorem inB_iff {x lo hi : Int} (h : inB x lo hi = true) : lo ≤ x ∧ x ≤ hi := by
  simpa [inB] using h

/-- t[a][b]. -/
def tAt (t : List (List Bool)) (a b : Nat) : Bool := (t.getD a []).getD b false
def okAt (t : List (List Bool)) (a b : Nat) : Bool := (tAt t a b == tAt t b a) && !(a == b && tAt t a b)
def sqB {α : Type} (t : List (List α)) : Bool := t.all fun r => r.length == t.length
def tOk (t : List (List Bool)) : Bool := inB t.length 1 8 && sqB t && (List.range t.length).all fun a => (List.range t.length).all fun b => okAt t a b

theorem sqB_all {α : Type} {t : List (List α)} (h : sqB t = true) {a : Nat} {r : List α} (ha : t[a]? = some r) : r.length = t.length := by
  have := List.all_eq_true.1 h r (List.mem_of_getElem? ha)
  simpa using this
theorem sqB_bad {α : Type} {t : List (List α)} {a : Nat} {r : List α} (ha : t[a]? = some r) (hr : r.length ≠ t.length) : sqB t = false := by
  rw [sqB, List.all_eq_false]
  exact ⟨r, List.mem_of_getElem? ha, by simpa using hr⟩
theorem sqB_mk {α : Type} {t : List (List α)} (h : ∀ (a : Nat) (r : List α), t[a]? = some r → r.length = t.length) : sqB t = true := by
  rw [sqB, List.all_eq_true]
  intro r hr
  obtain ⟨a, ha⟩ := List.getElem?_of_mem hr
  simpa using h a r ha
theorem tAt_of {t : List (List Bool)} {a b : Nat} {r : List Bool} {x : Bool} (ha : t[a]? = some r) (hb : r[b]? = some x) : tAt t a b = x := by
  simp [tAt, List.getD_eq_getElem?_getD, ha, hb]
theorem tOk_iff {t : List (List Bool)} : tOk t = true ↔ 1 ≤ t.length ∧ t.length ≤ 8 ∧ sqB t = true ∧ ∀ a b, a < t.length → b < t.length → okAt t a b = true := by
  simp only [tOk, inB, Bool.and_eq_true, decide_eq_true_eq, List.all_eq_true, List.mem_range]
  constructor
  · rintro ⟨⟨⟨h1, h2⟩, h3⟩, h4⟩
    exact ⟨by omega, by omega, h3, fun a b ha hb => h4 a ha b hb⟩
  · rintro ⟨h1, h2, h3, h4⟩
    exact ⟨⟨⟨by omega, by omega⟩, h3⟩, fun a ha b hb => h4 a b ha hb⟩
theorem tOk_bad {t : List (List Bool)} {a b : Nat} (ha : a < t.length) (hb : b < t.length) (h : okAt t a b = false) : tOk t = false := by
  cases e : tOk t
  · rfl
  · have := (tOk_iff.1 e).2.2.2 a b ha hb
    rw [h] at this; cases this
theorem tOk_range {t : List (List Bool)} (h : inB t.length 1 8 = false) : tOk t = false := by simp [tOk, h]
theorem tOk_sq {t : List (List Bool)} (h : sqB t = false) : tOk t = false := by simp [tOk, h]
theorem tOk_sym {t : List (List Bool)} (h : tOk t = true) {a b : Nat} (ha : a < t.length) (hb : b < t.length) : tAt t a b = tAt t b a := by
  have := (tOk_iff.1 h).2.2.2 a b ha hb
  simp only [okAt, Bool.and_eq_true, beq_iff_eq] at this
  exact this.1
theorem tOk_irr {t : List (List Bool)} (h : tOk t = true) {a : Nat} (ha : a < t.length) : tAt t a a = false := by
  have := (tOk_iff.1 h).2.2.2 a a ha ha
  simpa [okAt] using this
/-- What the reference checks: the rows' lengths, the diagonal, and what lies below it. -/
theorem tOk_of_half {t : List (List Bool)} (h1 : 1 ≤ t.length) (h2 : t.length ≤ 8) (h : ∀ (i : Nat) (r : List Bool), t[i]? = some r → r.length = t.length ∧ tAt t i i = false ∧ ∀ k, k < i → tAt t i k = tAt t k i) : tOk t = true := by
  refine tOk_iff.2 ⟨h1, h2, sqB_mk fun a r ha => (h a r ha).1, fun a b ha hb => ?_⟩
  have hd := (h a _ (List.getElem?_eq_getElem ha)).2.1
  have e : tAt t a b = tAt t b a := by
    rcases Nat.lt_trichotomy a b with hl | he | hg
    · exact ((h b _ (List.getElem?_eq_getElem hb)).2.2 a hl).symm
    · rw [he]
    · exact (h a _ (List.getElem?_eq_getElem ha)).2.2 b hg
  simp only [okAt, e, beq_self_eq_true, Bool.true_and]
  by_cases he : a = b
  · subst he; simp [hd]
  · simp [he]
theorem okAt_bad1 {t : List (List Bool)} {a b : Nat} (h : tAt t a b ≠ tAt t b a) : okAt t a b = false := by simp [okAt, h]
theorem okAt_bad2 {t : List (List Bool)} {a : Nat} (h : tAt t a a = true) : okAt t a a = false := by simp [okAt, h]
theorem okAt_ok {t : List (List Bool)} {a b : Nat} (h : tAt t a b = tAt t b a) (h2 : a = b → tAt t a b = false) : okAt t a b = true := by
  by_cases he : a = b
  · subst he; simp [okAt, h2 rfl]
  · simp [okAt, h, he]

/-- Phases: numbers that ascend in lo..hi; no two in conflict. -/
def ascB (ph : List Int) (lo hi : Int) : Bool := decide (ph.Pairwise (fun a b => a < b)) && allB ph lo hi
def clearB (t : List (List Bool)) (ph : List Int) : Bool := decide (ph.Pairwise (fun a b => tAt t b.toNat a.toNat = false))
def phOk (t : List (List Bool)) (ph : List Int) : Bool := ascB ph 0 ((t.length : Int) - 1) && clearB t ph
def phaseF (t : List (List Bool)) (ph : List Int) : Bool := tOk t && phOk t ph

theorem pw_snoc {α : Type} {R : α → α → Prop} {xs : List α} {k : Nat} {x : α} (h : xs[k]? = some x) : (xs.take (k + 1)).Pairwise R ↔ (xs.take k).Pairwise R ∧ ∀ y ∈ xs.take k, R y x := by
  rw [take_snoc h, List.pairwise_append]
  simp
theorem pw_bad {α : Type} {R : α → α → Prop} {xs : List α} {i k : Nat} {x y : α} (hk : k < i) (hx : xs[k]? = some x) (hy : xs[i]? = some y) (h : ¬ R x y) : ¬ xs.Pairwise R := by
  intro hp
  rw [List.pairwise_iff_getElem] at hp
  obtain ⟨l1, e1⟩ := List.getElem?_eq_some_iff.1 hx
  obtain ⟨l2, e2⟩ := List.getElem?_eq_some_iff.1 hy
  have := hp k i l1 l2 hk
  rw [e1, e2] at this
  exact h this
/-- One step of an ascending row: only the neighbour is asked. -/
theorem asc_snoc {xs : List Int} {k : Nat} {x y : Int} (hx : xs[k]? = some x) (hy : xs[k + 1]? = some y) (h : (xs.take (k + 1)).Pairwise (fun a b => a < b)) (hxy : x < y) : (xs.take (k + 2)).Pairwise (fun a b => a < b) := by
  rw [pw_snoc hy]
  refine ⟨h, fun z hz => ?_⟩
  rw [pw_snoc hx] at h
  rw [take_snoc hx] at hz
  rcases List.mem_append.1 hz with h' | h'
  · have := h.2 z h'; omega
  · simp at h'; omega
theorem mem_take_at {α : Type} {xs : List α} {k : Nat} {x : α} (h : x ∈ xs.take k) : ∃ j, j < k ∧ xs[j]? = some x := by
  obtain ⟨j, hj⟩ := List.getElem?_of_mem h
  rw [List.getElem?_take] at hj
  split at hj
  · exact ⟨j, ‹_›, hj⟩
  · cases hj
end Go.Proofs.Ytlpbmnmhpknppaa
