/- Tables of clearance times in plain words. -/
import Derived.Test.YtlpbmnmhpknppaaPa2
set_option linter.unusedVariables false
set_option linter.unusedSimpArgs false
namespace Go.Proofs.Ytlpbmnmhpknppaa
open Go.RowKit

/-- t[a][b]. -/
def cAt (t : List (List Int)) (a b : Nat) : Int := (t.getD a []).getD b 0
def okC (t : List (List Int)) (a b : Nat) : Bool := (decide (0 < cAt t a b) == decide (0 < cAt t b a)) && !(a == b && cAt t a b != 0)
def inC (t : List (List Int)) : Bool := t.all fun r => allB r 0 5
def cOk (t : List (List Int)) : Bool := inB t.length 1 8 && sqB t && inC t && (List.range t.length).all fun a => (List.range t.length).all fun b => okC t a b

theorem cAt_of {t : List (List Int)} {a b : Nat} {r : List Int} {x : Int} (ha : t[a]? = some r) (hb : r[b]? = some x) : cAt t a b = x := by
  simp [cAt, List.getD_eq_getElem?_getD, ha, hb]
theorem inC_row {t : List (List Int)} (h : inC t = true) {a : Nat} {r : List Int} (ha : t[a]? = some r) : allB r 0 5 = true := List.all_eq_true.1 h r (List.mem_of_getElem? ha)
theorem inC_bad {t : List (List Int)} {a : Nat} {r : List Int} (ha : t[a]? = some r) (h : allB r 0 5 = false) : inC t = false := by
  rw [inC, List.all_eq_false]
  exact ⟨r, List.mem_of_getElem? ha, by simp [h]⟩
theorem inC_mk {t : List (List Int)} (h : ∀ (a : Nat) (r : List Int), t[a]? = some r → allB r 0 5 = true) : inC t = true := by
  rw [inC, List.all_eq_true]
  intro r hr
  obtain ⟨a, ha⟩ := List.getElem?_of_mem hr
  exact h a r ha
theorem cOk_iff {t : List (List Int)} : cOk t = true ↔ 1 ≤ t.length ∧ t.length ≤ 8 ∧ sqB t = true ∧ inC t = true ∧ ∀ a b, a < t.length → b < t.length → okC t a b = true := by
  simp only [cOk, inB, Bool.and_eq_true, decide_eq_true_eq, List.all_eq_true, List.mem_range]
  constructor
  · rintro ⟨⟨⟨⟨h1, h2⟩, h3⟩, h5⟩, h4⟩
    exact ⟨by omega, by omega, h3, h5, fun a b ha hb => h4 a ha b hb⟩
  · rintro ⟨h1, h2, h3, h5, h4⟩
    exact ⟨⟨⟨⟨by omega, by omega⟩, h3⟩, h5⟩, fun a ha b hb => h4 a b ha hb⟩
theorem cOk_bad {t : List (List Int)} {a b : Nat} (ha : a < t.length) (hb : b < t.length) (h : okC t a b = false) : cOk t = false := by
  cases e : cOk t
  · rfl
  · have := (cOk_iff.1 e).2.2.2.2 a b ha hb
    rw [h] at this; cases this
theorem cOk_range {t : List (List Int)} (h : inB t.length 1 8 = false) : cOk t = false := by simp [cOk, h]
theorem cOk_sq {t : List (List Int)} (h : sqB t = false) : cOk t = false := by simp [cOk, h]
theorem cOk_in {t : List (List Int)} (h : inC t = false) : cOk t = false := by simp [cOk, h]
theorem okC_bad1 {t : List (List Int)} {a b : Nat} (h : decide (0 < cAt t a b) ≠ decide (0 < cAt t b a)) : okC t a b = false := by
  have : (decide (0 < cAt t a b) == decide (0 < cAt t b a)) = false := by simpa using h
  rw [okC, this]; rfl
theorem okC_bad2 {t : List (List Int)} {a : Nat} (h : cAt t a a ≠ 0) : okC t a a = false := by simp [okC, h]
theorem okC_ok {t : List (List Int)} {a b : Nat} (h : decide (0 < cAt t a b) = decide (0 < cAt t b a)) (h2 : a = b → cAt t a b = 0) : okC t a b = true := by
  by_cases he : a = b
  · subst he; simp [okC, h2 rfl]
  · simp [okC, h, he]
theorem okC_sym {t : List (List Int)} {a b : Nat} (h : okC t a b = true) : decide (0 < cAt t a b) = decide (0 < cAt t b a) := by
  simp only [okC, Bool.and_eq_true, beq_iff_eq] at h
  exact h.1
theorem okC_irr {t : List (List Int)} {a : Nat} (h : okC t a a = true) : cAt t a a = 0 := by simpa [okC] using h
theorem cOk_of_half {t : List (List Int)} (h1 : 1 ≤ t.length) (h2 : t.length ≤ 8) (h : ∀ (i : Nat) (r : List Int), t[i]? = some r → r.length = t.length ∧ allB r 0 5 = true ∧ cAt t i i = 0 ∧ ∀ k, k < i → decide (0 < cAt t i k) = decide (0 < cAt t k i)) : cOk t = true := by
  refine cOk_iff.2 ⟨h1, h2, sqB_mk fun a r ha => (h a r ha).1, inC_mk fun a r ha => (h a r ha).2.1, fun a b ha hb => ?_⟩
  have hd := (h a _ (List.getElem?_eq_getElem ha)).2.2.1
  refine okC_ok ?_ fun e => e ▸ hd
  rcases Nat.lt_trichotomy a b with hl | he | hg
  · exact ((h b _ (List.getElem?_eq_getElem hb)).2.2.2 a hl).symm
  · rw [he]
  · exact (h a _ (List.getElem?_eq_getElem ha)).2.2.2 b hg

/-- The table of conflicts of a table of clearance times. -/
def conf (t : List (List Int)) : List (List Bool) := t.map fun r => r.map fun x => decide (0 < x)
def confF (t : List (List Int)) : List (List Bool) := if cOk t = true then conf t else []
theorem conf_len (t : List (List Int)) : (conf t).length = t.length := by simp [conf]
theorem conf_row {t : List (List Int)} {a : Nat} {r : List Int} (h : t[a]? = some r) : (conf t)[a]? = some (r.map fun x => decide (0 < x)) := by simp [conf, h]
theorem conf_sq {t : List (List Int)} (h : sqB t = true) : sqB (conf t) = true := sqB_mk fun a r ha => by
  rw [conf_len]
  have hl : a < t.length := by
    have := (List.getElem?_eq_some_iff.1 ha).1
    rwa [conf_len] at this
  have := conf_row (List.getElem?_eq_getElem hl)
  rw [this] at ha
  injection ha with ha
  rw [← ha, List.length_map]
  exact sqB_all h (List.getElem?_eq_getElem hl)
theorem conf_at {t : List (List Int)} (h : sqB t = true) {a b : Nat} (ha : a < t.length) (hb : b < t.length) : tAt (conf t) a b = decide (0 < cAt t a b) := by
  have hl := sqB_all h (List.getElem?_eq_getElem ha)
  have hx : t[a][b]? = some (t[a][b]'(by omega)) := List.getElem?_eq_getElem (by omega)
  rw [cAt_of (List.getElem?_eq_getElem ha) hx]
  refine tAt_of (conf_row (List.getElem?_eq_getElem ha)) ?_
  rw [List.getElem?_map, hx]; rfl
theorem conf_ok {t : List (List Int)} (h : cOk t = true) : tOk (conf t) = true := by
  obtain ⟨h1, h2, h3, h4, h5⟩ := cOk_iff.1 h
  refine tOk_iff.2 ⟨by rw [conf_len]; exact h1, by rw [conf_len]; exact h2, conf_sq h3, fun a b ha hb => ?_⟩
  rw [conf_len] at ha hb
  have e1 := conf_at h3 ha hb
  have e2 := conf_at h3 hb ha
  refine okAt_ok ?_ fun e => ?_
  · rw [e1, e2]; exact okC_sym (h5 a b ha hb)
  · subst e
    rw [e1, okC_irr (h5 a a ha ha)]; rfl
end Go.Proofs.Ytlpbmnmhpknppaa
