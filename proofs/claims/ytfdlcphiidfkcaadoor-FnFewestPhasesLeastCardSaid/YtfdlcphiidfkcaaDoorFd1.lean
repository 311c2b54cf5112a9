/- What the laws of FullPhases say, plain. -/
import Derived.Test.YtfdlcphiidfkcaaDoorFu1
import Derived.Test.YtfdlcphiidfkcaaDoorPp
set_option linter.unusedVariables false
set_option linter.unusedSimpArgs false
namespace Go.Proofs.YtfdlcphiidfkcaaDoor
open Go.RowKit

theorem fullL_ok {t : List (List Bool)} (h : 0 < (fullL t).length) : tOk t = true := by
  cases ht : tOk t
  · simp [fullL, ht] at h
  · rfl
section
variable {t : List (List Bool)} (ht : tOk t = true) {ph q : List Int}
include ht
theorem full_valid (h : ph ∈ fullL t) : phaseF t ph = true := by
  obtain ⟨m, hm, hf, rfl⟩ := (mem_fullL ht).1 h
  rw [phaseF_yes ht, phOk, (clearB_iff ht m).2 hf.1, Bool.and_true, ascB, Bool.and_eq_true, decide_eq_true_eq]
  refine ⟨movesN_asc _ _, ?_⟩
  simp only [allB, List.all_eq_true, inB, Bool.and_eq_true, decide_eq_true_eq]
  intro x hx
  have := movesN_range hx
  omega
theorem full_in (h : ph ∈ fullL t) : ∀ x ∈ ph, 0 ≤ x ∧ x < t.length := by
  obtain ⟨m, hm, hf, rfl⟩ := (mem_fullL ht).1 h
  exact fun x hx => movesN_range hx
theorem full_len (h : ph ∈ fullL t) : ph.length ≤ t.length := by
  obtain ⟨m, hm, hf, rfl⟩ := (mem_fullL ht).1 h
  exact movesN_len _ _
theorem full_stuck (h : ph ∈ fullL t) {m : Nat} (hm : m < t.length) : (m : Int) ∈ ph ∨ ∃ k ∈ ph, tAt t m k.toNat = true := by
  obtain ⟨M, hM, hf, rfl⟩ := (mem_fullL ht).1 h
  rcases hf.2 m hm with h1 | ⟨b, hb, h1, h2⟩
  · exact .inl (mem_movesN.2 ⟨m, rfl, hm, h1⟩)
  · exact .inr ⟨b, mem_movesN.2 ⟨b, rfl, hb, h1⟩, by simpa using h2⟩
theorem full_cover {m : Nat} (hm : m < t.length) : ∃ p ∈ fullL t, (m : Int) ∈ p := by
  have hlt : 2 ^ m < 2 ^ t.length := Nat.pow_lt_pow_right (by omega) hm
  have hc : clearM t (2 ^ m) := fun a b ha hb h1 h2 => by
    rw [Nat.testBit_two_pow, decide_eq_true_eq] at h1 h2
    subst h1; subst h2
    exact tOk_irr ht hm
  obtain ⟨M, h1, h2, h3⟩ := full_grow ht _ (2 ^ m) (Nat.le_refl _) hlt hc
  exact ⟨_, (mem_fullL ht).2 ⟨M, h1, h2, rfl⟩, mem_movesN.2 ⟨m, rfl, hm, h3 m (by rw [Nat.testBit_two_pow]; simp)⟩⟩
theorem full_apart (h1 : ph ∈ fullL t) (h2 : q ∈ fullL t) (hs : ∀ x ∈ ph, x ∈ q) : ph = q := by
  obtain ⟨m, hm, hf, rfl⟩ := (mem_fullL ht).1 h1
  obtain ⟨k, hk, hg, rfl⟩ := (mem_fullL ht).1 h2
  have hin : ∀ a, a < t.length → m.testBit a = true → k.testBit a = true := fun a ha h => by
    obtain ⟨b, e, -, h3⟩ := mem_movesN.1 (hs _ (mem_movesN.2 ⟨a, rfl, ha, h⟩))
    have : b = a := by omega
    rw [← this]; exact h3
  have : m = k := Nat.eq_of_testBit_eq fun a => by
    by_cases ha : a < t.length
    · cases hka : k.testBit a
      · cases hma : m.testBit a
        · rfl
        · rw [hin a ha hma] at hka; cases hka
      · rcases hf.2 a ha with h | ⟨b, hb, hmb, hc⟩
        · exact h
        · rw [hg.1 a b ha hb hka (hin b hb hmb)] at hc; cases hc
    · rw [Nat.testBit_lt_two_pow (Nat.lt_of_lt_of_le hm (Nat.pow_le_pow_right (by omega) (by omega))), Nat.testBit_lt_two_pow (Nat.lt_of_lt_of_le hk (Nat.pow_le_pow_right (by omega) (by omega)))]
  rw [this]
end

/-- The number of a set of movements. -/
def setN (ph : List Int) : Nat → Nat
  | 0 => 0
  | k + 1 => if (k : Int) ∈ ph then setN ph k ||| 2 ^ k else setN ph k
theorem setN_lt (ph : List Int) (k : Nat) : setN ph k < 2 ^ k := by
  induction k with
  | zero => simp [setN]
  | succ k ih =>
    have h2 : 2 ^ k < 2 ^ (k + 1) := Nat.pow_lt_pow_right (by omega) (by omega)
    unfold setN
    split
    · exact Nat.or_lt_two_pow (by omega) h2
    · omega
theorem setN_bit (ph : List Int) (k i : Nat) : (setN ph k).testBit i = (decide (i < k) && decide ((i : Int) ∈ ph)) := by
  induction k with
  | zero => simp [setN]
  | succ k ih =>
    unfold setN
    by_cases hr : (k : Int) ∈ ph
    · rw [if_pos hr, testBit_add, ih]
      by_cases hik : k = i
      · subst hik
        have h1 : k < k + 1 := by omega
        simp [hr, h1]
      · by_cases hlt : i < k
        · have h1 : i < k + 1 := by omega
          simp [hik, hlt, h1]
        · have h1 : ¬ i < k + 1 := by omega
          simp [hik, hlt, h1]
    · rw [if_neg hr, ih]
      by_cases hik : k = i
      · subst hik
        simp [hr]
      · by_cases hlt : i < k
        · have h1 : i < k + 1 := by omega
          simp [hlt, h1]
        · have h1 : ¬ i < k + 1 := by omega
          simp [hlt, h1]
/-- Each phase lies in a full one. -/
theorem full_part {t : List (List Bool)} {ph : List Int} (hv : phaseF t ph = true) : ∃ q ∈ fullL t, ∀ x ∈ ph, x ∈ q := by
  have ht : tOk t = true := by
    cases h : tOk t
    · rw [phaseF_no h] at hv; cases hv
    · rfl
  rw [phaseF_yes ht, phOk, Bool.and_eq_true] at hv
  obtain ⟨ha, hc⟩ := hv
  have hin := ascB_all ha
  rw [clearB, decide_eq_true_eq, List.pairwise_iff_getElem] at hc
  have hcl : clearM t (setN ph t.length) := fun a b hal hbl h1 h2 => by
    rw [setN_bit, Bool.and_eq_true, decide_eq_true_eq, decide_eq_true_eq] at h1 h2
    obtain ⟨i, hi⟩ := List.getElem?_of_mem h1.2
    obtain ⟨j, hj⟩ := List.getElem?_of_mem h2.2
    obtain ⟨l1, e1⟩ := List.getElem?_eq_some_iff.1 hi
    obtain ⟨l2, e2⟩ := List.getElem?_eq_some_iff.1 hj
    rcases Nat.lt_trichotomy i j with h | h | h
    · have := hc i j l1 l2 h
      rw [e1, e2] at this
      simp only [Int.toNat_natCast] at this
      rw [tOk_sym ht hal hbl]; exact this
    · subst h
      rw [e1] at e2
      have : a = b := by omega
      subst this
      exact tOk_irr ht hal
    · have := hc j i l2 l1 h
      rw [e1, e2] at this
      simpa using this
  obtain ⟨M, h1, h2, h3⟩ := full_grow ht _ (setN ph t.length) (Nat.le_refl _) (setN_lt _ _) hcl
  refine ⟨_, (mem_fullL ht).2 ⟨M, h1, h2, rfl⟩, fun x hx => ?_⟩
  obtain ⟨x0, x1⟩ := hin x hx
  obtain ⟨k, rfl⟩ := Int.eq_ofNat_of_zero_le x0
  exact mem_movesN.2 ⟨k, rfl, by omega, h3 k (by rw [setN_bit]; simp [hx]; omega)⟩

/-- Without conflicts one phase has everybody. -/
theorem tAt_none (n a b : Nat) : tAt (List.replicate n (List.replicate n false)) a b = false := by
  simp only [tAt, List.getD_eq_getElem?_getD, List.getElem?_replicate]
  by_cases ha : a < n
  · rw [if_pos ha, Option.getD_some, List.getElem?_replicate]
    by_cases hb : b < n
    · rw [if_pos hb]; rfl
    · rw [if_neg hb]; rfl
  · rw [if_neg ha]; rfl
theorem none_ok {n : Nat} (h1 : 1 ≤ n) (h8 : n ≤ 8) : tOk (List.replicate n (List.replicate n false)) = true := by
  refine tOk_iff.2 ⟨by simpa using h1, by simpa using h8, sqB_mk fun a r ha => ?_, fun a b _ _ => by simp [okAt, tAt_none]⟩
  have := List.eq_of_mem_replicate (List.mem_of_getElem? ha)
  subst this
  simp
theorem full_none {n : Nat} (h1 : 1 ≤ n) (h8 : n ≤ 8) : fullL (List.replicate n (List.replicate n false)) = [(List.range n).map fun (k : Nat) => (k : Int)] := by
  have ht := none_ok h1 h8
  have hl : (List.replicate n (List.replicate n false)).length = n := by simp
  obtain ⟨t, hT⟩ : ∃ t, List.replicate n (List.replicate n false) = t := ⟨_, rfl⟩
  have hc : ∀ a b, tAt t a b = false := fun a b => by rw [← hT]; exact tAt_none n a b
  rw [hT] at ht hl ⊢
  subst hl
  have hP : 0 < 2 ^ t.length := Nat.pow_pos (by omega)
  have hall : movesN t.length (2 ^ t.length - 1) = (List.range t.length).map fun (k : Nat) => (k : Int) := by
    unfold movesN
    rw [List.filter_eq_self.2 fun k hk => by rw [Nat.testBit_two_pow_sub_one]; simpa using hk]
  have hno : fullUp t (2 ^ t.length - 1) = [] := by
    unfold fullUp
    rw [List.filter_eq_nil_iff]
    intro p hp hb
    obtain ⟨m, hm, rfl⟩ := List.mem_map.1 hp
    have hm := List.mem_range.1 hm
    have hf := (fullB_iff ht m).1 hb
    have : m = 2 ^ t.length - 1 := Nat.eq_of_testBit_eq fun i => by
      rw [Nat.testBit_two_pow_sub_one]
      by_cases hi : i < t.length
      · rcases hf.2 i hi with h | ⟨b, _, _, h⟩
        · rw [h]; simp [hi]
        · rw [hc] at h; cases h
      · rw [Nat.testBit_lt_two_pow (Nat.lt_of_lt_of_le (show m < 2 ^ t.length by omega) (Nat.pow_le_pow_right (by omega) (by omega)))]; simp [hi]
    omega
  have hfull : fullB t (movesN t.length (2 ^ t.length - 1)) = true := (fullB_iff ht _).2 ⟨fun a b _ _ _ _ => hc a b, fun a ha => .inl (by rw [Nat.testBit_two_pow_sub_one]; simpa using ha)⟩
  have hup : fullUp t (2 ^ t.length) = [movesN t.length (2 ^ t.length - 1)] := by
    have := fullUp_succ t (2 ^ t.length - 1)
    rw [if_pos hfull, hno, show 2 ^ t.length - 1 + 1 = 2 ^ t.length by omega] at this
    simpa using this
  rw [fullL, if_pos ht, hup, hall]
  simp [sortL]
end Go.Proofs.YtfdlcphiidfkcaaDoor
