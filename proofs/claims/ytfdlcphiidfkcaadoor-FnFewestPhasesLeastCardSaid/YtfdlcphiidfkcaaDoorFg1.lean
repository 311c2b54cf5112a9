/- Fewest phases, plain: choices of phases that cover a set. -/
import Derived.Test.YtfdlcphiidfkcaaDoorFd1
set_option linter.unusedVariables false
set_option linter.unusedSimpArgs false
namespace Go.Proofs.YtfdlcphiidfkcaaDoor
open Go.RowKit

/-- The number of a set of movements; what is left of a set. -/
def setL (ph : List Int) : Nat := ph.foldl (fun a m => a ||| 2 ^ m.toNat) 0
def dropN (a b : Nat) : Nat := a ^^^ (a &&& b)
theorem setL_bits (i : Nat) : ∀ (ph : List Int) (a : Nat), (∀ x ∈ ph, 0 ≤ x) → (ph.foldl (fun a m => a ||| 2 ^ m.toNat) a).testBit i = (a.testBit i || decide ((i : Int) ∈ ph))
  | [], a, _ => by simp
  | x :: r, a, h => by
    rw [List.foldl_cons, setL_bits i r _ (fun y hy => h y (List.mem_cons_of_mem _ hy)), testBit_add, Bool.or_assoc]
    congr 1
    have hx := h x List.mem_cons_self
    by_cases hi : x.toNat = i
    · have : (i : Int) = x := by omega
      simp [hi, this]
    · have : ¬ (i : Int) = x := by omega
      simp [hi, this]
theorem setL_bit {ph : List Int} (h : ∀ x ∈ ph, 0 ≤ x) (i : Nat) : (setL ph).testBit i = decide ((i : Int) ∈ ph) := by
  rw [setL, setL_bits i ph 0 h, Nat.zero_testBit, Bool.false_or]
theorem setL_lt {ph : List Int} {n : Nat} (h : ∀ x ∈ ph, 0 ≤ x ∧ x < n) : setL ph < 2 ^ n := Nat.lt_pow_two_of_testBit _ fun i hi => by
  rw [setL_bit (fun x hx => (h x hx).1)]
  simp only [decide_eq_false_iff_not]
  intro hm
  have := (h _ hm).2
  omega
theorem setL_take {ph : List Int} {k : Nat} {x : Int} (h : ph[k]? = some x) : setL (ph.take (k + 1)) = setL (ph.take k) ||| 2 ^ x.toNat := by
  rw [take_snoc h, setL, List.foldl_append]; rfl
theorem dropN_bit (a b i : Nat) : (dropN a b).testBit i = (a.testBit i && !b.testBit i) := by
  rw [dropN, Nat.testBit_xor, Nat.testBit_and]
  cases a.testBit i <;> cases b.testBit i <;> rfl
theorem dropN_le (a b : Nat) : dropN a b ≤ a := by
  have h : dropN a b = dropN a b &&& a := Nat.eq_of_testBit_eq fun i => by
    rw [Nat.testBit_and, dropN_bit]
    cases a.testBit i <;> cases b.testBit i <;> rfl
  rw [h]
  exact Nat.and_le_right

section
variable {α β : Type}
/-- What coverWith chooses, each phase with a mark. -/
def cwP : List (α × List Int) → Nat → Nat → Option (List (α × List Int))
  | [], _, _ => none
  | _ :: _, _, 0 => none
  | p :: r, m, c + 1 =>
    if dropN m (setL p.2) = 0 then (if c = 0 then some [p] else cwP r m (c + 1))
    else match cwP r (dropN m (setL p.2)) c with
      | some o => some (p :: o)
      | none => cwP r m (c + 1)
theorem cwP_zero (Z : List (α × List Int)) (m : Nat) : cwP Z m 0 = none := by cases Z <;> rfl
theorem cwP_map (g : α → β) : ∀ (Z : List (α × List Int)) (m c : Nat), cwP (Z.map fun p => (g p.1, p.2)) m c = (cwP Z m c).map (List.map fun p => (g p.1, p.2))
  | [], m, c => by cases c <;> rfl
  | p :: r, m, 0 => rfl
  | p :: r, m, c + 1 => by
    rw [List.map_cons, cwP, cwP]
    dsimp only
    split
    · split
      · rfl
      · exact cwP_map g r m (c + 1)
    · rw [cwP_map g r _ c, cwP_map g r m (c + 1)]
      cases cwP r (dropN m (setL p.2)) c <;> rfl
/-- What is left of a set behind a choice. -/
def rem (m : Nat) : List (α × List Int) → Nat
  | [] => m
  | p :: r => rem (dropN m (setL p.2)) r
theorem rem_zero : ∀ (S : List (α × List Int)), rem 0 S = 0
  | [] => rfl
  | p :: r => by
    have : dropN 0 (setL p.2) = 0 := by have := dropN_le 0 (setL p.2); omega
    rw [rem, this, rem_zero r]
theorem cwP_sound : ∀ {Z : List (α × List Int)} {m c : Nat} {O : List (α × List Int)}, cwP Z m c = some O → O.Sublist Z ∧ O.length = c ∧ 1 ≤ c ∧ rem m O = 0
  | [], m, c, O, h => by cases c <;> cases h
  | p :: r, m, 0, O, h => by cases h
  | p :: r, m, c + 1, O, h => by
    rw [cwP] at h
    split at h
    · rename_i h0
      split at h
      · rename_i hc
        injection h with h
        subst h; subst hc
        exact ⟨(List.nil_sublist r).cons_cons p, rfl, by omega, by rw [rem, h0]; rfl⟩
      · obtain ⟨h1, h2, h3, h4⟩ := cwP_sound h
        exact ⟨h1.cons p, h2, h3, h4⟩
    · cases h1 : cwP r (dropN m (setL p.2)) c with
      | none =>
        rw [h1] at h
        obtain ⟨h1, h2, h3, h4⟩ := cwP_sound h
        exact ⟨h1.cons p, h2, h3, h4⟩
      | some o =>
        rw [h1] at h
        injection h with h
        subst h
        obtain ⟨h1, h2, h3, h4⟩ := cwP_sound h1
        exact ⟨h1.cons_cons p, by simp [h2], by omega, h4⟩
end
/-- No proper beginning of the choice covers. -/
def Tight (m : Nat) (S : List (Int × List Int)) : Prop := ∀ k, k < S.length → rem m (S.take k) ≠ 0
theorem cwP_first : ∀ {Z : List (Int × List Int)} {m c : Nat} {S : List (Int × List Int)}, (Z.map Prod.fst).Pairwise (· < ·) → S.Sublist Z → S.length = c → rem m S = 0 → Tight m S → 0 < S.length → ∃ O, cwP Z m c = some O ∧ lessL (S.map Prod.fst) (O.map Prod.fst) = false
  | [], m, c, S, _, hs, _, _, _, hp => by
    have := List.sublist_nil.1 hs
    subst this
    simp at hp
  | p :: r, m, 0, S, _, _, hl, _, _, hp => by omega
  | p :: r, m, c + 1, S, hpw, hs, hl, hr, ht, hp => by
    rw [List.map_cons, List.pairwise_cons] at hpw
    have hfar : ∀ {S : List (Int × List Int)}, S.Sublist r → 0 < S.length → ∀ o, lessL (S.map Prod.fst) (p.1 :: o) = false := fun {S} hS h0 o => by
      cases S with
      | nil => simp at h0
      | cons s S' =>
        have hin : s.1 ∈ r.map Prod.fst := List.mem_map.2 ⟨s, hS.subset List.mem_cons_self, rfl⟩
        have := hpw.1 _ hin
        rw [List.map_cons, lessL, if_neg (by omega)]
        exact decide_eq_false (by omega)
    rw [cwP]
    rcases List.sublist_cons_iff.1 hs with hS | ⟨S', rfl, hS⟩
    · obtain ⟨O2, hO2, hle2⟩ := cwP_first hpw.2 hS hl hr ht hp
      split
      · split
        · exact ⟨[p], rfl, hfar hS hp _⟩
        · exact ⟨O2, hO2, hle2⟩
      · cases h1 : cwP r (dropN m (setL p.2)) c with
        | none => exact ⟨O2, hO2, hle2⟩
        | some o => exact ⟨p :: o, rfl, hfar hS hp _⟩
    · have hl' : S'.length = c := by simpa using hl
      by_cases h0 : dropN m (setL p.2) = 0
      · have hc : c = 0 := by
          rcases Nat.eq_zero_or_pos c with h | h
          · exact h
          · have := ht 1 (by simp; omega)
            rw [List.take_succ_cons, List.take_zero, rem, h0] at this
            exact absurd rfl this
        have hS0 : S' = [] := List.eq_nil_of_length_eq_zero (by omega)
        subst hS0
        rw [if_pos h0, if_pos hc]
        exact ⟨[p], rfl, lessL_irr _⟩
      · rw [if_neg h0]
        have hr' : rem (dropN m (setL p.2)) S' = 0 := hr
        have hp' : 0 < S'.length := by
          cases S' with
          | nil => exact absurd hr' h0
          | cons a b => simp
        obtain ⟨O', h1, hle⟩ := cwP_first hpw.2 hS hl' hr' (fun k hk => by
          have := ht (k + 1) (by simpa using hk)
          rwa [List.take_succ_cons] at this) hp'
        rw [h1]
        exact ⟨p :: O', rfl, by rw [List.map_cons, List.map_cons, lessL, if_pos rfl]; exact hle⟩

/-- Phases that have all movements. -/
def coverB (n : Nat) (rows : List (List Int)) : Bool := (List.range n).all fun m => rows.any fun ph => decide ((m : Int) ∈ ph)
theorem rem_bit {α : Type} (i : Nat) : ∀ (S : List (α × List Int)) (m : Nat), (∀ p ∈ S, ∀ x ∈ p.2, 0 ≤ x) → (rem m S).testBit i = (m.testBit i && !(S.any fun p => decide ((i : Int) ∈ p.2)))
  | [], m, _ => by simp [rem]
  | p :: r, m, h => by
    rw [rem, rem_bit i r _ (fun q hq => h q (List.mem_cons_of_mem _ hq)), dropN_bit, setL_bit (h p List.mem_cons_self), List.any_cons, Bool.not_or, Bool.and_assoc]
theorem rem_cover {α : Type} {n : Nat} {S : List (α × List Int)} (h : ∀ p ∈ S, ∀ x ∈ p.2, 0 ≤ x) : rem (2 ^ n - 1) S = 0 ↔ coverB n (S.map Prod.snd) = true := by
  simp only [coverB, List.all_eq_true, List.mem_range, List.any_map]
  constructor
  · intro h0 i hi
    have := congrArg (fun x => x.testBit i) h0
    simp only [rem_bit i S _ h, Nat.testBit_two_pow_sub_one, decide_eq_true hi, Bool.true_and, Nat.zero_testBit] at this
    simpa [Function.comp_def] using this
  · intro h0
    apply Nat.eq_of_testBit_eq
    intro i
    rw [rem_bit i S _ h, Nat.testBit_two_pow_sub_one, Nat.zero_testBit]
    by_cases hi : i < n
    · have := h0 i hi
      simp only [Function.comp_def] at this
      rw [this]; simp
    · simp [hi]
end Go.Proofs.YtfdlcphiidfkcaaDoor
