/- LostTime: short rings, in plain words. -/
import Derived.Test.YtlpbmnmhpknppaaCc1
set_option linter.unusedVariables false
set_option linter.unusedSimpArgs false
namespace Go.Proofs.Ytlpbmnmhpknppaa
open Go.RowKit

section
variable (t : List (List Int)) (a b c d e : List Int)
theorem lost1 : lostN t [a] = changeN t a a := by simp [lostN, lostUp, nxt]
theorem lost2 : lostN t [a, b] = changeN t a b + changeN t b a := by simp [lostN, lostUp, nxt]
theorem lost3 : lostN t [a, b, c] = changeN t a b + changeN t b c + changeN t c a := by simp [lostN, lostUp, nxt]
theorem lost4 : lostN t [a, b, c, d] = changeN t a b + changeN t b c + changeN t c d + changeN t d a := by simp [lostN, lostUp, nxt]
theorem lost5 : lostN t [a, b, c, d, e] = changeN t a b + changeN t b c + changeN t c d + changeN t d e + changeN t e a := by simp [lostN, lostUp, nxt]
end
/-- A ring is one of five forms. -/
theorem ring_forms {list : List (List Int)} (h1 : 1 ≤ list.length) (h5 : list.length ≤ 5) :
    (∃ a, list = [a]) ∨ (∃ a b, list = [a, b]) ∨ (∃ a b c, list = [a, b, c]) ∨ (∃ a b c d, list = [a, b, c, d]) ∨ ∃ a b c d e, list = [a, b, c, d, e] := by
  match list, h1, h5 with
  | [a], _, _ => exact .inl ⟨a, rfl⟩
  | [a, b], _, _ => exact .inr (.inl ⟨a, b, rfl⟩)
  | [a, b, c], _, _ => exact .inr (.inr (.inl ⟨a, b, c, rfl⟩))
  | [a, b, c, d], _, _ => exact .inr (.inr (.inr (.inl ⟨a, b, c, d, rfl⟩)))
  | [a, b, c, d, e], _, _ => exact .inr (.inr (.inr (.inr ⟨a, b, c, d, e, rfl⟩)))
  | _ :: _ :: _ :: _ :: _ :: _ :: _, _, h => simp at h
theorem lost_turn (t : List (List Int)) {list : List (List Int)} (h1 : 1 ≤ list.length) (h5 : list.length ≤ 5) : lostN t (list.drop 1 ++ list.take 1) = lostN t list := by
  rcases ring_forms h1 h5 with ⟨a, rfl⟩ | ⟨a, b, rfl⟩ | ⟨a, b, c, rfl⟩ | ⟨a, b, c, d, rfl⟩ | ⟨a, b, c, d, e, rfl⟩ <;> simp only [List.drop_succ_cons, List.drop_zero, List.take_succ_cons, List.take_zero, List.nil_append, List.cons_append, lost1, lost2, lost3, lost4, lost5] <;> omega
theorem lost_twice {t : List (List Int)} (h : inC t = true) {list : List (List Int)} (h1 : 1 ≤ list.length) (h5 : list.length < 5) : lostN t (list.take 1 ++ list) = lostN t list := by
  rcases ring_forms h1 (by omega) with ⟨a, rfl⟩ | ⟨a, b, rfl⟩ | ⟨a, b, c, rfl⟩ | ⟨a, b, c, d, rfl⟩ | ⟨a, b, c, d, e, rfl⟩
  · simp only [List.take_succ_cons, List.take_zero, List.nil_append, List.cons_append, lost1, lost2, changeN_self h]; omega
  · simp only [List.take_succ_cons, List.take_zero, List.nil_append, List.cons_append, lost2, lost3, changeN_self h]; omega
  · simp only [List.take_succ_cons, List.take_zero, List.nil_append, List.cons_append, lost3, lost4, changeN_self h]; omega
  · simp only [List.take_succ_cons, List.take_zero, List.nil_append, List.cons_append, lost4, lost5, changeN_self h]; omega
  · simp at h5
theorem lost_single {t : List (List Int)} (h : inC t = true) {list : List (List Int)} (h1 : 1 ≤ list.length) : lostN t (list.take 1) = 0 := by
  cases list with
  | nil => simp at h1
  | cons a r => simp only [List.take_succ_cons, List.take_zero, lost1, changeN_self h]
theorem ringB_iff {t : List (List Int)} {list : List (List Int)} : ringB t list = true ↔ (1 ≤ list.length ∧ list.length ≤ 5) ∧ ∀ p ∈ list, fitsB t p = true := by
  simp only [ringB, inB, Bool.and_eq_true, decide_eq_true_eq, List.all_eq_true]
  constructor
  · rintro ⟨h1, h2⟩; exact ⟨by omega, h2⟩
  · rintro ⟨h1, h2⟩; exact ⟨by omega, h2⟩
theorem ringB_inC {t : List (List Int)} {list : List (List Int)} (h : ringB t list = true) : cOk t = true ∧ inC t = true := by
  obtain ⟨⟨h1, -⟩, h2⟩ := ringB_iff.1 h
  cases list with
  | nil => simp at h1
  | cons a r =>
    have := fitsB_ok (h2 a List.mem_cons_self)
    exact ⟨this, (cOk_iff.1 this).2.2.2.1⟩
theorem lostN_bd {t : List (List Int)} {list : List (List Int)} (h : ringB t list = true) : 0 ≤ lostN t list ∧ lostN t list ≤ 25 := by
  have h1 := lostUp_bd (ringB_inC h).2 list list.length
  have h2 := (ringB_iff.1 h).1.2
  unfold lostN
  omega

/-- Orders: all ways to go on from o with d of the numbers below n. -/
def ordL (n : Nat) : Nat → List Int → List (List Int)
  | 0, o => [o]
  | d + 1, o => (List.range n).flatMap fun k => if ((k : Nat) : Int) ∈ o then [] else ordL n d (o ++ [(k : Int)])
def arrL (list : List (List Int)) (o : List Int) : List (List Int) := o.map fun k => list.getD k.toNat []
def betterO (t : List (List Int)) (list : List (List Int)) (b o : List Int) : List Int := if b = [] ∨ lostN t (arrL list o) < lostN t (arrL list b) then o else b
def bestOrd (t : List (List Int)) (list : List (List Int)) : List Int := (ordL list.length (list.length - 1) [0]).foldl (betterO t list) []
def bestOrdF (t : List (List Int)) (list : List (List Int)) : List Int := if ringB t list = true then bestOrd t list else []
/-- An order: distinct numbers below n. -/
def isOrd (n : Nat) (o : List Int) : Prop := o.Nodup ∧ ∀ k ∈ o, 0 ≤ k ∧ k < n
theorem ordL_all (n : Nat) : ∀ (d : Nat) (o : List Int), isOrd n o → ∀ p ∈ ordL n d o, isOrd n p ∧ p.length = o.length + d ∧ p.take o.length = o := by
  intro d
  induction d with
  | zero =>
    intro o h p hp
    simp only [ordL, List.mem_singleton] at hp
    subst hp
    exact ⟨h, by omega, by rw [List.take_length]⟩
  | succ d ih =>
    intro o h p hp
    simp only [ordL, List.mem_flatMap, List.mem_range] at hp
    obtain ⟨k, hk, hp⟩ := hp
    split at hp
    · cases hp
    · rename_i hno
      have h2 : isOrd n (o ++ [(k : Int)]) := by
        refine ⟨?_, fun x hx => ?_⟩
        · rw [List.nodup_append]
          refine ⟨h.1, by simp, fun a ha b hb => ?_⟩
          simp at hb
          subst hb
          intro e
          subst e
          exact hno ha
        · rcases List.mem_append.1 hx with hx | hx
          · exact h.2 x hx
          · simp at hx; omega
      obtain ⟨e1, e2, e3⟩ := ih _ h2 p hp
      refine ⟨e1, by simp at e2; omega, ?_⟩
      have : (p.take (o ++ [(k : Int)]).length).take o.length = o := by rw [e3]; simp
      rwa [List.take_take, show min o.length (o ++ [(k : Int)]).length = o.length by simp] at this
theorem ordL_ne (n : Nat) : ∀ (d : Nat) (o : List Int), o ≠ [] → ∀ p ∈ ordL n d o, p ≠ [] := by
  intro d
  induction d with
  | zero => intro o h p hp; simp only [ordL, List.mem_singleton] at hp; subst hp; exact h
  | succ d ih =>
    intro o h p hp
    simp only [ordL, List.mem_flatMap] at hp
    obtain ⟨k, -, hp⟩ := hp
    split at hp
    · cases hp
    · exact ih _ (by simp) p hp
theorem best_fold (t list : List (List Int)) (os : List (List Int)) (hos : ∀ o ∈ os, o ≠ []) : ∀ b, (os.foldl (betterO t list) b = b ∨ os.foldl (betterO t list) b ∈ os) ∧ (os ≠ [] → os.foldl (betterO t list) b ≠ []) ∧ (b ≠ [] → os.foldl (betterO t list) b ≠ [] ∧ lostN t (arrL list (os.foldl (betterO t list) b)) ≤ lostN t (arrL list b)) ∧ ∀ o ∈ os, lostN t (arrL list (os.foldl (betterO t list) b)) ≤ lostN t (arrL list o) := by
  induction os with
  | nil => intro b; exact ⟨.inl rfl, fun h => absurd rfl h, fun h => ⟨h, Int.le_refl _⟩, fun o h => by cases h⟩
  | cons o r ih =>
    intro b
    obtain ⟨i1, i2, i3, i4⟩ := ih (fun o h => hos o (List.mem_cons_of_mem _ h)) (betterO t list b o)
    have ho := hos o List.mem_cons_self
    have hb : betterO t list b o ≠ [] := by
      unfold betterO
      split
      · exact ho
      · rename_i h; exact fun e => h (.inl e)
    have hbl : lostN t (arrL list (betterO t list b o)) ≤ lostN t (arrL list o) := by
      unfold betterO
      split
      · exact Int.le_refl _
      · rename_i h
        have : ¬ lostN t (arrL list o) < lostN t (arrL list b) := fun e => h (.inr e)
        omega
    obtain ⟨j1, j2⟩ := i3 hb
    refine ⟨?_, fun _ => j1, fun hbn => ⟨j1, ?_⟩, fun p hp => ?_⟩
    · rw [List.foldl_cons]
      rcases i1 with e | e
      · rw [e]
        unfold betterO
        split
        · exact .inr List.mem_cons_self
        · exact .inl rfl
      · exact .inr (List.mem_cons_of_mem _ e)
    · rw [List.foldl_cons]
      refine Int.le_trans j2 ?_
      unfold betterO
      split
      · rename_i h
        rcases h with h | h
        · exact absurd h hbn
        · omega
      · exact Int.le_refl _
    · rw [List.foldl_cons]
      rcases List.mem_cons.1 hp with rfl | hp
      · exact Int.le_trans j2 hbl
      · exact i4 p hp
end Go.Proofs.Ytlpbmnmhpknppaa
