/- Greens of plans, plain: the stage at a second, the movements with green. -/
import Derived.Test.YtckohbjgogbfaaaQc2
set_option linter.unusedVariables false
set_option linter.unusedSimpArgs false
namespace Go.Proofs.Ytckohbjgogbfaaa
open Go.RowKit

section
variable {t : List (List Int)} {ss : List (List Int × Int)} {s : Int} {k i j : Nat}
theorem grAt_ge (h : grOk ss) (hk : k < ss.length) : 5 ≤ grAt ss k := by
  have hx : ss[k]? = some ss[k] := List.getElem?_eq_getElem hk
  have := h _ (List.mem_of_getElem? hx)
  simp only [grAt, List.getD_eq_getElem?_getD, hx, Option.getD_some]
  omega
theorem cycUp_lt (hi : inC t = true) (h : grOk ss) (hk : k < ss.length) : cycUp t ss k + 5 ≤ cycUp t ss (k + 1) := by
  have h1 := grAt_ge h hk
  have h2 := changeN_bd hi (phAt ss k) (phAt ss ((k + 1) % ss.length))
  show _ ≤ cycUp t ss k + (grAt ss k + gapN t ss k)
  unfold gapN
  omega
theorem cycUp_mono (hi : inC t = true) (h : grOk ss) (hij : i ≤ j) (hj : j ≤ ss.length) : cycUp t ss i ≤ cycUp t ss j := by
  induction j with
  | zero => have : i = 0 := by omega
            subst this; exact Int.le_refl _
  | succ j ih =>
    rcases Nat.lt_or_ge j i with hl | hl
    · have : i = j + 1 := by omega
      subst this; exact Int.le_refl _
    · have := ih hl (by omega)
      have := cycUp_lt hi h (t := t) (k := j) (by omega)
      omega

/-- The stage at a second: the last one that has begun. -/
def stg (t : List (List Int)) (ss : List (List Int × Int)) (s : Int) : Nat → Nat
  | 0 => 0
  | k + 1 => if cycUp t ss (k + 1) ≤ s then k + 1 else stg t ss s k
theorem stg_le : stg t ss s k ≤ k := by
  induction k with
  | zero => exact Nat.le_refl _
  | succ k ih => unfold stg; split <;> omega
theorem stg_beg (h0 : 0 ≤ s) : cycUp t ss (stg t ss s k) ≤ s := by
  induction k with
  | zero => exact h0
  | succ k ih =>
    unfold stg
    split
    · assumption
    · exact ih
theorem stg_end (hj : stg t ss s k < j) (hk : j ≤ k) : s < cycUp t ss j := by
  induction k with
  | zero => omega
  | succ k ih =>
    unfold stg at hj
    split at hj
    · omega
    · rename_i hn
      rcases Nat.lt_or_ge j (k + 1) with hl | hl
      · exact ih hj (by omega)
      · have : j = k + 1 := by omega
        subst this; omega
/-- A second lies in one stage alone. -/
theorem stg_of (hi : inC t = true) (h : grOk ss) (hin : i < ss.length) (h1 : cycUp t ss i ≤ s) (h2 : s < cycUp t ss (i + 1)) : stg t ss s (ss.length - 1) = i := by
  have h0 : 0 ≤ s := by have := (cycUp_bd hi h i).1; omega
  have hb := stg_beg (t := t) (ss := ss) (k := ss.length - 1) h0
  have hl := stg_le (t := t) (ss := ss) (s := s) (k := ss.length - 1)
  rcases Nat.lt_trichotomy (stg t ss s (ss.length - 1)) i with hx | hx | hx
  · have := stg_end hx (by omega)
    omega
  · exact hx
  · have := cycUp_mono hi h (t := t) (show i + 1 ≤ stg t ss s (ss.length - 1) by omega) (by omega)
    omega
theorem stg_next (hs : s < cycN t ss) (hn : 0 < ss.length) : s < cycUp t ss (stg t ss s (ss.length - 1) + 1) := by
  have hl := stg_le (t := t) (ss := ss) (s := s) (k := ss.length - 1)
  rcases Nat.lt_or_ge (stg t ss s (ss.length - 1)) (ss.length - 1) with h | h
  · exact stg_end (Nat.lt_succ_self _) (by omega)
  · have : stg t ss s (ss.length - 1) + 1 = ss.length := by omega
    rw [this]; exact hs

/-- The movements with green at a second of stage k. -/
def greenK (t : List (List Int)) (ss : List (List Int × Int)) (s : Int) (k : Nat) : List Int :=
  if s - cycUp t ss k < grAt ss k then phAt ss k else (phAt ss k).filter fun m => decide (m ∈ phAt ss ((k + 1) % ss.length))
def greenN (t : List (List Int)) (ss : List (List Int × Int)) (s : Int) : List Int := greenK t ss s (stg t ss s (ss.length - 1))
theorem greenK_sub {x : Int} (h : x ∈ greenK t ss s k) : x ∈ phAt ss k := by
  unfold greenK at h
  split at h
  · exact h
  · exact (List.mem_filter.1 h).1
theorem greenK_len : (greenK t ss s k).length ≤ (phAt ss k).length := by
  unfold greenK
  split
  · exact Nat.le_refl _
  · exact List.length_filter_le _ _
end
/-- Ascending movements of a row of numbers are those that lie in it. -/
theorem filter_range : ∀ (p : List Int) (lo n : Nat), p.Pairwise (· < ·) → (∀ x ∈ p, (lo : Int) ≤ x ∧ x < (lo + n : Nat)) → ((List.range' lo n).map fun (j : Nat) => (j : Int)).filter (fun x => decide (x ∈ p)) = p
  | p, lo, 0, _, h => by
    cases p with
    | nil => rfl
    | cons x r => have := h x (by simp); omega
  | p, lo, n + 1, hp, h => by
    rw [List.range'_succ, List.map_cons]
    cases p with
    | nil => simp
    | cons x r =>
      obtain ⟨h1, h2⟩ := List.pairwise_cons.1 hp
      have hx := h x (by simp)
      by_cases he : x = lo
      · subst he
        rw [List.filter_cons_of_pos (by simp)]
        have hr := filter_range r (lo + 1) n h2 (fun y hy => ⟨by have := h1 y hy; omega, by have := (h y (by simp [hy])).2; omega⟩)
        congr 1
        refine Eq.trans (List.filter_congr fun y hy => ?_) hr
        obtain ⟨j, hj, rfl⟩ := List.mem_map.1 hy
        have := (List.mem_range'_1.1 hj).1
        simp only [List.mem_cons, decide_eq_decide]
        constructor
        · rintro (h9 | h9)
          · omega
          · exact h9
        · exact .inr
      · have hgt : (lo : Int) < x := by omega
        rw [List.filter_cons_of_neg]
        · exact filter_range (x :: r) (lo + 1) n hp (fun y hy => by
            rcases List.mem_cons.1 hy with rfl | hy'
            · exact ⟨by omega, by omega⟩
            · have := h1 y hy'
              have := (h y hy).2
              exact ⟨by omega, by omega⟩)
        · simp only [List.mem_cons, decide_eq_true_eq, not_or]
          exact ⟨by omega, fun h9 => by have := h1 _ h9; omega⟩
end Go.Proofs.Ytckohbjgogbfaaa
