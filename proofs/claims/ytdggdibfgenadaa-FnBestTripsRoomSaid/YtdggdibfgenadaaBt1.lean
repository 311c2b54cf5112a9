/- BestTrips in plain words: the table of the smallest times, the sizes read off it. -/
import Derived.Test.YtdggdibfgenadaaTr4
import Derived.Test.YtdggdibfgenadaaIns
import Derived.Test.YtdggdibfgenadaaEq
set_option linter.unusedVariables false
set_option linter.unusedSimpArgs false
namespace Go.Proofs.Ytdggdibfgenadaa
open Go.RowKit

/-- (first, least) behind the sizes 1..k tried for the persons ys; tl: the table behind the first person. -/
def bAt (ys : List Int) (tl : List (Int × Int)) : Nat → Int × Int
  | 0 => (0, 0)
  | k + 1 => if (bAt ys tl k).1 = 0 ∨ tripN (ys.take (k + 1)) + (tl.getD k (0, 0)).2 < (bAt ys tl k).2 then (((k + 1 : Nat) : Int), tripN (ys.take (k + 1)) + (tl.getD k (0, 0)).2) else bAt ys tl k
/-- The table: (first, least) for the persons from each place on, and (0, 0) behind them. -/
def tabT (room : Nat) : List Int → List (Int × Int)
  | [] => [(0, 0)]
  | y :: r => bAt (y :: r) (tabT room r) (min room (r.length + 1)) :: tabT room r

theorem tabT_len (room : Nat) (ys : List Int) : (tabT room ys).length = ys.length + 1 := by
  induction ys with
  | nil => rfl
  | cons y r ih => simp [tabT, ih]
theorem tabT_drop (room : Nat) (ys : List Int) (i : Nat) (h : i ≤ ys.length) : (tabT room ys).drop i = tabT room (ys.drop i) := by
  induction ys generalizing i with
  | nil =>
    have : i = 0 := by simpa using h
    subst this
    rfl
  | cons y r ih =>
    cases i with
    | zero => rfl
    | succ i => simpa [tabT] using ih i (by simpa using h)
theorem tabT_at (room : Nat) (ys : List Int) {i : Nat} (h : i < ys.length) : (tabT room ys)[i]? = some (bAt (ys.drop i) (tabT room (ys.drop (i + 1))) (min room (ys.length - i))) := by
  have e := tabT_drop room ys i (by omega)
  have e2 : ys.drop i = ys[i] :: ys.drop (i + 1) := List.drop_eq_getElem_cons h
  have e3 : (tabT room ys)[i]? = ((tabT room ys).drop i)[0]? := by rw [List.getElem?_drop]; simp
  rw [e3, e, e2, tabT]
  simp
  rw [show ys.length - (i + 1) + 1 = ys.length - i by omega]
theorem tabT_end (room : Nat) (ys : List Int) : (tabT room ys)[ys.length]? = some (0, 0) := by
  have e := tabT_drop room ys ys.length (Nat.le_refl _)
  have e3 : (tabT room ys)[ys.length]? = ((tabT room ys).drop ys.length)[0]? := by rw [List.getElem?_drop]; simp
  rw [e3, e, List.drop_length]; rfl

/-- What a table's row says of itself. -/
theorem bAt_some (ys : List Int) (tl : List (Int × Int)) {k : Nat} (hk : 1 ≤ k) : ∃ j, j < k ∧ bAt ys tl k = (((j + 1 : Nat) : Int), tripN (ys.take (j + 1)) + (tl.getD j (0, 0)).2) := by
  induction k with
  | zero => omega
  | succ k ih =>
    unfold bAt
    split
    · exact ⟨k, by omega, rfl⟩
    · rename_i h
      rcases Nat.eq_zero_or_pos k with h0 | h0
      · subst h0
        exact absurd (.inl rfl) h
      · obtain ⟨j, hj, e⟩ := ih h0
        exact ⟨j, by omega, e⟩
theorem bAt_first (ys : List Int) (tl : List (Int × Int)) {k : Nat} (hk : 1 ≤ k) : 1 ≤ (bAt ys tl k).1 ∧ (bAt ys tl k).1 ≤ k := by
  obtain ⟨j, hj, e⟩ := bAt_some ys tl hk
  rw [e]
  simp only
  omega
theorem bAt_le (ys : List Int) (tl : List (Int × Int)) {k j : Nat} (hj : j < k) : (bAt ys tl k).2 ≤ tripN (ys.take (j + 1)) + (tl.getD j (0, 0)).2 := by
  induction k with
  | zero => omega
  | succ k ih =>
    unfold bAt
    rcases Nat.lt_or_ge j k with h | h
    · have := ih h
      have hf := (bAt_first ys tl (show 1 ≤ k by omega)).1
      split
      · rename_i h2
        simp only
        rcases h2 with h2 | h2 <;> omega
      · exact this
    · have e : j = k := by omega
      subst e
      split
      · exact Int.le_refl _
      · omega

/-- Bounds of the times. -/
theorem bAt_bd (ys : List Int) (tl : List (Int × Int)) (M : Int) (hM : ∀ j, 0 ≤ (tl.getD j (0, 0)).2 ∧ (tl.getD j (0, 0)).2 ≤ M) (k : Nat) (h0 : 0 ≤ M) : 0 ≤ (bAt ys tl k).2 ∧ (bAt ys tl k).2 ≤ M + 90 := by
  rcases Nat.eq_zero_or_pos k with h | h
  · subst h
    exact ⟨Int.le_refl _, by show (0 : Int) ≤ M + 90; omega⟩
  · obtain ⟨j, hj, e⟩ := bAt_some ys tl h
    have h1 := hM j
    have h2 := tripN_nn (ys.take (j + 1))
    rw [e]
    simp only
    omega
theorem tabT_bd (room : Nat) (ys : List Int) : ∀ j, 0 ≤ ((tabT room ys).getD j (0, 0)).2 ∧ ((tabT room ys).getD j (0, 0)).2 ≤ 90 * ys.length := by
  induction ys with
  | nil =>
    intro j
    cases j with
    | zero => simp [tabT]
    | succ j => simp [tabT]
  | cons y r ih =>
    intro j
    cases j with
    | zero =>
      have := bAt_bd (y :: r) (tabT room r) (90 * r.length) ih (min room (r.length + 1)) (by omega)
      simp only [tabT, List.getD_cons_zero, List.length_cons]
      omega
    | succ j =>
      have := ih j
      simp only [tabT, List.getD_cons_succ, List.length_cons]
      omega

/-- The sizes, read off the table of the persons that are left. -/
def szs : Nat → List (Int × Int) → List Int
  | 0, _ => []
  | fuel + 1, tb => if tb.length ≤ 1 then [] else (tb.getD 0 (0, 0)).1 :: szs fuel (tb.drop (tb.getD 0 (0, 0)).1.toNat)
def bestSizes (room : Nat) (ys : List Int) : List Int := szs ys.length (tabT room ys)
def bestTime (room : Nat) (ys : List Int) : Int := ((tabT room ys).getD 0 (0, 0)).2

theorem tab0 (room : Nat) (hr : 1 ≤ room) {ys : List Int} (h : 0 < ys.length) : ∃ f : Nat, 1 ≤ f ∧ f ≤ room ∧ f ≤ ys.length ∧ (tabT room ys).getD 0 (0, 0) = ((f : Int), tripN (ys.take f) + bestTime room (ys.drop f)) := by
  cases ys with
  | nil => cases h
  | cons y r =>
    obtain ⟨j, hj, e⟩ := bAt_some (y :: r) (tabT room r) (k := min room (r.length + 1)) (by omega)
    refine ⟨j + 1, by omega, by omega, by simp; omega, ?_⟩
    simp only [tabT, List.getD_cons_zero, e]
    congr 2
    simp only [List.drop_succ_cons, bestTime]
    rw [← tabT_drop room r j (by omega), List.getD_eq_getElem?_getD, List.getD_eq_getElem?_getD, List.getElem?_drop]
    simp

theorem bestSizes_nil (room : Nat) : bestSizes room [] = [] := rfl
theorem bestTime_nil (room : Nat) : bestTime room [] = 0 := rfl
theorem szs_fuel (room : Nat) (hr : 1 ≤ room) : ∀ (a b : Nat) (ys : List Int), ys.length ≤ a → ys.length ≤ b → szs a (tabT room ys) = szs b (tabT room ys) := by
  have hnil : ∀ c, szs c (tabT room []) = [] := fun c => by cases c <;> rfl
  intro a
  induction a with
  | zero =>
    intro b ys h _
    have : ys = [] := List.eq_nil_of_length_eq_zero (by omega)
    subst this
    rw [hnil, hnil]
  | succ a ih =>
    intro b ys h hb
    rcases Nat.eq_zero_or_pos ys.length with h0 | h0
    · have : ys = [] := List.eq_nil_of_length_eq_zero h0
      subst this
      rw [hnil, hnil]
    · obtain ⟨b, rfl⟩ : ∃ b', b = b' + 1 := ⟨b - 1, by omega⟩
      obtain ⟨f, hf1, hf2, hf3, e⟩ := tab0 room hr h0
      simp only [szs, tabT_len, e]
      rw [if_neg (by omega), if_neg (by omega)]
      simp only [Int.toNat_natCast]
      rw [tabT_drop room ys f hf3, ih b _ (by simp; omega) (by simp; omega)]
theorem bestSizes_cons (room : Nat) (hr : 1 ≤ room) {ys : List Int} (h : 0 < ys.length) :
    ∃ f : Nat, 1 ≤ f ∧ f ≤ room ∧ f ≤ ys.length ∧ ((tabT room ys).getD 0 (0, 0)).1 = f ∧ bestSizes room ys = (f : Int) :: bestSizes room (ys.drop f) ∧ bestTime room ys = tripN (ys.take f) + bestTime room (ys.drop f) := by
  obtain ⟨f, hf1, hf2, hf3, e⟩ := tab0 room hr h
  refine ⟨f, hf1, hf2, hf3, by rw [e], ?_, by rw [bestTime, e]⟩
  obtain ⟨m, hm⟩ : ∃ m, ys.length = m + 1 := ⟨ys.length - 1, by omega⟩
  unfold bestSizes
  rw [hm]
  simp only [szs, tabT_len, e]
  rw [if_neg (by omega)]
  simp only [Int.toNat_natCast]
  rw [tabT_drop room ys f hf3, szs_fuel room hr m (ys.drop f).length _ (by simp; omega) (Nat.le_refl _)]

/-- What is known of the sizes. -/
theorem bestSizes_all (room : Nat) (hr : 1 ≤ room) : ∀ (m : Nat) (ys : List Int), ys.length ≤ m →
    (∀ s ∈ bestSizes room ys, 1 ≤ s ∧ s ≤ room) ∧ (bestSizes room ys).length ≤ ys.length ∧ sumL (bestSizes room ys) = (ys.length : Int) ∧ ∀ t, tsL ys (bestSizes room ys) t = t + bestTime room ys := by
  intro m
  induction m with
  | zero =>
    intro ys h
    have : ys = [] := List.eq_nil_of_length_eq_zero (by omega)
    subst this
    rw [bestSizes_nil, bestTime_nil]
    exact ⟨fun s hs => (by cases hs), by simp, rfl, fun t => by simp [tsL]⟩
  | succ m ih =>
    intro ys h
    rcases Nat.eq_zero_or_pos ys.length with h0 | h0
    · exact ih ys (by omega)
    · obtain ⟨f, hf1, hf2, hf3, -, e1, e2⟩ := bestSizes_cons room hr h0
      obtain ⟨i1, i2, i3, i4⟩ := ih (ys.drop f) (by simp; omega)
      rw [e1, e2]
      refine ⟨fun s hs => ?_, by simp at i2 ⊢; omega, ?_, fun t => ?_⟩
      · rcases List.mem_cons.1 hs with rfl | hs
        · omega
        · exact i1 s hs
      · rw [sumL, i3]
        simp; omega
      · have hin : inB (f : Int) 1 ys.length = true := by simp [inB]; omega
        rw [tsL, if_pos hin]
        simp only [Int.toNat_natCast]
        rw [i4]
        omega

/-- More room is not worse; single trips are not better. -/
theorem bestTime_cand (room : Nat) {ys : List Int} {j : Nat} (hj : j < min room ys.length) : bestTime room ys ≤ tripN (ys.take (j + 1)) + bestTime room (ys.drop (j + 1)) := by
  cases ys with
  | nil => simp at hj
  | cons y r =>
    have := bAt_le (y :: r) (tabT room r) (k := min room (r.length + 1)) (j := j) (by simpa using hj)
    simp only [bestTime, tabT, List.getD_cons_zero, List.drop_succ_cons]
    rw [← tabT_drop room r j (by simp at hj; omega), List.getD_eq_getElem?_getD (l := List.drop _ _), List.getElem?_drop]
    simpa [List.getD_eq_getElem?_getD] using this
theorem bestTime_room (room : Nat) (hr : 1 ≤ room) : ∀ (m : Nat) (ys : List Int), ys.length ≤ m → bestTime (room + 1) ys ≤ bestTime room ys := by
  intro m
  induction m with
  | zero =>
    intro ys h
    have : ys = [] := List.eq_nil_of_length_eq_zero (by omega)
    subst this
    exact Int.le_refl _
  | succ m ih =>
    intro ys h
    rcases Nat.eq_zero_or_pos ys.length with h0 | h0
    · exact ih ys (by omega)
    · obtain ⟨f, hf1, hf2, hf3, -, -, e2⟩ := bestSizes_cons room hr h0
      rw [e2]
      have h1 := bestTime_cand (room + 1) (ys := ys) (j := f - 1) (by omega)
      rw [show f - 1 + 1 = f by omega] at h1
      have h2 := ih (ys.drop f) (by simp; omega)
      omega
def singles : List Int → Int
  | [] => 0
  | x :: r => tripN [x] + singles r
theorem bestTime_singles (room : Nat) (hr : 1 ≤ room) (ys : List Int) : bestTime room ys ≤ singles ys := by
  induction ys with
  | nil => exact Int.le_refl _
  | cons y r ih =>
    have h1 := bestTime_cand room (ys := y :: r) (j := 0) (by simp; omega)
    simp only [Nat.zero_add, List.take_succ_cons, List.take_zero, List.drop_succ_cons, List.drop_zero] at h1
    simp only [singles]
    omega
theorem singles_perm {xs ys : List Int} (h : xs.Perm ys) : singles xs = singles ys := by
  induction h with
  | nil => rfl
  | cons x _ ih => simp only [singles, ih]
  | swap x y l => simp only [singles]; omega
  | trans _ _ ih1 ih2 => rw [ih1, ih2]
theorem bestTime_nn (room : Nat) (ys : List Int) : 0 ≤ bestTime room ys ∧ bestTime room ys ≤ 90 * ys.length := tabT_bd room ys 0

/-- The persons in ascending order. -/
def sortI (xs : List Int) : List Int := xs.mergeSort (fun a b => decide (a ≤ b))
theorem sortI_perm (xs : List Int) : (sortI xs).Perm xs := List.mergeSort_perm xs _
theorem sortI_sorted (xs : List Int) : (sortI xs).Pairwise (fun a b => a ≤ b) := by
  have := List.pairwise_mergeSort (le := fun a b : Int => decide (a ≤ b)) (fun a b c h1 h2 => by simp at *; omega) (fun a b => by simp; omega) xs
  exact this.imp fun h => by simpa using h
theorem sortI_of {xs ys : List Int} (hp : ys.Perm xs) (hs : ys.Pairwise (fun a b => a ≤ b)) : ys = sortI xs :=
  sorted_unique (fun a b h1 h2 => by omega) (hp.trans (sortI_perm xs).symm) hs (sortI_sorted xs)
theorem sortI_len (xs : List Int) : (sortI xs).length = xs.length := (sortI_perm xs).length_eq
theorem tripOk_perm {xs ys : List Int} (h : xs.Perm ys) : tripOk xs = tripOk ys := by
  have e : ∀ {a b : List Int}, a.Perm b → tripOk a = true → tripOk b = true := fun hp h => by
    have := (tripOk_all h).1
    exact tripOk_of h (by rw [← hp.length_eq]; exact this) fun y hy => hp.symm.subset hy
  cases h1 : tripOk xs <;> cases h2 : tripOk ys
  · rfl
  · have := e h.symm h2; rw [h1] at this; cases this
  · have := e h h1; rw [h2] at this; cases this
  · rfl

/-- What BestTrips returns: nil is the empty list. -/
def bestOk (xs : List Int) (room : Int) : Bool := tripOk xs && inB room 1 5
def bestL (xs : List Int) (room : Int) : List Int := if bestOk xs room = true then bestSizes room.toNat (sortI xs) else []
def bestN (xs : List Int) (room : Int) : Int := if bestOk xs room = true then bestTime room.toNat (sortI xs) else -1
end Go.Proofs.Ytdggdibfgenadaa
