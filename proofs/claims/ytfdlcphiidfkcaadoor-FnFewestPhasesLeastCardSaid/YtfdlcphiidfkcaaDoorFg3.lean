/- Fewest phases, plain: the program's search and the reference's find the same. -/
import Derived.Test.YtfdlcphiidfkcaaDoorFg1
set_option linter.unusedVariables false
set_option linter.unusedSimpArgs false
namespace Go.Proofs.YtfdlcphiidfkcaaDoor
open Go.RowKit

section
variable {α β : Type}
/-- The first number of phases up to c with which some choice covers. -/
def fewC (Z : List (α × List Int)) (m : Nat) : Nat → Option (List (α × List Int))
  | 0 => none
  | c + 1 => match fewC Z m c with
    | some o => some o
    | none => cwP Z m (c + 1)
theorem fewC_map (g : α → β) (Z : List (α × List Int)) (m : Nat) : ∀ c : Nat, fewC (Z.map fun p => (g p.1, p.2)) m c = (fewC Z m c).map (List.map fun p => (g p.1, p.2))
  | 0 => rfl
  | c + 1 => by
    rw [fewC, fewC, fewC_map g Z m c, cwP_map]
    cases fewC Z m c <;> rfl
theorem fewC_stay {Z : List (α × List Int)} {m c d : Nat} {O : List (α × List Int)} (h : fewC Z m c = some O) (hd : c ≤ d) : fewC Z m d = some O := by
  induction d with
  | zero => have : c = 0 := by omega
            subst this; exact h
  | succ d ih =>
    rcases Nat.lt_or_ge d c with hl | hl
    · have : c = d + 1 := by omega
      subst this; exact h
    · rw [fewC, ih hl]
theorem fewC_none {Z : List (α × List Int)} {m c : Nat} (h : ∀ k, 1 ≤ k → k ≤ c → cwP Z m k = none) : fewC Z m c = none := by
  induction c with
  | zero => rfl
  | succ c ih => rw [fewC, ih (fun k h1 h2 => h k h1 (by omega)), h (c + 1) (by omega) (Nat.le_refl _)]
end
def unitZ (F : List (List Int)) : List (Unit × List Int) := F.map fun r => ((), r)
/-- What FewestPhases returns. -/
def fewL (t : List (List Bool)) : List (List Int) :=
  if (fullL t).length = 0 ∨ 12 < (fullL t).length then [] else match fewC (unitZ (fullL t)) (2 ^ t.length - 1) (fullL t).length with
    | some o => o.map Prod.snd
    | none => []
theorem unit_of {α : Type} (Z : List (α × List Int)) : (Z.map fun p => ((), p.2)) = unitZ (Z.map Prod.snd) := by
  simp [unitZ, Function.comp_def]
theorem fewL_of {α : Type} {t : List (List Bool)} {Z : List (α × List Int)} (hz : Z.map Prod.snd = fullL t) (h0 : ¬ ((fullL t).length = 0 ∨ 12 < (fullL t).length)) : fewL t = match fewC Z (2 ^ t.length - 1) (fullL t).length with
    | some o => o.map Prod.snd
    | none => [] := by
  rw [fewL, if_neg h0, ← hz, ← unit_of, fewC_map (fun _ => ())]
  rw [hz]
  cases fewC Z (2 ^ t.length - 1) (fullL t).length with
  | none => rfl
  | some o => simp [Function.comp_def]

/-- The phases with their numbers. -/
def numZ (F : List (List Int)) : List (Int × List Int) := (List.range F.length).map fun (i : Nat) => ((i : Int), F.getD i [])
theorem numZ_snd (F : List (List Int)) : (numZ F).map Prod.snd = F := by
  apply List.ext_getElem
  · simp [numZ]
  · intro i h1 h2
    simp [numZ, List.getD_eq_getElem?_getD, List.getElem?_eq_getElem h2]
theorem numZ_fst (F : List (List Int)) : (numZ F).map Prod.fst = (List.range F.length).map fun (i : Nat) => (i : Int) := by
  simp [numZ, Function.comp_def]
theorem numZ_asc (F : List (List Int)) : ((numZ F).map Prod.fst).Pairwise (· < ·) := by
  rw [numZ_fst, List.pairwise_map]
  exact List.pairwise_lt_range.imp fun h => by omega
theorem numZ_mem {F : List (List Int)} {p : Int × List Int} (h : p ∈ numZ F) : ∃ i : Nat, i < F.length ∧ p.1 = i ∧ p.2 = F.getD i [] := by
  obtain ⟨i, hi, rfl⟩ := List.mem_map.1 h
  exact ⟨i, List.mem_range.1 hi, rfl, rfl⟩
def rowsAt (F : List (List Int)) (p : List Int) : List (List Int) := p.map fun x => F.getD x.toNat []
theorem rows_of {F : List (List Int)} {S : List (Int × List Int)} (h : S.Sublist (numZ F)) : rowsAt F (S.map Prod.fst) = S.map Prod.snd := by
  rw [rowsAt, List.map_map]
  refine List.map_congr_left fun p hp => ?_
  obtain ⟨i, -, e1, e2⟩ := numZ_mem (h.subset hp)
  simp [e1, e2]
/-- A set of numbers of phases as a choice. -/
def pickZ (F : List (List Int)) (M : Nat) : List (Int × List Int) := (numZ F).filter fun p => M.testBit p.1.toNat
theorem pickZ_sub (F : List (List Int)) (M : Nat) : (pickZ F M).Sublist (numZ F) := List.filter_sublist
theorem pickZ_fst (F : List (List Int)) (M : Nat) : (pickZ F M).map Prod.fst = movesN F.length M := by
  unfold pickZ numZ movesN
  rw [List.filter_map, List.map_map]
  simp [Function.comp_def]
/-- Each choice is one of a set. -/
theorem pick_of {F : List (List Int)} {S : List (Int × List Int)} (h : S.Sublist (numZ F)) : ∃ M, M < 2 ^ F.length ∧ S = pickZ F M := by
  refine ⟨setN (S.map Prod.fst) F.length, setN_lt _ _, ?_⟩
  have hasc := numZ_asc F
  have hbit : ∀ p ∈ numZ F, (setN (S.map Prod.fst) F.length).testBit p.1.toNat = decide (p ∈ S) := fun p hp => by
    obtain ⟨i, hi, e1, e2⟩ := numZ_mem hp
    rw [setN_bit, e1]
    simp only [Int.toNat_natCast, decide_eq_true hi, Bool.true_and, decide_eq_decide]
    constructor
    · intro hm
      obtain ⟨q, hq, e3⟩ := List.mem_map.1 hm
      obtain ⟨j, hj, e4, e5⟩ := numZ_mem (h.subset hq)
      have : j = i := by omega
      subst this
      have : q = p := Prod.ext (by rw [e4, e1]) (by rw [e5, e2])
      rw [← this]; exact hq
    · intro hm
      exact List.mem_map.2 ⟨p, hm, e1⟩
  unfold pickZ
  rw [List.filter_congr hbit]
  have hnd : (numZ F).Nodup := by
    rw [List.pairwise_map] at hasc
    exact hasc.imp fun h e => by rw [e] at h; omega
  clear hbit hasc
  generalize numZ F = Z at h hnd
  induction h with
  | slnil => rfl
  | @cons l1 l2 a hs ih =>
    rw [List.nodup_cons] at hnd
    rw [List.filter_cons_of_neg (by simpa using fun hm => hnd.1 (hs.subset hm))]
    exact ih hnd.2
  | @cons_cons l1 l2 a hs ih =>
    rw [List.nodup_cons] at hnd
    rw [List.filter_cons_of_pos (by simp)]
    congr 1
    refine (ih hnd.2).trans (List.filter_congr fun p hp => ?_)
    simp only [List.mem_cons, decide_eq_decide]
    exact ⟨.inr, fun h => h.resolve_left fun e => hnd.1 (e ▸ hp)⟩

/-- The reference's choice: better is fewer, then ahead. -/
def betterB (p b : List Int) : Bool := decide (b.length = 0) || decide (p.length < b.length) || (decide (p.length = b.length) && lessL p b)
def bestF (n : Nat) (F : List (List Int)) : Nat → List Int
  | 0 => []
  | M + 1 => if (decide (1 ≤ M) && coverB n (rowsAt F (movesN F.length M)) && betterB (movesN F.length M) (bestF n F M)) = true then movesN F.length M else bestF n F M

section
variable {n : Nat} {F : List (List Int)}
/-- Good: covers, not worse than what was seen. -/
theorem best_spec (hc0 : coverB n [] = false) (M : Nat) (hM : M ≤ 2 ^ F.length) :
    (∃ b, 1 ≤ b ∧ b < M ∧ coverB n (rowsAt F (movesN F.length b)) = true) →
    (∃ b, 1 ≤ b ∧ b < M ∧ bestF n F M = movesN F.length b ∧ coverB n (rowsAt F (movesN F.length b)) = true) ∧
    ∀ b, 1 ≤ b → b < M → coverB n (rowsAt F (movesN F.length b)) = true → (bestF n F M).length < (movesN F.length b).length ∨ ((bestF n F M).length = (movesN F.length b).length ∧ lessL (movesN F.length b) (bestF n F M) = false) := by
  induction M with
  | zero => rintro ⟨b, h1, h2, -⟩; omega
  | succ M ih =>
    have hne : ∀ b, coverB n (rowsAt F (movesN F.length b)) = true → (movesN F.length b).length ≠ 0 := fun b hb h0 => by
      have := List.eq_nil_of_length_eq_zero h0
      rw [this] at hb
      rw [show rowsAt F [] = [] from rfl, hc0] at hb
      cases hb
    rintro ⟨b0, h1, h2, h3⟩
    have hstep : bestF n F (M + 1) = if (decide (1 ≤ M) && coverB n (rowsAt F (movesN F.length M)) && betterB (movesN F.length M) (bestF n F M)) = true then movesN F.length M else bestF n F M := rfl
    by_cases hex : ∃ b, 1 ≤ b ∧ b < M ∧ coverB n (rowsAt F (movesN F.length b)) = true
    · obtain ⟨⟨b, g1, g2, g3, g4⟩, g5⟩ := ih (by omega) hex
      split at hstep
      · rename_i hb
        simp only [Bool.and_eq_true, decide_eq_true_eq] at hb
        obtain ⟨⟨k1, k2⟩, k3⟩ := hb
        refine ⟨⟨M, k1, by omega, hstep, k2⟩, fun d d1 d2 d3 => ?_⟩
        rw [hstep]
        simp only [betterB, Bool.or_eq_true, Bool.and_eq_true, decide_eq_true_eq] at k3
        rcases Nat.lt_or_ge d M with hl | hl
        · have h0 := hne b g4
          rw [← g3] at h0
          rcases g5 d d1 hl d3 with e | ⟨e, e2⟩
          · rcases k3 with (k | k) | ⟨k, k'⟩
            · exact absurd k h0
            · left; omega
            · left; omega
          · rcases k3 with (k | k) | ⟨k, k'⟩
            · exact absurd k h0
            · left; omega
            · right
              exact ⟨by omega, lessL_trans (lessL_asym k') e2⟩
        · have : d = M := by omega
          subst this
          exact .inr ⟨rfl, lessL_irr _⟩
      · rename_i hb
        refine ⟨⟨b, g1, by omega, by rw [hstep]; exact g3, g4⟩, fun d d1 d2 d3 => ?_⟩
        rw [hstep]
        rcases Nat.lt_or_ge d M with hl | hl
        · exact g5 d d1 hl d3
        · have : d = M := by omega
          subst this
          simp only [betterB, Bool.and_eq_true, Bool.or_eq_true, decide_eq_true_eq, not_and, not_or, d3, true_and, and_true] at hb
          have h7 := hb d1
          obtain ⟨⟨h8, h9⟩, h10⟩ := h7
          rcases Nat.lt_or_ge (bestF n F d).length (movesN F.length d).length with hl2 | hl2
          · exact .inl hl2
          · right
            have he : (movesN F.length d).length = (bestF n F d).length := by omega
            exact ⟨he.symm, by simpa using h10 he⟩
    · have hb0 : b0 = M := by
        rcases Nat.lt_or_ge b0 M with h | h
        · exact absurd ⟨b0, h1, h, h3⟩ hex
        · omega
      subst hb0
      have hbest : ∀ K, K ≤ b0 → bestF n F K = [] := fun K hK => by
        induction K with
        | zero => rfl
        | succ K ihK =>
          have : bestF n F (K + 1) = if (decide (1 ≤ K) && coverB n (rowsAt F (movesN F.length K)) && betterB (movesN F.length K) (bestF n F K)) = true then movesN F.length K else bestF n F K := rfl
          rw [this, if_neg, ihK (by omega)]
          intro hh
          simp only [Bool.and_eq_true, decide_eq_true_eq] at hh
          exact hex ⟨K, hh.1.1, by omega, hh.1.2⟩
      have hgo : (decide (1 ≤ b0) && coverB n (rowsAt F (movesN F.length b0)) && betterB (movesN F.length b0) (bestF n F b0)) = true := by
        rw [hbest b0 (Nat.le_refl _), h3, decide_eq_true h1]; rfl
      rw [if_pos hgo] at hstep
      refine ⟨⟨b0, h1, by omega, hstep, h3⟩, fun d d1 d2 d3 => ?_⟩
      rw [hstep]
      have : d = b0 := by
        rcases Nat.lt_or_ge d b0 with h | h
        · exact absurd ⟨d, d1, h, d3⟩ hex
        · omega
      subst this
      exact .inr ⟨rfl, lessL_irr _⟩
end

theorem few_first {t : List (List Bool)} (ht : tOk t = true) (h12 : (fullL t).length ≤ 12) :
    ∃ O, fewC (numZ (fullL t)) (2 ^ t.length - 1) (fullL t).length = some O ∧ O.Sublist (numZ (fullL t)) ∧ 1 ≤ O.length ∧ coverB t.length (O.map Prod.snd) = true ∧
      ∀ S : List (Int × List Int), S.Sublist (numZ (fullL t)) → coverB t.length (S.map Prod.snd) = true → O.length < S.length ∨ (O.length = S.length ∧ lessL (S.map Prod.fst) (O.map Prod.fst) = false) := by
  obtain ⟨F, hF⟩ : ∃ F, fullL t = F := ⟨_, rfl⟩
  have hin : ∀ p ∈ numZ F, ∀ x ∈ p.2, 0 ≤ x := fun p hp x hx => by
    obtain ⟨i, hi, -, e2⟩ := numZ_mem hp
    rw [List.getD_eq_getElem?_getD, List.getElem?_eq_getElem hi, Option.getD_some] at e2
    exact (full_in ht (ph := p.2) (by rw [hF, e2]; exact List.getElem_mem hi) x hx).1
  have hrc : ∀ S : List (Int × List Int), S.Sublist (numZ F) → (rem (2 ^ t.length - 1) S = 0 ↔ coverB t.length (S.map Prod.snd) = true) := fun S hS => rem_cover fun p hp => hin p (hS.subset hp)
  have hall : coverB t.length ((numZ F).map Prod.snd) = true := by
    rw [numZ_snd]
    simp only [coverB, List.all_eq_true, List.mem_range, List.any_eq_true, decide_eq_true_eq]
    intro m hm
    obtain ⟨p, hp, hmp⟩ := full_cover ht hm
    exact ⟨p, by rw [← hF]; exact hp, hmp⟩
  rw [hF]
  have hlen : (numZ F).length = F.length := by simp [numZ]
  have hm0 : 2 ^ t.length - 1 ≠ 0 := by
    have h1 := (tOk_iff.1 ht).1
    have : 2 ^ 1 ≤ 2 ^ t.length := Nat.pow_le_pow_right (by omega) h1
    omega
  -- the least number of phases that cover
  have hmin : ∃ c, (∃ S : List (Int × List Int), S.Sublist (numZ F) ∧ S.length = c ∧ coverB t.length (S.map Prod.snd) = true) ∧ ∀ S : List (Int × List Int), S.Sublist (numZ F) → coverB t.length (S.map Prod.snd) = true → c ≤ S.length := by
    have key : ∀ d, (∃ S : List (Int × List Int), S.Sublist (numZ F) ∧ S.length ≤ d ∧ coverB t.length (S.map Prod.snd) = true) → ∃ c, (∃ S : List (Int × List Int), S.Sublist (numZ F) ∧ S.length = c ∧ coverB t.length (S.map Prod.snd) = true) ∧ ∀ S : List (Int × List Int), S.Sublist (numZ F) → coverB t.length (S.map Prod.snd) = true → c ≤ S.length := by
      intro d
      induction d with
      | zero =>
        rintro ⟨S, h1, h2, h3⟩
        exact ⟨0, ⟨S, h1, by omega, h3⟩, fun _ _ _ => Nat.zero_le _⟩
      | succ d ih =>
        rintro ⟨S, h1, h2, h3⟩
        by_cases hs : ∃ S : List (Int × List Int), S.Sublist (numZ F) ∧ S.length ≤ d ∧ coverB t.length (S.map Prod.snd) = true
        · exact ih hs
        · refine ⟨d + 1, ⟨S, h1, ?_, h3⟩, fun S' h4 h5 => ?_⟩
          · rcases Nat.lt_or_ge d S.length with h | h
            · omega
            · exact absurd ⟨S, h1, h, h3⟩ hs
          · rcases Nat.lt_or_ge d S'.length with h | h
            · omega
            · exact absurd ⟨S', h4, h, h5⟩ hs
    exact key _ ⟨_, List.Sublist.refl _, Nat.le_refl _, hall⟩
  obtain ⟨c, ⟨S0, s1, s2, s3⟩, hcm⟩ := hmin
  have hc1 : 1 ≤ c := by
    rcases Nat.eq_zero_or_pos c with h | h
    · subst h
      have : S0 = [] := List.eq_nil_of_length_eq_zero s2
      subst this
      exact absurd ((hrc [] (List.nil_sublist _)).2 s3) hm0
    · exact h
  have hcl : c ≤ F.length := by
    have := hcm _ (List.Sublist.refl _) hall
    omega
  have hno : ∀ k, 1 ≤ k → k ≤ c - 1 → cwP (numZ F) (2 ^ t.length - 1) k = none := fun k k1 k2 => by
    cases hk : cwP (numZ F) (2 ^ t.length - 1) k with
    | none => rfl
    | some o =>
      obtain ⟨g1, g2, g3, g4⟩ := cwP_sound hk
      have := hcm o g1 ((hrc o g1).1 g4)
      omega
  have htight : ∀ S : List (Int × List Int), S.Sublist (numZ F) → S.length = c → Tight (2 ^ t.length - 1) S := fun S hS hl k hk h0 => by
    have hs := (List.take_sublist k S).trans hS
    have := hcm _ hs ((hrc _ hs).1 h0)
    rw [List.length_take] at this
    omega
  obtain ⟨O, hO, hle⟩ := cwP_first (numZ_asc F) s1 s2 ((hrc S0 s1).2 s3) (htight S0 s1 s2) (by omega)
  obtain ⟨g1, g2, g3, g4⟩ := cwP_sound hO
  have hfc : fewC (numZ F) (2 ^ t.length - 1) c = some O := by
    obtain ⟨c', rfl⟩ : ∃ c', c = c' + 1 := ⟨c - 1, by omega⟩
    rw [fewC, fewC_none (by simpa using hno)]
    exact hO
  refine ⟨O, fewC_stay hfc hcl, g1, by omega, (hrc O g1).1 g4, fun S hS hcS => ?_⟩
  have h1 := hcm S hS hcS
  rcases Nat.lt_or_ge c S.length with h | h
  · left; omega
  · right
    have hl : S.length = c := by omega
    obtain ⟨O2, hO2, hle2⟩ := cwP_first (numZ_asc F) hS hl ((hrc S hS).2 hcS) (htight S hS hl) (by omega)
    rw [hO] at hO2
    injection hO2 with hO2
    subst hO2
    exact ⟨by omega, hle2⟩

/-- The reference's choice is the program's. -/
theorem best_few {t : List (List Bool)} (ht : tOk t = true) (h12 : (fullL t).length ≤ 12) : rowsAt (fullL t) (bestF t.length (fullL t) (2 ^ (fullL t).length)) = fewL t := by
  obtain ⟨O, hO, hs, h1, hc, hmin⟩ := few_first ht h12
  have hpos : ¬ ((fullL t).length = 0 ∨ 12 < (fullL t).length) := by
    rintro (h | h)
    · have h2 := hs.length_le
      have h3 : (numZ (fullL t)).length = (fullL t).length := by simp [numZ]
      omega
    · omega
  have hfew : fewL t = O.map Prod.snd := by
    rw [fewL_of (numZ_snd _) hpos, hO]
  have hc0 : coverB t.length [] = false := by
    rw [coverB, List.all_eq_false]
    exact ⟨0, by simp; exact (tOk_iff.1 ht).1, by simp⟩
  have hcov : ∀ M, coverB t.length (rowsAt (fullL t) (movesN (fullL t).length M)) = coverB t.length ((pickZ (fullL t) M).map Prod.snd) := fun M => by
    rw [← pickZ_fst, rows_of (pickZ_sub _ _)]
  have hnz : ∀ M, coverB t.length ((pickZ (fullL t) M).map Prod.snd) = true → 1 ≤ M := fun M hM => by
    rcases Nat.eq_zero_or_pos M with h | h
    · subst h
      have : pickZ (fullL t) 0 = [] := by simp [pickZ]
      rw [this, List.map_nil, hc0] at hM
      cases hM
    · exact h
  obtain ⟨M, hM, hOM⟩ := pick_of hs
  have hcM : coverB t.length (rowsAt (fullL t) (movesN (fullL t).length M)) = true := by rw [hcov, ← hOM]; exact hc
  have hM1 : 1 ≤ M := hnz M (by rw [← hOM]; exact hc)
  obtain ⟨⟨b, b1, b2, b3, b4⟩, hb⟩ := best_spec hc0 _ (Nat.le_refl _) ⟨M, hM1, hM, hcM⟩
  have hx := hb M hM1 hM hcM
  have hy := hmin (pickZ (fullL t) b) (pickZ_sub _ _) (by rw [← hcov]; exact b4)
  have hfO : O.map Prod.fst = movesN (fullL t).length M := by rw [hOM, pickZ_fst]
  have hlO : O.length = (movesN (fullL t).length M).length := by rw [← hfO, List.length_map]
  have hlb : (pickZ (fullL t) b).length = (movesN (fullL t).length b).length := by rw [← pickZ_fst, List.length_map]
  rw [b3] at hx
  rw [pickZ_fst, hfO, hlO, hlb] at hy
  have he : movesN (fullL t).length b = movesN (fullL t).length M := by
    rcases hx with hx | ⟨hx1, hx2⟩
    · rcases hy with hy | ⟨hy1, hy2⟩ <;> omega
    · rcases hy with hy | ⟨hy1, hy2⟩
      · omega
      · exact lessL_anti hy2 hx2
  rw [hfew, b3, he, ← hfO, rows_of hs]
end Go.Proofs.YtfdlcphiidfkcaaDoor
