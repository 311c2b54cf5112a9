/- Greens of plans over all seconds, plain: stages that follow each other again and again. -/
import Derived.Test.YtckohbjgogbfaaaQr8
set_option linter.unusedVariables false
set_option linter.unusedSimpArgs false
namespace Go.Proofs.Ytckohbjgogbfaaa
open Go.RowKit

section
variable {t : List (List Int)} {ss : List (List Int × Int)}
/-- The second in which the stage j of the endless row of stages begins. -/
def unr (t : List (List Int)) (ss : List (List Int × Int)) : Nat → Int
  | 0 => 0
  | j + 1 => unr t ss j + (grAt ss (j % ss.length) + gapN t ss (j % ss.length))
theorem unr_step (hi : inC t = true) (h : grOk ss) (hn : 0 < ss.length) (j : Nat) : unr t ss j + 5 ≤ unr t ss (j + 1) := by
  have h1 := grAt_ge h (Nat.mod_lt j hn)
  have h2 := changeN_bd hi (phAt ss (j % ss.length)) (phAt ss ((j % ss.length + 1) % ss.length))
  show _ ≤ unr t ss j + (grAt ss (j % ss.length) + gapN t ss (j % ss.length))
  unfold gapN
  omega
theorem unr_mono (hi : inC t = true) (h : grOk ss) (hn : 0 < ss.length) {i j : Nat} (hij : i ≤ j) : unr t ss i ≤ unr t ss j := by
  induction j with
  | zero => have : i = 0 := by omega
            subst this; exact Int.le_refl _
  | succ j ih =>
    rcases Nat.lt_or_ge j i with hl | hl
    · have : i = j + 1 := by omega
      subst this; exact Int.le_refl _
    · have := ih hl
      have := unr_step hi h hn j
      omega
theorem unr_cyc (c k : Nat) (hk : k ≤ ss.length) : unr t ss (c * ss.length + k) = (c : Int) * cycN t ss + cycUp t ss k := by
  have hz : ∀ c k, (hc : unr t ss (c * ss.length) = (c : Int) * cycN t ss) → k ≤ ss.length → unr t ss (c * ss.length + k) = (c : Int) * cycN t ss + cycUp t ss k := by
    intro c k hc hk
    induction k with
    | zero => rw [Nat.add_zero, hc]; simp [cycUp]
    | succ k ih =>
      have hm : (c * ss.length + k) % ss.length = k := by rw [Nat.mul_comm, Nat.mul_add_mod, Nat.mod_eq_of_lt (by omega)]
      rw [← Nat.add_assoc, unr, hm, ih (by omega), cycUp]
      omega
  have hc : ∀ c : Nat, unr t ss (c * ss.length) = (c : Int) * cycN t ss := by
    intro c
    induction c with
    | zero => simp [unr]
    | succ c ih =>
      rw [Nat.succ_mul, hz c ss.length ih (Nat.le_refl _)]
      show _ + cycN t ss = _
      rw [Int.natCast_succ, Int.add_mul, Int.one_mul]
  exact hz c k (hc c) hk

/-- The movements with green in the stage j of the endless row. -/
def grnJ (t : List (List Int)) (ss : List (List Int × Int)) (s : Int) (j : Nat) : List Int :=
  if s - unr t ss j < grAt ss (j % ss.length) then phAt ss (j % ss.length) else (phAt ss (j % ss.length)).filter fun m => decide (m ∈ phAt ss ((j + 1) % ss.length))
/-- Each second lies in a stage of the endless row. -/
theorem green_unr (hi : inC t = true) (h : grOk ss) (hn : 0 < ss.length) {N : Nat} (hN : cycN t ss = (N : Int)) (s : Nat) :
    ∃ j, unr t ss j ≤ (s : Int) ∧ (s : Int) < unr t ss (j + 1) ∧ greenN t ss ((s % N : Nat) : Int) = grnJ t ss s j := by
  have hN0 : 0 < N := by
    have h1 := cycUp_mono hi h (t := t) (i := 1) (j := ss.length) hn (Nat.le_refl _)
    have h2 := cycUp_lt hi h (t := t) (k := 0) hn
    have h3 : cycUp t ss 0 = 0 := rfl
    have h4 : cycN t ss = cycUp t ss ss.length := rfl
    rw [Nat.zero_add] at h2
    omega
  obtain ⟨r, hr⟩ : ∃ r, s % N = r := ⟨_, rfl⟩
  obtain ⟨c, hc⟩ : ∃ c, s / N = c := ⟨_, rfl⟩
  have hrN : r < N := by rw [← hr]; exact Nat.mod_lt _ hN0
  have hs : (s : Int) = (c : Int) * cycN t ss + r := by
    have := Nat.div_add_mod s N
    rw [hr, hc] at this
    rw [hN, ← this, Int.natCast_add, Int.natCast_mul, Int.mul_comm]
  have hb := stg_beg (t := t) (ss := ss) (s := (r : Int)) (k := ss.length - 1) (by omega)
  have he := stg_next (t := t) (ss := ss) (s := (r : Int)) (by omega) hn
  have hl := stg_le (t := t) (ss := ss) (s := (r : Int)) (k := ss.length - 1)
  obtain ⟨k, hk⟩ : ∃ k, stg t ss (r : Int) (ss.length - 1) = k := ⟨_, rfl⟩
  have hg : greenN t ss (r : Int) = greenK t ss r k := by rw [greenN, hk]
  rw [hk] at hb he hl
  have hkn : k < ss.length := by omega
  have hm : (c * ss.length + k) % ss.length = k := by rw [Nat.mul_comm, Nat.mul_add_mod, Nat.mod_eq_of_lt hkn]
  have hm1 : (c * ss.length + k + 1) % ss.length = (k + 1) % ss.length := by rw [Nat.mul_comm, Nat.add_assoc, Nat.mul_add_mod]
  have e1 := unr_cyc (t := t) c k (Nat.le_of_lt hkn)
  have e2 := unr_cyc (t := t) c (k + 1) hkn
  refine ⟨c * ss.length + k, by omega, by rw [Nat.add_assoc]; omega, ?_⟩
  rw [hr, hg, greenK, grnJ, hm, hm1, e1]
  have : (s : Int) - ((c : Int) * cycN t ss + cycUp t ss k) = (r : Int) - cycUp t ss k := by omega
  rw [this]
theorem grnJ_sub {s : Int} {j : Nat} {x : Int} (h : x ∈ grnJ t ss s j) : x ∈ phAt ss (j % ss.length) := by
  unfold grnJ at h
  split at h
  · exact h
  · exact (List.mem_filter.1 h).1
theorem grnJ_late {s : Int} {j : Nat} {x : Int} (h : x ∈ grnJ t ss s j) (hs : ¬ s - unr t ss j < grAt ss (j % ss.length)) : x ∈ phAt ss ((j + 1) % ss.length) := by
  rw [grnJ, if_neg hs] at h
  simpa using (List.mem_filter.1 h).2

/-- Movements of a phase that fits have no conflict. -/
theorem fits_clear {p : List Int} (h : fitsB t p = true) {x y : Int} (hx : x ∈ p) (hy : y ∈ p) : cAt t x.toNat y.toNat = 0 := by
  have hok := fitsB_ok h
  have hin := fitsB_in h
  obtain ⟨-, -, hsq, hic, hokc⟩ := cOk_iff.1 hok
  have hX := hin x hx
  have hY := hin y hy
  rw [fitsB_yes hok] at h
  simp only [clearB, Bool.and_eq_true, decide_eq_true_eq] at h
  have hz : ∀ a b : Int, a ∈ p → b ∈ p → tAt (conf t) b.toNat a.toNat = false → cAt t b.toNat a.toNat = 0 := fun a b ha hb hab => by
    have h1 := hin a ha
    have h2 := hin b hb
    rw [conf_at hsq (by omega) (by omega)] at hab
    have := (cAt_bd hic b.toNat a.toNat).1
    simp at hab
    omega
  have hzz : ∀ a b : Nat, a < t.length → b < t.length → cAt t a b = 0 → cAt t b a = 0 := fun a b ha hb h0 => by
    have h1 := okC_sym (hokc a b ha hb)
    have := (cAt_bd hic b a).1
    rw [h0] at h1
    simp at h1
    omega
  rcases Classical.em (x = y) with rfl | hne
  · exact okC_irr (hokc _ _ (by omega) (by omega))
  obtain ⟨i, hi⟩ := List.getElem?_of_mem hx
  obtain ⟨j, hj⟩ := List.getElem?_of_mem hy
  have h2 := h.2
  rw [List.pairwise_iff_getElem] at h2
  obtain ⟨l1, e1⟩ := List.getElem?_eq_some_iff.1 hi
  obtain ⟨l2, e2⟩ := List.getElem?_eq_some_iff.1 hj
  rcases Nat.lt_trichotomy i j with hl | he | hg
  · have := h2 i j l1 l2 hl
    rw [e1, e2] at this
    have := hz x y hx hy this
    exact hzz _ _ (by omega) (by omega) this
  · subst he; rw [e1] at e2; exact absurd e2 hne
  · have := h2 j i l2 l1 hg
    rw [e1, e2] at this
    exact hz y x hy hx this

theorem phAt_fits (h : ∀ s ∈ ss, fitsB t s.1 = true) {k : Nat} (hk : k < ss.length) : fitsB t (phAt ss k) = true := by
  have hx : ss[k]? = some ss[k] := List.getElem?_eq_getElem hk
  obtain ⟨e1, -⟩ := phAt_of (ph := ss[k].1) (g := ss[k].2) hx
  rw [e1]
  exact h _ (List.getElem_mem hk)

/-- Clearance is kept: between a green of x and a later one of y more seconds lie than their clearance time says. -/
theorem clear_kept (hpl : planB t ss = true) {N : Nat} (hN : cycN t ss = (N : Int)) {a b : Nat} (hab : a < b) {x y : Int} (hx : x ∈ greenN t ss ((a % N : Nat) : Int)) (hy : y ∈ greenN t ss ((b % N : Nat) : Int)) :
    cAt t x.toNat y.toNat < (b : Int) - a := by
  obtain ⟨p1, p2, p3, p4, p5, p6⟩ := plan_parts hpl rfl rfl
  have hf : ∀ s ∈ ss, fitsB t s.1 = true := fun s hs => ((plan_iff.1 hpl).2.2 s hs).1
  have hn : 0 < ss.length := by omega
  obtain ⟨i, hi1, hi2, hi3⟩ := green_unr p2 p4 hn hN a
  obtain ⟨j, hj1, hj2, hj3⟩ := green_unr p2 p4 hn hN b
  rw [hi3] at hx
  rw [hj3] at hy
  have hxi := grnJ_sub hx
  have hyj := grnJ_sub hy
  have hbd := (cAt_bd p2 x.toNat y.toNat).2
  have hij : i ≤ j := by
    rcases Nat.lt_or_ge j i with h | h
    · have := unr_mono p2 p4 hn (t := t) (show j + 1 ≤ i by omega)
      omega
    · exact h
  rcases Nat.lt_or_ge j (i + 2) with hlt | hge
  · rcases Nat.lt_or_ge i j with h | h
    · obtain rfl : j = i + 1 := by omega
      have hk1 := Nat.mod_lt i hn
      have hk2 := Nat.mod_lt (i + 1) hn
      by_cases h1 : x ∈ phAt ss ((i + 1) % ss.length)
      · rw [fits_clear (phAt_fits hf hk2) h1 hyj]; omega
      · by_cases h2 : y ∈ phAt ss (i % ss.length)
        · rw [fits_clear (phAt_fits hf hk1) hxi h2]; omega
        · have hc := changeN_at hxi hyj h1 h2 (t := t)
          have hlate : (a : Int) - unr t ss i < grAt ss (i % ss.length) := by
            rcases Classical.em ((a : Int) - unr t ss i < grAt ss (i % ss.length)) with h | h
            · exact h
            · exact absurd (grnJ_late hx h) h1
          have hg : gapN t ss (i % ss.length) = changeN t (phAt ss (i % ss.length)) (phAt ss ((i + 1) % ss.length)) := by
            rw [gapN]; congr 2; rw [Nat.mod_add_mod]
          have hu : unr t ss (i + 1) = unr t ss i + (grAt ss (i % ss.length) + gapN t ss (i % ss.length)) := rfl
          rw [hg] at hu
          omega
    · obtain rfl : j = i := by omega
      rw [fits_clear (phAt_fits hf (Nat.mod_lt j hn)) hxi hyj]; omega
  · have h1 := unr_mono p2 p4 hn (t := t) hge
    have h2 := unr_step p2 p4 hn (t := t) (i + 1)
    have h3 : unr t ss (i + 1 + 1) = unr t ss (i + 2) := rfl
    omega
end
end Go.Proofs.Ytckohbjgogbfaaa
