/- Plain facts on panels. -/
import Derived.Test.YtbekpfaghimmeaaW2
set_option linter.unusedVariables false
set_option linter.unusedSimpArgs false
namespace Go.Proofs.Ytbekpfaghimmeaa

theorem Pn.ok_iff (m f : Int) (mv op : Bool) : Pn.ok ⟨m, f, mv, op⟩ = true ↔ (0 ≤ m ∧ m ≤ 2 ∧ 0 ≤ f ∧ f ≤ 15 ∧ (mv = true → op = false ∧ m ≠ 2)) := by
  cases mv <;> cases op <;> simp [Pn.ok, inB] <;> omega

theorem press_ok (m f : Int) (mv op : Bool) (ev : Int) (h : Pn.ok ⟨m, f, mv, op⟩ = true) : (pressV ⟨m, f, mv, op⟩ ev).ok = true := by
  rw [pressV, if_pos h]
  rw [Pn.ok_iff] at h
  obtain ⟨h1, h2, h3, h4, h5⟩ := h
  unfold pressP tickP
  rcases (show f = 0 ∨ 1 ≤ f from by omega) with hf | hf
  · subst hf
    repeat' split
    all_goals (rw [Pn.ok_iff]; cases mv <;> cases op <;> simp_all <;> omega)
  · repeat' split
    all_goals (rw [Pn.ok_iff]; cases mv <;> cases op <;> simp_all <;> omega)

theorem press_door (m f : Int) (mv op : Bool) (ev : Int) (h : Pn.ok ⟨m, f, mv, op⟩ = true) :
    ((pressV ⟨m, f, mv, op⟩ ev).mv = true → (pressV ⟨m, f, mv, op⟩ ev).op = false) ∧ ((pressV ⟨m, f, mv, op⟩ ev).op = true → (pressV ⟨m, f, mv, op⟩ ev).f = f) := by
  rw [pressV, if_pos h]
  rw [Pn.ok_iff] at h
  obtain ⟨h1, h2, h3, h4, h5⟩ := h
  unfold pressP tickP
  repeat' split
  all_goals (cases mv <;> cases op <;> simp_all <;> omega)

theorem press_fire (f : Int) (mv op : Bool) (ev : Int) (h : Pn.ok ⟨1, f, mv, op⟩ = true) (h2 : ev ≠ 2) (h3 : ev ≠ 3) :
    (pressV ⟨1, f, mv, op⟩ ev).m = 1 ∧ (pressV ⟨1, f, mv, op⟩ ev).f ≤ f ∧ (op = true → (pressV ⟨1, f, mv, op⟩ ev).f = f) := by
  rw [pressV, if_pos h]
  rw [Pn.ok_iff] at h
  obtain ⟨h1, h2, h3, h4, h5⟩ := h
  unfold pressP tickP
  repeat' split
  all_goals (cases mv <;> cases op <;> simp_all <;> omega)

theorem press_twice (m f : Int) (mv op : Bool) (h : Pn.ok ⟨m, f, mv, op⟩ = true) :
    pressV (pressV ⟨m, f, mv, op⟩ 6) 6 = ⟨m, f, mv, op⟩ ∧ pressV (pressV ⟨m, f, mv, op⟩ 2) 2 = pressV ⟨m, f, mv, op⟩ 2 := by
  have a := press_ok m f mv op 6 h
  have b := press_ok m f mv op 2 h
  have e1 : pressV ⟨m, f, mv, op⟩ 6 = pressP ⟨m, f, mv, op⟩ 6 := by rw [pressV, if_pos h]
  have e2 : pressV ⟨m, f, mv, op⟩ 2 = pressP ⟨m, f, mv, op⟩ 2 := by rw [pressV, if_pos h]
  have e3 : ∀ p : Pn, p.ok = true → ∀ ev, pressV p ev = pressP p ev := fun p hp ev => by rw [pressV, if_pos hp]
  rw [e3 _ a, e3 _ b, e1, e2]
  constructor
  · simp only [pressP]
    cases mv <;> cases op <;> by_cases hm : m = 1 <;> simp [hm]
  · simp only [pressP]
    cases mv <;> simp

/-- A car that was started at floor f is at the top after 15 ticks. -/
def tickN : Nat → Pn → Pn
  | 0, p => p
  | k + 1, p => tickN k (pressV p 4)

theorem tick_up (f : Int) (h0 : 0 ≤ f) (h1 : f < 15) : pressV ⟨0, f, true, false⟩ 4 = ⟨0, f + 1, decide (f + 1 < 15), false⟩ := by
  have hk : Pn.ok ⟨0, f, true, false⟩ = true := by rw [Pn.ok_iff]; simp; omega
  have e : min (f + 1) 15 = f + 1 := by omega
  rw [pressV, if_pos hk]
  simp [pressP, tickP, e]
theorem tick_top : pressV ⟨0, 15, false, false⟩ 4 = ⟨0, 15, false, false⟩ := rfl
theorem start_up (f : Int) (h0 : 0 ≤ f) (h1 : f ≤ 15) : pressV ⟨0, f, false, false⟩ 5 = ⟨0, f, decide (f < 15), false⟩ := by
  have hk : Pn.ok ⟨0, f, false, false⟩ = true := by rw [Pn.ok_iff]; simp; omega
  rw [pressV, if_pos hk]
  by_cases hf : f < 15 <;> simp [pressP, hf]
/-- Where the car is after k of the 15 ticks. -/
theorem tick_step (f : Int) (h0 : 0 ≤ f) (h1 : f ≤ 15) (k : Nat) :
    pressV ⟨0, min (f + k) 15, decide (min (f + k) 15 < 15), false⟩ 4 = ⟨0, min (f + (k + 1 : Nat)) 15, decide (min (f + (k + 1 : Nat)) 15 < 15), false⟩ := by
  by_cases hk : f + k < 15
  · have e : min (f + k) 15 = f + k := by omega
    have e2 : min (f + (k + 1 : Nat)) 15 = f + k + 1 := by omega
    rw [e, e2]
    have : decide (f + (k : Int) < 15) = true := by simpa using hk
    rw [this]
    exact tick_up _ (by omega) hk
  · have e : min (f + k) 15 = 15 := by omega
    have e2 : min (f + (k + 1 : Nat)) 15 = 15 := by omega
    rw [e, e2]
    exact tick_top
end Go.Proofs.Ytbekpfaghimmeaa
