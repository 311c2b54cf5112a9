/- Slices of calls; what is a valid call. -/
import Derived.Test.YtillmnhhkhjpkaaSb1
set_option linter.unusedVariables false
set_option linter.unusedSimpArgs false
namespace Go.Proofs.Ytillmnhhkhjpkaa
open Go.RowKit

abbrev CallT := Int × Int × Int
def CLit (c : CallT) : Value := .agg #[.int .i64 c.1, .int .i64 c.2.1, .int .i64 c.2.2]
/-- The slice (A, n, c) of three-cell elements reads as cs, in a block below B. -/
def SlC (w : World) (B : Nat) (A : Option Addr) (n c : Nat) (cs : List CallT) : Prop :=
  cs.length = n ∧ n ≤ c ∧ c ≤ 9223372036854775807 ∧
  (0 < n → ∃ b o, A = some ⟨b, o, none⟩ ∧ b < B ∧ ∀ (j : Nat) (s : CallT), cs[j]? = some s → w.cell? ⟨b, o + j * 3, none⟩ = some (.int .i64 s.1) ∧ w.cell? ⟨b, o + j * 3 + 1, none⟩ = some (.int .i64 s.2.1) ∧ w.cell? ⟨b, o + j * 3 + 2, none⟩ = some (.int .i64 s.2.2))
section
variable {w w' : World} {B B' n c : Nat} {A : Option Addr} {cs : List CallT}
theorem SlC.len (h : SlC w B A n c cs) : cs.length = n := h.1
theorem SlC.cap (h : SlC w B A n c cs) : n ≤ c ∧ c ≤ 9223372036854775807 := ⟨h.2.1, h.2.2.1⟩
theorem SlC.at_ (h : SlC w B A n c cs) {k : Nat} (hk : k < n) : ∃ b o x y z, A = some ⟨b, o, none⟩ ∧ b < B ∧ cs[k]? = some (x, y, z) ∧ w.cell? ⟨b, o + k * 3, none⟩ = some (.int .i64 x) ∧ w.cell? ⟨b, o + k * 3 + 1, none⟩ = some (.int .i64 y) ∧ w.cell? ⟨b, o + k * 3 + 2, none⟩ = some (.int .i64 z) := by
  obtain ⟨h1, _, _, h4⟩ := h
  obtain ⟨b, o, hA, hb, hc⟩ := h4 (by omega)
  have hl : k < cs.length := by omega
  have hx := List.getElem?_eq_getElem hl
  obtain ⟨e1, e2, e3⟩ := hc k _ hx
  exact ⟨b, o, _, _, _, hA, hb, hx, e1, e2, e3⟩
theorem SlC.more (h : SlC w B A n c cs) (hB : B ≤ B') : SlC w B' A n c cs := by
  obtain ⟨h1, h2, h3, h4⟩ := h
  refine ⟨h1, h2, h3, fun hn => ?_⟩
  obtain ⟨b, o, hA, hb, hc⟩ := h4 hn
  exact ⟨b, o, hA, by omega, hc⟩
theorem SlC.keep (h : SlC w B A n c cs) (hk : ∀ b o, b < B → w'.cell? ⟨b, o, none⟩ = w.cell? ⟨b, o, none⟩) : SlC w' B A n c cs := by
  obtain ⟨h1, h2, h3, h4⟩ := h
  refine ⟨h1, h2, h3, fun hn => ?_⟩
  obtain ⟨b, o, hA, hb, hc⟩ := h4 hn
  refine ⟨b, o, hA, hb, fun j s hs => ?_⟩
  rw [hk _ _ hb, hk _ _ hb, hk _ _ hb]
  exact hc j s hs
theorem SlC.below (h : SlC w B A n c cs) (hb : Below B w w') : SlC w' B A n c cs := h.keep fun b i hlt => hb.cell (p := ⟨b, i, none⟩) hlt
theorem SlC.plus (h : SlC w B A n c cs) (hB : B ≤ w.heap.size) (os : Array Obj) (d : Nat) : SlC (plus w os d) B A n c cs := h.keep fun b i hlt => cell?_plus w os d b i (by omega)
theorem SlC.nil (w : World) (B : Nat) : SlC w B none 0 0 [] := ⟨rfl, Nat.le_refl _, by omega, fun h => absurd h (by omega)⟩
theorem SlC.take (h : SlC w B A n c cs) {k : Nat} (hk : k ≤ n) : SlC w B A k c (cs.take k) := by
  obtain ⟨h1, h2, h3, h4⟩ := h
  refine ⟨by rw [List.length_take]; omega, by omega, h3, fun hn => ?_⟩
  obtain ⟨b, o, hA, hb, hc⟩ := h4 (by omega)
  refine ⟨b, o, hA, hb, fun j s hs => ?_⟩
  rw [List.getElem?_take] at hs
  split at hs
  · exact hc j s hs
  · cases hs
end
/-- A valid call, valid calls, valid cars. -/
def okC (c : CallT) : Bool := inB c.1 0 15 && inB c.2.1 0 15 && (c.1 != c.2.1) && inB c.2.2 0 200
def okL (cs : List CallT) : Bool := decide (cs.length ≤ 12) && cs.all okC
def okF (cars : List Int) : Bool := inB cars.length 1 3 && cars.all fun x => inB x 0 15
def okS (cars : List Int) (cs : List CallT) : Bool := okF cars && decide (cs.length ≤ 6) && okL cs
theorem okS_iff {cars : List Int} {cs : List CallT} : okS cars cs = true ↔ (1 ≤ cars.length ∧ cars.length ≤ 3 ∧ ∀ x ∈ cars, 0 ≤ x ∧ x ≤ 15) ∧ cs.length ≤ 6 ∧ ∀ c ∈ cs, (0 ≤ c.1 ∧ c.1 ≤ 15) ∧ (0 ≤ c.2.1 ∧ c.2.1 ≤ 15) ∧ c.1 ≠ c.2.1 ∧ 0 ≤ c.2.2 ∧ c.2.2 ≤ 200 := by
  simp only [okS, okF, okL, okC, inB, Bool.and_eq_true, decide_eq_true_eq, List.all_eq_true, bne_iff_ne, ne_eq]
  constructor
  · rintro ⟨⟨⟨⟨h1, h2⟩, h3⟩, h4⟩, h5, h6⟩
    refine ⟨⟨by omega, by omega, h3⟩, h4, fun c hc => ?_⟩
    obtain ⟨⟨⟨k1, k2⟩, k3⟩, k4⟩ := h6 c hc
    exact ⟨k1, k2, k3, k4⟩
  · rintro ⟨⟨h1, h2, h3⟩, h4, h5⟩
    refine ⟨⟨⟨⟨by omega, by omega⟩, h3⟩, h4⟩, by omega, fun c hc => ?_⟩
    obtain ⟨k1, k2, k3, k4⟩ := h5 c hc
    exact ⟨⟨⟨k1, k2⟩, k3⟩, k4⟩

theorem validFloor_c (x : Int) (w : World) :
    Calls Try.prog 42 #[.int .i64 x] w fun e w' => e = .returned (.bool (inB x 0 15)) ∧ w' = w := by
  go_enter Try.func42, Try.ntmps42
  go_wp2_with (first | (go_at_call 33; refine (within_c _ _ _ _).mono ?_; rintro e w' ⟨rfl, rfl⟩))
  go_ret
  exact ⟨rfl, rfl⟩
theorem validCall_c (x y z : Int) (w : World) :
    Calls Try.prog 38 #[.agg #[.int .i64 x, .int .i64 y, .int .i64 z]] w fun e w' => e = .returned (.bool (okC (x, y, z))) ∧ Below w.heap.size w w' := by
  cases h1 : inB x 0 15 <;> cases h2 : inB y 0 15 <;> cases h3 : (x != y) <;> cases h4 : inB z 0 200
  all_goals
    go_enter Try.func38, Try.ntmps38
    go_wp2_with (first | (go_at_call 33; refine (within_c _ _ _ _).mono ?_; rintro e w' ⟨rfl, rfl⟩) | (go_at_call 42; refine (validFloor_c _ _).mono ?_; rintro e w' ⟨rfl, rfl⟩))
    go_ret
    exact ⟨by simp [okC, h1, h2, h3, h4], by (repeat' (first | (with_reducible exact Below.refl _ _) | (with_reducible assumption) | (with_reducible refine Below.alloc ?_ ?_ _) | (with_reducible refine below_plus ?_ ?_ _ _) | (with_reducible refine Below.drew ?_) | (with_reducible refine Below.setCell ?_ ?_ _) | (with_reducible refine below_adv ?_ ?_ _) | go_size | (simp; done) | (simp; omega)))⟩
theorem sValidCall_c (x y z : Int) (w : World) :
    Calls Try.prog 40 #[.agg #[.int .i64 x, .int .i64 y, .int .i64 z]] w fun e w' => e = .returned (.bool (okC (x, y, z))) ∧ Below w.heap.size w w' := by
  cases h1 : inB x 0 15 <;> cases h2 : inB y 0 15 <;> cases h3 : (x != y) <;> cases h4 : inB z 0 200
  all_goals
    go_enter Try.func40, Try.ntmps40
    go_wp2_with (first | (go_at_call 39; refine (inRange_c _ _ _ _).mono ?_; rintro e w' ⟨rfl, rfl⟩))
    go_ret
    exact ⟨by simp [okC, h1, h2, h3, h4], by (repeat' (first | (with_reducible exact Below.refl _ _) | (with_reducible assumption) | (with_reducible refine Below.alloc ?_ ?_ _) | (with_reducible refine below_plus ?_ ?_ _ _) | (with_reducible refine Below.drew ?_) | (with_reducible refine Below.setCell ?_ ?_ _) | (with_reducible refine below_adv ?_ ?_ _) | go_size | (simp; done) | (simp; omega)))⟩
end Go.Proofs.Ytillmnhhkhjpkaa
