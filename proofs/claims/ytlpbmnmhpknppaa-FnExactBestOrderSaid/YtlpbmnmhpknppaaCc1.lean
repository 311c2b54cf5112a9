/- ChangeTime and LostTime in plain words. -/
import Derived.Test.YtlpbmnmhpknppaaCa1
import Derived.Test.YtlpbmnmhpknppaaPa5
set_option linter.unusedVariables false
set_option linter.unusedSimpArgs false
namespace Go.Proofs.Ytlpbmnmhpknppaa
open Go.RowKit

/-- One pair of movements looked at. -/
def stepC (t : List (List Int)) (fr to : List Int) (a : Int) (m : Int) (b : Int) : Int := if a ∈ to ∨ b ∈ fr then m else max m (cAt t a.toNat b.toNat)
def rowC (t : List (List Int)) (fr to : List Int) (m : Int) (a : Int) : Int := to.foldl (stepC t fr to a) m
def changeN (t : List (List Int)) (fr to : List Int) : Int := fr.foldl (rowC t fr to) 0
/-- A phase that is valid for a table of clearance times. -/
def fitsB (t : List (List Int)) (ph : List Int) : Bool := phaseF (confF t) ph
def changeF (t : List (List Int)) (fr to : List Int) : Int := if (fitsB t fr && fitsB t to) = true then changeN t fr to else -1

theorem foldl_snoc {α β : Type} (f : β → α → β) (z : β) {xs : List α} {k : Nat} {x : α} (h : xs[k]? = some x) : (xs.take (k + 1)).foldl f z = f ((xs.take k).foldl f z) x := by
  rw [take_snoc h, List.foldl_append]; rfl
theorem confF_no' {t : List (List Int)} (h : cOk t = false) : confF t = [] := by simp [confF, h]
theorem confF_yes' {t : List (List Int)} (h : cOk t = true) : confF t = conf t := by simp [confF, h]
theorem fitsB_no {t : List (List Int)} {ph : List Int} (h : cOk t = false) : fitsB t ph = false := by
  rw [fitsB, confF_no' h]; rfl
theorem fitsB_yes {t : List (List Int)} {ph : List Int} (h : cOk t = true) : fitsB t ph = (ascB ph 0 ((t.length : Int) - 1) && clearB (conf t) ph) := by
  rw [fitsB, confF_yes' h, phaseF_yes (conf_ok h), phOk, conf_len]
theorem fitsB_ok {t : List (List Int)} {ph : List Int} (h : fitsB t ph = true) : cOk t = true := by
  cases h2 : cOk t
  · rw [fitsB_no h2] at h; cases h
  · rfl
theorem fitsB_in {t : List (List Int)} {ph : List Int} (h : fitsB t ph = true) : ∀ x ∈ ph, 0 ≤ x ∧ x < t.length := by
  rw [fitsB_yes (fitsB_ok h)] at h
  simp only [Bool.and_eq_true] at h
  exact ascB_all h.1

theorem cAt_bd {t : List (List Int)} (h : inC t = true) (a b : Nat) : 0 ≤ cAt t a b ∧ cAt t a b ≤ 5 := by
  simp only [cAt, List.getD_eq_getElem?_getD]
  cases ha : t[a]? with
  | none => simp
  | some r =>
    simp only [Option.getD_some]
    cases hb : r[b]? with
    | none => simp
    | some x =>
      simp only [Option.getD_some]
      have := allB_all (inC_row h ha) x (List.mem_of_getElem? hb)
      omega
theorem stepC_bd {t : List (List Int)} (h : inC t = true) {fr to : List Int} {a m b : Int} (h0 : 0 ≤ m) (h5 : m ≤ 5) : 0 ≤ stepC t fr to a m b ∧ stepC t fr to a m b ≤ 5 := by
  have := cAt_bd h a.toNat b.toNat
  unfold stepC
  split
  · exact ⟨h0, h5⟩
  · omega
theorem rowC_bd {t : List (List Int)} (h : inC t = true) {fr to : List Int} {a : Int} (xs : List Int) : ∀ {m : Int}, 0 ≤ m → m ≤ 5 → 0 ≤ xs.foldl (stepC t fr to a) m ∧ xs.foldl (stepC t fr to a) m ≤ 5 := by
  induction xs with
  | nil => intro m h0 h5; exact ⟨h0, h5⟩
  | cons x r ih =>
    intro m h0 h5
    have := stepC_bd h (fr := fr) (to := to) (a := a) (b := x) h0 h5
    exact ih this.1 this.2
theorem chg_bd {t : List (List Int)} (h : inC t = true) {fr to : List Int} (xs : List Int) : ∀ {m : Int}, 0 ≤ m → m ≤ 5 → 0 ≤ xs.foldl (rowC t fr to) m ∧ xs.foldl (rowC t fr to) m ≤ 5 := by
  induction xs with
  | nil => intro m h0 h5; exact ⟨h0, h5⟩
  | cons x r ih =>
    intro m h0 h5
    have := rowC_bd h (fr := fr) (to := to) (a := x) to h0 h5
    exact ih this.1 this.2
theorem changeN_bd {t : List (List Int)} (h : inC t = true) (fr to : List Int) : 0 ≤ changeN t fr to ∧ changeN t fr to ≤ 5 := chg_bd h fr (Int.le_refl _) (by omega)

/-- What the change is: an upper bound of every pair, and the least. -/
theorem stepC_ge (t : List (List Int)) (fr to : List Int) (a m b : Int) : m ≤ stepC t fr to a m b := by
  unfold stepC
  split <;> omega
theorem rowC_ge (t : List (List Int)) (fr to : List Int) (a : Int) (xs : List Int) : ∀ m : Int, m ≤ xs.foldl (stepC t fr to a) m := by
  induction xs with
  | nil => intro m; exact Int.le_refl _
  | cons x r ih => intro m; exact Int.le_trans (stepC_ge t fr to a m x) (ih _)
theorem rowC_at (t : List (List Int)) (fr to : List Int) {a b : Int} (ha : a ∉ to) (hb : b ∉ fr) (xs : List Int) : ∀ m : Int, b ∈ xs → cAt t a.toNat b.toNat ≤ xs.foldl (stepC t fr to a) m := by
  induction xs with
  | nil => intro m h; cases h
  | cons x r ih =>
    intro m h
    rcases List.mem_cons.1 h with rfl | h
    · refine Int.le_trans ?_ (rowC_ge t fr to a r _)
      unfold stepC
      rw [if_neg (by intro h; rcases h with h | h <;> contradiction)]; omega
    · exact ih _ h
theorem chg_ge (t : List (List Int)) (fr to : List Int) (xs : List Int) : ∀ m : Int, m ≤ xs.foldl (rowC t fr to) m := by
  induction xs with
  | nil => intro m; exact Int.le_refl _
  | cons x r ih => intro m; exact Int.le_trans (rowC_ge t fr to x to m) (ih _)
theorem chg_at (t : List (List Int)) (fr to : List Int) {a b : Int} (ha : a ∉ to) (hb : b ∉ fr) (hbt : b ∈ to) (xs : List Int) : ∀ m : Int, a ∈ xs → cAt t a.toNat b.toNat ≤ xs.foldl (rowC t fr to) m := by
  induction xs with
  | nil => intro m h; cases h
  | cons x r ih =>
    intro m h
    rcases List.mem_cons.1 h with rfl | h
    · exact Int.le_trans (rowC_at t fr to ha hb to m hbt) (chg_ge t fr to r _)
    · exact ih _ h
theorem changeN_at {t : List (List Int)} {fr to : List Int} {a b : Int} (ha : a ∈ fr) (hb : b ∈ to) (h1 : a ∉ to) (h2 : b ∉ fr) : cAt t a.toNat b.toNat ≤ changeN t fr to := chg_at t fr to h1 h2 hb fr 0 ha
theorem stepC_le {t : List (List Int)} {fr to : List Int} {a m b M : Int} (hm : m ≤ M) (h : a ∉ to → b ∉ fr → cAt t a.toNat b.toNat ≤ M) : stepC t fr to a m b ≤ M := by
  unfold stepC
  split
  · exact hm
  · rename_i hn
    have := h (fun h => hn (.inl h)) (fun h => hn (.inr h))
    omega
theorem rowC_le {t : List (List Int)} {fr to : List Int} {a M : Int} (xs : List Int) (h : ∀ b ∈ xs, a ∉ to → b ∉ fr → cAt t a.toNat b.toNat ≤ M) : ∀ m : Int, m ≤ M → xs.foldl (stepC t fr to a) m ≤ M := by
  induction xs with
  | nil => intro m hm; exact hm
  | cons x r ih => intro m hm; exact ih (fun b hb => h b (List.mem_cons_of_mem _ hb)) _ (stepC_le hm (h x List.mem_cons_self))
theorem chg_le {t : List (List Int)} {fr to : List Int} {M : Int} (xs : List Int) (h : ∀ a ∈ xs, ∀ b ∈ to, a ∉ to → b ∉ fr → cAt t a.toNat b.toNat ≤ M) : ∀ m : Int, m ≤ M → xs.foldl (rowC t fr to) m ≤ M := by
  induction xs with
  | nil => intro m hm; exact hm
  | cons x r ih => intro m hm; exact ih (fun a ha => h a (List.mem_cons_of_mem _ ha)) _ (rowC_le to (h x List.mem_cons_self) m hm)
theorem changeN_le {t : List (List Int)} {fr to : List Int} {M : Int} (hM : 0 ≤ M) (h : ∀ a ∈ fr, ∀ b ∈ to, a ∉ to → b ∉ fr → cAt t a.toNat b.toNat ≤ M) : changeN t fr to ≤ M := chg_le fr h 0 hM
theorem changeN_self {t : List (List Int)} (h : inC t = true) (fr : List Int) : changeN t fr fr = 0 := by
  have h1 := (changeN_bd h fr fr).1
  have h2 : changeN t fr fr ≤ 0 := changeN_le (Int.le_refl _) fun a ha b hb h1 h2 => absurd ha h1
  omega
theorem changeN_nil {t : List (List Int)} (h : inC t = true) (fr : List Int) : changeN t fr [] = 0 := by
  have h1 := (changeN_bd h fr []).1
  have h2 : changeN t fr [] ≤ 0 := changeN_le (Int.le_refl _) fun a ha b hb => by cases hb
  omega
/-- Fewer movements need less time. -/
theorem changeN_less {t : List (List Int)} (h : inC t = true) {fr : List Int} {b0 : Int} {to : List Int} (hb : b0 ∉ fr) : changeN t fr to ≤ changeN t fr (b0 :: to) := by
  refine changeN_le (changeN_bd h _ _).1 fun a ha b hbt h1 h2 => ?_
  refine changeN_at ha (List.mem_cons_of_mem _ hbt) (fun h => ?_) h2
  rcases List.mem_cons.1 h with rfl | h
  · exact hb ha
  · exact h1 h

/-- LostTime: each phase with the next one, the last one with the first one. -/
def nxt {α : Type} (xs : List α) (i : Nat) (z : α) : α := xs.getD ((i + 1) % xs.length) z
def lostUp (t : List (List Int)) (list : List (List Int)) : Nat → Int
  | 0 => 0
  | k + 1 => lostUp t list k + changeN t (list.getD k []) (nxt list k [])
def lostN (t : List (List Int)) (list : List (List Int)) : Int := lostUp t list list.length
def ringB (t : List (List Int)) (list : List (List Int)) : Bool := inB list.length 1 5 && list.all (fitsB t)
def lostF (t : List (List Int)) (list : List (List Int)) : Int := if ringB t list = true then lostN t list else -1
theorem lostUp_bd {t : List (List Int)} (h : inC t = true) (list : List (List Int)) (k : Nat) : 0 ≤ lostUp t list k ∧ lostUp t list k ≤ 5 * k := by
  induction k with
  | zero => exact ⟨Int.le_refl _, Int.le_refl _⟩
  | succ k ih =>
    have := changeN_bd h (list.getD k []) (nxt list k [])
    unfold lostUp
    omega
end Go.Proofs.Ytlpbmnmhpknppaa
