/- My words and contracts, laid together: Cc1, Cc2, Cd1, Cd2, Cd3, Cd4, Cd5. -/
import Derived.Test.YtckohbjgogbfaaaPc
import Derived.Test.YtckohbjgogbfaaaPp
import Derived.Test.YtckohbjgogbfaaaBb
import Derived.StillTailTactics
set_option linter.unusedVariables false
set_option linter.unusedSimpArgs false
/- ChangeTime and LostTime in plain words. -/
namespace Go.Proofs.Ytckohbjgogbfaaa
open Go.RowKit

/-- One pair of movements looked at. -/
def stepC (t : List (List Int)) (fr to : List Int) (a : Int) (m : Int) (b : Int) : Int := if a ∈ to ∨ b ∈ fr then m else max m (cAt t a.toNat b.toNat)
def rowC (t : List (List Int)) (fr to : List Int) (m : Int) (a : Int) : Int := to.foldl (stepC t fr to a) m
def changeN (t : List (List Int)) (fr to : List Int) : Int := fr.foldl (rowC t fr to) 0
/-- A phase that is valid for a table of clearance times. -/
def fitsB (t : List (List Int)) (ph : List Int) : Bool := phaseF (confF t) ph
def changeF (t : List (List Int)) (fr to : List Int) : Int := if (fitsB t fr && fitsB t to) = true then changeN t fr to else -1

theorem foldl_snoc {α β : Type} (f : β → α → β) (z : β) {xs : List α} {k : Nat} {x : α} (h : xs[k]? = some x) : (xs.take (k + 1)).foldl f z = f ((xs.take k).foldl f z) x := by
  rw [take_snoc h, List.foldl_append]; rfl
theorem confF_no' {t : List (List Int)} (h : cOk t = false) : confF t = [] := by simp [confF, h]
theorem confF_yes' {t : List (List Int)} (h : cOk t = true) : confF t = conf t := by simp [confF, h]
theorem fitsB_no {t : List (List Int)} {ph : List Int} (h : cOk t = false) : fitsB t ph = false := by
  rw [fitsB, confF_no' h]; rfl
theorem fitsB_yes {t : List (List Int)} {ph : List Int} (h : cOk t = true) : fitsB t ph = (ascB ph 0 ((t.length : Int) - 1) && clearB (conf t) ph) := by
  rw [fitsB, confF_yes' h, phaseF_yes (conf_ok h), phOk, conf_len]
theorem fitsB_ok {t : List (List Int)} {ph : List Int} (h : fitsB t ph = true) : cOk t = true := by
  cases h2 : cOk t
  · rw [fitsB_no h2] at h; cases h
  · rfl
theorem fitsB_in {t : List (List Int)} {ph : List Int} (h : fitsB t ph = true) : ∀ x ∈ ph, 0 ≤ x ∧ x < t.length := by
  rw [fitsB_yes (fitsB_ok h)] at h
  simp only [Bool.and_eq_true] at h
  exact ascB_all h.1

theorem cAt_bd {t : List (List Int)} (h : inC t = true) (a b : Nat) : 0 ≤ cAt t a b ∧ cAt t a b ≤ 5 := by
  simp only [cAt, List.getD_eq_getElem?_getD]
  cases ha : t[a]? with
  | none => simp
  | some r =>
    simp only [Option.getD_some]
    cases hb : r[b]? with
    | none => simp
    | some x =>
      simp only [Option.getD_some]
      have := allB_all (inC_row h ha) x (List.mem_of_getElem? hb)
      omega
theorem stepC_bd {t : List (List Int)} (h : inC t = true) {fr to : List Int} {a m b : Int} (h0 : 0 ≤ m) (h5 : m ≤ 5) : 0 ≤ stepC t fr to a m b ∧ stepC t fr to a m b ≤ 5 := by
  have := cAt_bd h a.toNat b.toNat
  unfold stepC
  split
  · exact ⟨h0, h5⟩
  · omega
theorem rowC_bd {t : List (List Int)} (h : inC t = true) {fr to : List Int} {a : Int} (xs : List Int) : ∀ {m : Int}, 0 ≤ m → m ≤ 5 → 0 ≤ xs.foldl (stepC t fr to a) m ∧ xs.foldl (stepC t fr to a) m ≤ 5 := by
  induction xs with
  | nil => intro m h0 h5; exact ⟨h0, h5⟩
  | cons x r ih =>
    intro m h0 h5
    have := stepC_bd h (fr := fr) (to := to) (a := a) (b := x) h0 h5
    exact ih this.1 this.2
theorem chg_bd {t : List (List Int)} (h : inC t = true) {fr to : List Int} (xs : List Int) : ∀ {m : Int}, 0 ≤ m → m ≤ 5 → 0 ≤ xs.foldl (rowC t fr to) m ∧ xs.foldl (rowC t fr to) m ≤ 5 := by
  induction xs with
  | nil => intro m h0 h5; exact ⟨h0, h5⟩
  | cons x r ih =>
    intro m h0 h5
    have := rowC_bd h (fr := fr) (to := to) (a := x) to h0 h5
    exact ih this.1 this.2
theorem changeN_bd {t : List (List Int)} (h : inC t = true) (fr to : List Int) : 0 ≤ changeN t fr to ∧ changeN t fr to ≤ 5 := chg_bd h fr (Int.le_refl _) (by omega)

/-- What the change is: an upper bound of every pair, and the least. -/
theorem stepC_ge (t : List (List Int)) (fr to : List Int) (a m b : Int) : m ≤ stepC t fr to a m b := by
  unfold stepC
  split <;> omega
theorem rowC_ge (t : List (List Int)) (fr to : List Int) (a : Int) (xs : List Int) : ∀ m : Int, m ≤ xs.foldl (stepC t fr to a) m := by
  induction xs with
  | nil => intro m; exact Int.le_refl _
  | cons x r ih => intro m; exact Int.le_trans (stepC_ge t fr to a m x) (ih _)
theorem rowC_at (t : List (List Int)) (fr to : List Int) {a b : Int} (ha : a ∉ to) (hb : b ∉ fr) (xs : List Int) : ∀ m : Int, b ∈ xs → cAt t a.toNat b.toNat ≤ xs.foldl (stepC t fr to a) m := by
  induction xs with
  | nil => intro m h; cases h
  | cons x r ih =>
    intro m h
    rcases List.mem_cons.1 h with rfl | h
    · refine Int.le_trans ?_ (rowC_ge t fr to a r _)
      unfold stepC
      rw [if_neg (by intro h; rcases h with h | h <;> contradiction)]; omega
    · exact ih _ h
theorem chg_ge (t : List (List Int)) (fr to : List Int) (xs : List Int) : ∀ m : Int, m ≤ xs.foldl (rowC t fr to) m := by
  induction xs with
  | nil => intro m; exact Int.le_refl _
  | cons x r ih => intro m; exact Int.le_trans (rowC_ge t fr to x to m) (ih _)
theorem chg_at (t : List (List Int)) (fr to : List Int) {a b : Int} (ha : a ∉ to) (hb : b ∉ fr) (hbt : b ∈ to) (xs : List Int) : ∀ m : Int, a ∈ xs → cAt t a.toNat b.toNat ≤ xs.foldl (rowC t fr to) m := by
  induction xs with
  | nil => intro m h; cases h
  | cons x r ih =>
    intro m h
    rcases List.mem_cons.1 h with rfl | h
    · exact Int.le_trans (rowC_at t fr to ha hb to m hbt) (chg_ge t fr to r _)
    · exact ih _ h
theorem changeN_at {t : List (List Int)} {fr to : List Int} {a b : Int} (ha : a ∈ fr) (hb : b ∈ to) (h1 : a ∉ to) (h2 : b ∉ fr) : cAt t a.toNat b.toNat ≤ changeN t fr to := chg_at t fr to h1 h2 hb fr 0 ha
theorem stepC_le {t : List (List Int)} {fr to : List Int} {a m b M : Int} (hm : m ≤ M) (h : a ∉ to → b ∉ fr → cAt t a.toNat b.toNat ≤ M) : stepC t fr to a m b ≤ M := by
  unfold stepC
  split
  · exact hm
  · rename_i hn
    have := h (fun h => hn (.inl h)) (fun h => hn (.inr h))
    omega
theorem rowC_le {t : List (List Int)} {fr to : List Int} {a M : Int} (xs : List Int) (h : ∀ b ∈ xs, a ∉ to → b ∉ fr → cAt t a.toNat b.toNat ≤ M) : ∀ m : Int, m ≤ M → xs.foldl (stepC t fr to a) m ≤ M := by
  induction xs with
  | nil => intro m hm; exact hm
  | cons x r ih => intro m hm; exact ih (fun b hb => h b (List.mem_cons_of_mem _ hb)) _ (stepC_le hm (h x List.mem_cons_self))
theorem chg_le {t : List (List Int)} {fr to : List Int} {M : Int} (xs : List Int) (h : ∀ a ∈ xs, ∀ b ∈ to, a ∉ to → b ∉ fr → cAt t a.toNat b.toNat ≤ M) : ∀ m : Int, m ≤ M → xs.foldl (rowC t fr to) m ≤ M := by
  induction xs with
  | nil => intro m hm; exact hm
  | cons x r ih => intro m hm; exact ih (fun a ha => h a (List.mem_cons_of_mem _ ha)) _ (rowC_le to (h x List.mem_cons_self) m hm)
theorem changeN_le {t : List (List Int)} {fr to : List Int} {M : Int} (hM : 0 ≤ M) (h : ∀ a ∈ fr, ∀ b ∈ to, a ∉ to → b ∉ fr → cAt t a.toNat b.toNat ≤ M) : changeN t fr to ≤ M := chg_le fr h 0 hM
theorem changeN_self {t : List (List Int)} (h : inC t = true) (fr : List Int) : changeN t fr fr = 0 := by
  have h1 := (changeN_bd h fr fr).1
  have h2 : changeN t fr fr ≤ 0 := changeN_le (Int.le_refl _) fun a ha b hb h1 h2 => absurd ha h1
  omega
theorem changeN_nil {t : List (List Int)} (h : inC t = true) (fr : List Int) : changeN t fr [] = 0 := by
  have h1 := (changeN_bd h fr []).1
  have h2 : changeN t fr [] ≤ 0 := changeN_le (Int.le_refl _) fun a ha b hb => by cases hb
  omega
/-- Fewer movements need less time. -/
theorem changeN_less {t : List (List Int)} (h : inC t = true) {fr : List Int} {b0 : Int} {to : List Int} (hb : b0 ∉ fr) : changeN t fr to ≤ changeN t fr (b0 :: to) := by
  refine changeN_le (changeN_bd h _ _).1 fun a ha b hbt h1 h2 => ?_
  refine changeN_at ha (List.mem_cons_of_mem _ hbt) (fun h => ?_) h2
  rcases List.mem_cons.1 h with rfl | h
  · exact hb ha
  · exact h1 h

/-- LostTime: each phase with the next one, the last one with the first one. -/
def nxt {α : Type} (xs : List α) (i : Nat) (z : α) : α := xs.getD ((i + 1) % xs.length) z
def lostUp (t : List (List Int)) (list : List (List Int)) : Nat → Int
  | 0 => 0
  | k + 1 => lostUp t list k + changeN t (list.getD k []) (nxt list k [])
def lostN (t : List (List Int)) (list : List (List Int)) : Int := lostUp t list list.length
def ringB (t : List (List Int)) (list : List (List Int)) : Bool := inB list.length 1 5 && list.all (fitsB t)
def lostF (t : List (List Int)) (list : List (List Int)) : Int := if ringB t list = true then lostN t list else -1
theorem lostUp_bd {t : List (List Int)} (h : inC t = true) (list : List (List Int)) (k : Nat) : 0 ≤ lostUp t list k ∧ lostUp t list k ≤ 5 * k := by
  induction k with
  | zero => exact ⟨Int.le_refl _, Int.le_refl _⟩
  | succ k ih =>
    have := changeN_bd h (list.getD k []) (nxt list k [])
    unfold lostUp
    omega
end Go.Proofs.Ytckohbjgogbfaaa

/- LostTime: short rings, in plain words. -/
namespace Go.Proofs.Ytckohbjgogbfaaa
open Go.RowKit

section
variable (t : List (List Int)) (a b c d e : List Int)
theorem lost1 : lostN t [a] = changeN t a a := by simp [lostN, lostUp, nxt]
theorem lost2 : lostN t [a, b] = changeN t a b + changeN t b a := by simp [lostN, lostUp, nxt]
theorem lost3 : lostN t [a, b, c] = changeN t a b + changeN t b c + changeN t c a := by simp [lostN, lostUp, nxt]
theorem lost4 : lostN t [a, b, c, d] = changeN t a b + changeN t b c + changeN t c d + changeN t d a := by simp [lostN, lostUp, nxt]
theorem lost5 : lostN t [a, b, c, d, e] = changeN t a b + changeN t b c + changeN t c d + changeN t d e + changeN t e a := by simp [lostN, lostUp, nxt]
end
/-- A ring is one of five forms. -/
theorem ring_forms {list : List (List Int)} (h1 : 1 ≤ list.length) (h5 : list.length ≤ 5) :
    (∃ a, list = [a]) ∨ (∃ a b, list = [a, b]) ∨ (∃ a b c, list = [a, b, c]) ∨ (∃ a b c d, list = [a, b, c, d]) ∨ ∃ a b c d e, list = [a, b, c, d, e] := by
  match list, h1, h5 with
  | [a], _, _ => exact .inl ⟨a, rfl⟩
  | [a, b], _, _ => exact .inr (.inl ⟨a, b, rfl⟩)
  | [a, b, c], _, _ => exact .inr (.inr (.inl ⟨a, b, c, rfl⟩))
  | [a, b, c, d], _, _ => exact .inr (.inr (.inr (.inl ⟨a, b, c, d, rfl⟩)))
  | [a, b, c, d, e], _, _ => exact .inr (.inr (.inr (.inr ⟨a, b, c, d, e, rfl⟩)))
  | _ :: _ :: _ :: _ :: _ :: _ :: _, _, h => simp at h
theorem lost_turn (t : List (List Int)) {list : List (List Int)} (h1 : 1 ≤ list.length) (h5 : list.length ≤ 5) : lostN t (list.drop 1 ++ list.take 1) = lostN t list := by
  rcases ring_forms h1 h5 with ⟨a, rfl⟩ | ⟨a, b, rfl⟩ | ⟨a, b, c, rfl⟩ | ⟨a, b, c, d, rfl⟩ | ⟨a, b, c, d, e, rfl⟩ <;> simp only [List.drop_succ_cons, List.drop_zero, List.take_succ_cons, List.take_zero, List.nil_append, List.cons_append, lost1, lost2, lost3, lost4, lost5] <;> omega
theorem lost_twice {t : List (List Int)} (h : inC t = true) {list : List (List Int)} (h1 : 1 ≤ list.length) (h5 : list.length < 5) : lostN t (list.take 1 ++ list) = lostN t list := by
  rcases ring_forms h1 (by omega) with ⟨a, rfl⟩ | ⟨a, b, rfl⟩ | ⟨a, b, c, rfl⟩ | ⟨a, b, c, d, rfl⟩ | ⟨a, b, c, d, e, rfl⟩
  · simp only [List.take_succ_cons, List.take_zero, List.nil_append, List.cons_append, lost1, lost2, changeN_self h]; omega
  · simp only [List.take_succ_cons, List.take_zero, List.nil_append, List.cons_append, lost2, lost3, changeN_self h]; omega
  · simp only [List.take_succ_cons, List.take_zero, List.nil_append, List.cons_append, lost3, lost4, changeN_self h]; omega
  · simp only [List.take_succ_cons, List.take_zero, List.nil_append, List.cons_append, lost4, lost5, changeN_self h]; omega
  · simp at h5
theorem lost_single {t : List (List Int)} (h : inC t = true) {list : List (List Int)} (h1 : 1 ≤ list.length) : lostN t (list.take 1) = 0 := by
  cases list with
  | nil => simp at h1
  | cons a r => simp only [List.take_succ_cons, List.take_zero, lost1, changeN_self h]
theorem ringB_iff {t : List (List Int)} {list : List (List Int)} : ringB t list = true ↔ (1 ≤ list.length ∧ list.length ≤ 5) ∧ ∀ p ∈ list, fitsB t p = true := by
  simp only [ringB, inB, Bool.and_eq_true, decide_eq_true_eq, List.all_eq_true]
  constructor
  · rintro ⟨h1, h2⟩; exact ⟨by omega, h2⟩
  · rintro ⟨h1, h2⟩; exact ⟨by omega, h2⟩
theorem ringB_inC {t : List (List Int)} {list : List (List Int)} (h : ringB t list = true) : cOk t = true ∧ inC t = true := by
  obtain ⟨⟨h1, -⟩, h2⟩ := ringB_iff.1 h
  cases list with
  | nil => simp at h1
  | cons a r =>
    have := fitsB_ok (h2 a List.mem_cons_self)
    exact ⟨this, (cOk_iff.1 this).2.2.2.1⟩
theorem lostN_bd {t : List (List Int)} {list : List (List Int)} (h : ringB t list = true) : 0 ≤ lostN t list ∧ lostN t list ≤ 25 := by
  have h1 := lostUp_bd (ringB_inC h).2 list list.length
  have h2 := (ringB_iff.1 h).1.2
  unfold lostN
  omega

/-- Orders: all ways to go on from o with d of the numbers below n. -/
def ordL (n : Nat) : Nat → List Int → List (List Int)
  | 0, o => [o]
  | d + 1, o => (List.range n).flatMap fun k => if ((k : Nat) : Int) ∈ o then [] else ordL n d (o ++ [(k : Int)])
def arrL (list : List (List Int)) (o : List Int) : List (List Int) := o.map fun k => list.getD k.toNat []
def betterO (t : List (List Int)) (list : List (List Int)) (b o : List Int) : List Int := if b = [] ∨ lostN t (arrL list o) < lostN t (arrL list b) then o else b
def bestOrd (t : List (List Int)) (list : List (List Int)) : List Int := (ordL list.length (list.length - 1) [0]).foldl (betterO t list) []
def bestOrdF (t : List (List Int)) (list : List (List Int)) : List Int := if ringB t list = true then bestOrd t list else []
/-- An order: distinct numbers below n. -/
def isOrd (n : Nat) (o : List Int) : Prop := o.Nodup ∧ ∀ k ∈ o, 0 ≤ k ∧ k < n
theorem ordL_all (n : Nat) : ∀ (d : Nat) (o : List Int), isOrd n o → ∀ p ∈ ordL n d o, isOrd n p ∧ p.length = o.length + d ∧ p.take o.length = o := by
  intro d
  induction d with
  | zero =>
    intro o h p hp
    simp only [ordL, List.mem_singleton] at hp
    subst hp
    exact ⟨h, by omega, by rw [List.take_length]⟩
  | succ d ih =>
    intro o h p hp
    simp only [ordL, List.mem_flatMap, List.mem_range] at hp
    obtain ⟨k, hk, hp⟩ := hp
    split at hp
    · cases hp
    · rename_i hno
      have h2 : isOrd n (o ++ [(k : Int)]) := by
        refine ⟨?_, fun x hx => ?_⟩
        · rw [List.nodup_append]
          refine ⟨h.1, by simp, fun a ha b hb => ?_⟩
          simp at hb
          subst hb
          intro e
          subst e
          exact hno ha
        · rcases List.mem_append.1 hx with hx | hx
          · exact h.2 x hx
          · simp at hx; omega
      obtain ⟨e1, e2, e3⟩ := ih _ h2 p hp
      refine ⟨e1, by simp at e2; omega, ?_⟩
      have : (p.take (o ++ [(k : Int)]).length).take o.length = o := by rw [e3]; simp
      rwa [List.take_take, show min o.length (o ++ [(k : Int)]).length = o.length by simp] at this
theorem ordL_ne (n : Nat) : ∀ (d : Nat) (o : List Int), o ≠ [] → ∀ p ∈ ordL n d o, p ≠ [] := by
  intro d
  induction d with
  | zero => intro o h p hp; simp only [ordL, List.mem_singleton] at hp; subst hp; exact h
  | succ d ih =>
    intro o h p hp
    simp only [ordL, List.mem_flatMap] at hp
    obtain ⟨k, -, hp⟩ := hp
    split at hp
    · cases hp
    · exact ih _ (by simp) p hp
theorem best_fold (t list : List (List Int)) (os : List (List Int)) (hos : ∀ o ∈ os, o ≠ []) : ∀ b, (os.foldl (betterO t list) b = b ∨ os.foldl (betterO t list) b ∈ os) ∧ (os ≠ [] → os.foldl (betterO t list) b ≠ []) ∧ (b ≠ [] → os.foldl (betterO t list) b ≠ [] ∧ lostN t (arrL list (os.foldl (betterO t list) b)) ≤ lostN t (arrL list b)) ∧ ∀ o ∈ os, lostN t (arrL list (os.foldl (betterO t list) b)) ≤ lostN t (arrL list o) := by
  induction os with
  | nil => intro b; exact ⟨.inl rfl, fun h => absurd rfl h, fun h => ⟨h, Int.le_refl _⟩, fun o h => by cases h⟩
  | cons o r ih =>
    intro b
    obtain ⟨i1, i2, i3, i4⟩ := ih (fun o h => hos o (List.mem_cons_of_mem _ h)) (betterO t list b o)
    have ho := hos o List.mem_cons_self
    have hb : betterO t list b o ≠ [] := by
      unfold betterO
      split
      · exact ho
      · rename_i h; exact fun e => h (.inl e)
    have hbl : lostN t (arrL list (betterO t list b o)) ≤ lostN t (arrL list o) := by
      unfold betterO
      split
      · exact Int.le_refl _
      · rename_i h
        have : ¬ lostN t (arrL list o) < lostN t (arrL list b) := fun e => h (.inr e)
        omega
    obtain ⟨j1, j2⟩ := i3 hb
    refine ⟨?_, fun _ => j1, fun hbn => ⟨j1, ?_⟩, fun p hp => ?_⟩
    · rw [List.foldl_cons]
      rcases i1 with e | e
      · rw [e]
        unfold betterO
        split
        · exact .inr List.mem_cons_self
        · exact .inl rfl
      · exact .inr (List.mem_cons_of_mem _ e)
    · rw [List.foldl_cons]
      refine Int.le_trans j2 ?_
      unfold betterO
      split
      · rename_i h
        rcases h with h | h
        · exact absurd h hbn
        · omega
      · exact Int.le_refl _
    · rw [List.foldl_cons]
      rcases List.mem_cons.1 hp with rfl | hp
      · exact Int.le_trans j2 hbl
      · exact i4 p hp
end Go.Proofs.Ytckohbjgogbfaaa

/- slices.Index and slices.Contains at []int, walked. -/
namespace Go.Proofs.Ytckohbjgogbfaaa
open Go.RowKit

theorem index_c (A : Option Addr) (n c : Nat) (xs : List Int) (f : Int) (w : World) (B : Nat) (hS : Sl w B ILit A n c xs) (hB : B ≤ w.heap.size) :
    Calls Try.prog 70 #[.slice A n c, .int .i64 f] w fun e w' => (∃ i : Int, e = .returned (.int .i64 i) ∧ decide (0 ≤ i) = decide (f ∈ xs)) ∧ Below w.heap.size w w' := by
  obtain ⟨hc0, hc1⟩ := hS.cap
  have HL := Lib.hid hS.len
  have hS1 := hS.more hB
  clear hS
  go_enter Try.func70, Try.ntmps70
  go_wp2_with fail
  go_loopw [8] (fun i wr => ∃ (k : Nat), k ≤ n ∧ i = .int .i64 k ∧ Hid (f ∉ xs.take k) ∧ Below w.heap.size w wr) (fun i _ => n - (intOf i).toNat)
  case atStart => exact ⟨0, by omega, rfl, Lib.hid (by simp), by (repeat' (first | (with_reducible exact Below.refl _ _) | (with_reducible assumption) | (with_reducible refine Below.alloc ?_ ?_ _) | (with_reducible refine below_plus ?_ ?_ _ _) | (with_reducible refine Below.drew ?_) | (with_reducible refine Below.setCell ?_ ?_ _) | (with_reducible refine below_adv ?_ ?_ _) | go_size | (simp; done) | (simp; omega)))⟩
  case round =>
    obtain ⟨k, hk, rfl, hall, hb⟩ := hrel
    have hS2 := hS1.below hb
    by_cases hlt : k < n
    · obtain ⟨b, o, x, rfl, hbl, hx, hcell⟩ := hS2.at_ hlt
      have hcell' : wr.cell? ⟨b, o + k, none⟩ = some (.int .i64 x) := hcell
      clear hcell hS2 hS1
      by_cases hp : f = x
      · subst hp
        have CA := Lib.hid (decide_eq_true (List.mem_of_getElem? hx))
        clear hx
        go_wp2_with fail
        go_ret
        exact ⟨⟨_, rfl, by rw [CA.out]; exact decide_eq_true (by omega)⟩, by (repeat' (first | (with_reducible exact Below.refl _ _) | (with_reducible assumption) | (with_reducible refine Below.alloc ?_ ?_ _) | (with_reducible refine below_plus ?_ ?_ _ _) | (with_reducible refine Below.drew ?_) | (with_reducible refine Below.setCell ?_ ?_ _) | (with_reducible refine below_adv ?_ ?_ _) | go_size | (simp; done) | (simp; omega)))⟩
      · have CA : Hid (f ∉ xs.take (k + 1)) := Lib.hid (by
          rw [take_snoc hx, List.mem_append]
          rintro (h | h)
          · exact hall.out h
          · simp at h; exact hp h)
        clear hx
        go_wp2_with fail
        go_roundw
        case rel => exact ⟨k + 1, by omega, by go_num, CA, by (repeat' (first | (with_reducible exact Below.refl _ _) | (with_reducible assumption) | (with_reducible refine Below.alloc ?_ ?_ _) | (with_reducible refine below_plus ?_ ?_ _ _) | (with_reducible refine Below.drew ?_) | (with_reducible refine Below.setCell ?_ ?_ _) | (with_reducible refine below_adv ?_ ?_ _) | go_size | (simp; done) | (simp; omega)))⟩
        case measure => simp [intOf]; omega
    · obtain rfl : k = n := by omega
      have e : decide (f ∈ xs) = false := by
        have := hall.out
        rw [List.take_of_length_le (by rw [HL.out]; omega)] at this
        exact decide_eq_false this
      have CE := Lib.hid e
      clear e
      go_wp2_with fail
      go_ret
      exact ⟨⟨_, rfl, by rw [CE.out]; rfl⟩, by (repeat' (first | (with_reducible exact Below.refl _ _) | (with_reducible assumption) | (with_reducible refine Below.alloc ?_ ?_ _) | (with_reducible refine below_plus ?_ ?_ _ _) | (with_reducible refine Below.drew ?_) | (with_reducible refine Below.setCell ?_ ?_ _) | (with_reducible refine below_adv ?_ ?_ _) | go_size | (simp; done) | (simp; omega)))⟩

theorem contains_c (A : Option Addr) (n c : Nat) (xs : List Int) (f : Int) (w : World) (B : Nat) (hS : Sl w B ILit A n c xs) (hB : B ≤ w.heap.size) :
    Calls Try.prog 53 #[.slice A n c, .int .i64 f] w fun e w' => e = .returned (.bool (decide (f ∈ xs))) ∧ Below w.heap.size w w' := by
  have C1 := Lib.hid (index_c A n c xs f w B hS hB)
  clear hS
  go_enter Try.func53, Try.ntmps53
  go_wp2_with fail
  refine C1.out.mono ?_
  rintro e w1 ⟨⟨i, rfl, hi⟩, hb⟩
  have HI := Lib.hid hi
  clear hi
  go_wp2_with fail
  go_ret
  exact ⟨by rw [← HI.out]; rfl, hb⟩
end Go.Proofs.Ytckohbjgogbfaaa

/- impl.changeOf, walked. -/
namespace Go.Proofs.Ytckohbjgogbfaaa
open Go.RowKit

theorem stepC_in (t : List (List Int)) (fr to : List Int) {a : Int} (h : a ∈ to) (m b : Int) : stepC t fr to a m b = m := by simp [stepC, h]
theorem rowC_in (t : List (List Int)) (fr to : List Int) {a : Int} (h : a ∈ to) (m : Int) : rowC t fr to m a = m := by
  unfold rowC
  have : ∀ (l : List Int) (m : Int), l.foldl (stepC t fr to a) m = m := fun l => by
    induction l with
    | nil => intro m; rfl
    | cons x l ih => intro m; rw [List.foldl_cons, stepC_in t fr to h]; exact ih m
  exact this to m

set_option maxHeartbeats 4000000 in
theorem changeOf_c (At : Option Addr) (m ct : Nat) (t : List (List Int)) (A : Option Addr) (n c : Nat) (fr : List Int) (A2 : Option Addr) (n2 c2 : Nat) (to : List Int) (w : World) (B : Nat) (hT : Sl2 w B ILit At m ct t) (hS : Sl w B ILit A n c fr) (hS2 : Sl w B ILit A2 n2 c2 to) (hB : B ≤ w.heap.size)
    (hsq : sqB t = true) (hfr : ∀ x ∈ fr, 0 ≤ x ∧ x < m) (hto : ∀ x ∈ to, 0 ≤ x ∧ x < m) :
    Calls Try.prog 69 #[.slice At m ct, .slice A n c, .slice A2 n2 c2] w fun e w' => e = .returned (.int .i64 (changeN t fr to)) ∧ Below w.heap.size w w' := by
  obtain ⟨hc0, hc1⟩ := hS.cap
  obtain ⟨hd0, hd1⟩ := hS2.cap
  obtain ⟨ht0, ht1⟩ := hT.cap
  have HL1 := Lib.hid hS.len
  have HL2 := Lib.hid hS2.len
  have HSQ := Lib.hid hsq
  have HFR := Lib.hid hfr
  have HTO := Lib.hid hto
  have hT0 := hT.more hB
  have hF0 := hS.more hB
  have hG0 := hS2.more hB
  clear hsq hfr hto hT hS hS2
  go_enter Try.func69, Try.ntmps69
  go_wp2_with fail
  go_loopw [7, 14] (fun l i wr => ∃ (k : Nat) (M : Int), k ≤ n ∧ i = .int .i64 k ∧ l = .int .i64 M ∧ Hid (M = (fr.take k).foldl (rowC t fr to) 0) ∧ Below w.heap.size w wr) (fun _ i _ => n - (intOf i).toNat)
  case atStart => exact ⟨0, 0, by omega, rfl, rfl, Lib.hid (by simp), Below.refl _ _⟩
  case round =>
    obtain ⟨k, M, hk, rfl, rfl, hM, hb⟩ := hrel
    have hzr := hb.size
    by_cases hlt : k < n
    · obtain ⟨b, o, a, rfl, hbl, ha, hcell⟩ := (hF0.below hb).at_ hlt
      have hcell' : wr.cell? ⟨b, o + k, none⟩ = some (.int .i64 a) := hcell
      have hF := foldl_snoc (rowC t fr to) 0 ha
      rw [← hM.out] at hF
      have HF := Lib.hid hF
      have HA := Lib.hid (HFR.out a (List.mem_of_getElem? ha))
      have C1 := Lib.hid (contains_c A2 n2 c2 to a wr _ (hG0.below hb) hzr)
      clear hcell ha hF
      by_cases hin : a ∈ to
      · rw [decide_eq_true hin] at C1
        have HN : Hid (M = (fr.take (k + 1)).foldl (rowC t fr to) 0) := Lib.hid (by rw [HF.out, rowC_in t fr to hin])
        go_wp2_with fail
        refine C1.out.mono ?_
        rintro e w1 ⟨rfl, hb1⟩
        go_wp2_with fail
        go_roundw
        case rel => exact ⟨k + 1, M, by omega, by go_num, rfl, HN, hb.trans (hb1.mono hzr)⟩
        case measure => simp [intOf]; omega
      · rw [decide_eq_false hin] at C1
        go_wp2_with fail
        refine C1.out.mono ?_
        rintro e w1 ⟨rfl, hb1⟩
        have hz1 := hb1.size
        have hb01 := hb.trans (hb1.mono hzr)
        clear C1
        go_wp2_with fail
        go_loopw [7, 23] (fun l i wr2 => ∃ (j : Nat) (M2 : Int), j ≤ n2 ∧ i = .int .i64 j ∧ l = .int .i64 M2 ∧ Hid (M2 = (to.take j).foldl (stepC t fr to a) M) ∧ Below w.heap.size w wr2) (fun _ i _ => n2 - (intOf i).toNat)
        case atStart => exact ⟨0, M, by omega, rfl, rfl, Lib.hid (by simp), hb01⟩
        case round =>
          clear hb1 hb01 hz1
          obtain ⟨j, M2, hj, rfl, rfl, hM2, hb2⟩ := hrel
          have hzr2 := hb2.size
          by_cases hjn : j < n2
          · obtain ⟨g, p, x, rfl, hgl, hx, hcx⟩ := (hG0.below hb2).at_ hjn
            have hcx' : wr.cell? ⟨g, p + j, none⟩ = some (.int .i64 x) := hcx
            have hF2 := foldl_snoc (stepC t fr to a) M hx
            rw [← hM2.out] at hF2
            have HF2 := Lib.hid hF2
            have HX := Lib.hid (HTO.out x (List.mem_of_getElem? hx))
            have C2 := Lib.hid (contains_c _ n c fr x wr _ (hF0.below hb2) hzr2)
            clear hcx hx hF2
            by_cases hix : x ∈ fr
            · rw [decide_eq_true hix] at C2
              have HN : Hid (M2 = (to.take (j + 1)).foldl (stepC t fr to a) M) := Lib.hid (by rw [HF2.out]; simp [stepC, hix])
              go_wp2_with fail
              refine C2.out.mono ?_
              rintro e w2 ⟨rfl, hb3⟩
              go_wp2_with fail
              go_roundw
              case rel => exact ⟨j + 1, M2, by omega, by go_num, rfl, HN, hb2.trans (hb3.mono hzr2)⟩
              case measure => simp [intOf]; omega
            · rw [decide_eq_false hix] at C2
              obtain ⟨ha0, ha1⟩ := HA.out
              obtain ⟨hx0, hx1⟩ := HX.out
              obtain ⟨a', rfl⟩ := Int.eq_ofNat_of_zero_le ha0
              obtain ⟨x', rfl⟩ := Int.eq_ofNat_of_zero_le hx0
              go_wp2_with fail
              refine C2.out.mono ?_
              rintro e w2 ⟨rfl, hb3⟩
              have hb4 := hb2.trans (hb3.mono hzr2)
              have hz4 := hb4.size
              obtain ⟨b1, o1, b2, o2, d2, ra, rfl, hl1, hl2, hra, hral, hrac, hrc, hrow⟩ := (hT0.below hb4).entry HSQ.out (a := a') (by omega)
              obtain ⟨y, hy⟩ : ∃ y, ra[x']? = some y := ⟨_, List.getElem?_eq_getElem (by omega)⟩
              have r1 : w2.cell? ⟨b1, o1 + a', none⟩ = some (.slice (some ⟨b2, o2, none⟩) m d2) := hrc
              have r2 : w2.cell? ⟨b2, o2 + x', none⟩ = some (.int .i64 y) := hrow x' y hy
              have hyc := cAt_of hra hy
              have HN : Hid (max M2 y = (to.take (j + 1)).foldl (stepC t fr to a') M) := Lib.hid (by rw [HF2.out]; simp [stepC, hix, hin, hyc])
              clear hrc hrow hra hy hyc hral
              go_wp2_with fail
              go_roundw
              case rel => exact ⟨j + 1, max M2 y, by omega, by go_num, by simp; split <;> omega, HN, hb4⟩
              case measure => simp [intOf]; omega
          · obtain rfl : j = n2 := by omega
            have hE := hM2.out
            rw [List.take_of_length_le (by rw [HL2.out]; omega)] at hE
            have HN : Hid (M2 = (fr.take (k + 1)).foldl (rowC t fr to) 0) := Lib.hid (by rw [HF.out, hE]; rfl)
            clear hE
            go_wp2_with fail
            go_roundw
            case rel => exact ⟨k + 1, M2, by omega, by go_num, rfl, HN, hb2⟩
            case measure => simp [intOf]; omega
    · obtain rfl : k = n := by omega
      have hE := hM.out
      rw [List.take_of_length_le (by rw [HL1.out]; omega)] at hE
      have HE : Hid (M = changeN t fr to) := Lib.hid hE
      clear hE
      go_wp2_with fail
      go_ret
      exact ⟨by rw [← HE.out]; rfl, hb⟩
end Go.Proofs.Ytckohbjgogbfaaa

/- impl.validPhases, walked. -/
namespace Go.Proofs.Ytckohbjgogbfaaa
open Go.RowKit

set_option maxHeartbeats 4000000 in
theorem validPhases_c (At : Option Addr) (m ct : Nat) (t : List (List Int)) (A : Option Addr) (n c : Nat) (xss : List (List Int)) (w : World) (B : Nat) (hT : Sl2 w B ILit At m ct t) (hS : Sl2 w B ILit A n c xss) (hB : B ≤ w.heap.size) (hrl : ∀ xs ∈ xss, xs.length ≤ 1099511627776) :
    Calls Try.prog 34 #[.slice At m ct, .slice A n c] w fun e w' => e = .returned (.bool (xss.all (fitsB t))) ∧ Below w.heap.size w w' := by
  obtain ⟨hc0, hc1⟩ := hS.cap
  have HL := Lib.hid hS.len
  have HR := Lib.hid hrl
  have hS0 := hS.more hB
  have C0 := Lib.hid (conflictsOf_c At m ct t w _ (hT.more hB) (Nat.le_refl _))
  clear hS hT hrl
  go_enter Try.func34, Try.ntmps34
  go_wp2_with fail
  refine C0.out.mono ?_
  rintro e w1 ⟨A1, n1, c1, rfl, hO1, hb1⟩
  have hz1 := hb1.size
  have hT1 := hO1.sl2
  clear hO1
  go_wp2_with fail
  go_loopw [12] (fun i wr => ∃ (k : Nat), k ≤ n ∧ i = .int .i64 k ∧ Hid ((xss.take k).all (fitsB t) = true) ∧ Below w1.heap.size w1 wr) (fun i _ => n - (intOf i).toNat)
  case atStart => exact ⟨0, by omega, rfl, Lib.hid (by simp), Below.refl _ _⟩
  case round =>
    obtain ⟨k, hk, rfl, hall, hb⟩ := hrel
    have hzr := hb.size
    by_cases hlt : k < n
    · obtain ⟨b, o, xs, A', n', c', rfl, hbl, hx, hcell, hrow⟩ := (hS0.below (hb1.trans (hb.mono hz1))).at_ hlt
      have hcell' : wr.cell? ⟨b, o + k, none⟩ = some (.slice A' n' c') := hcell
      have hrn := HR.out xs (List.mem_of_getElem? hx)
      rw [hrow.len] at hrn
      have cv := validPhase_c A1 n1 c1 (confF t) A' n' c' xs wr _ ((hT1.below hb).more (B' := wr.heap.size) hzr) (hrow.more (by omega)) (Nat.le_refl _) hrn
      have hts : (xss.take (k + 1)).all (fitsB t) = fitsB t xs := by rw [take_snoc hx, List.all_append, hall.out]; simp
      have hbad : fitsB t xs = false → xss.all (fitsB t) = false := fun h => by
        rw [List.all_eq_false]; exact ⟨xs, List.mem_of_getElem? hx, by simp [h]⟩
      have HT := Lib.hid hts
      have HBD := Lib.hid hbad
      change Calls _ _ _ _ (fun e w' => e = .returned (.bool (fitsB t xs)) ∧ _) at cv
      clear hcell hx hts hbad hrow
      cases hf : fitsB t xs
      · rw [hf] at cv
        have CV := Lib.hid cv
        have HE := Lib.hid (HBD.out hf)
        clear cv
        go_wp2_with fail
        refine CV.out.mono ?_
        rintro e w2 ⟨rfl, hb2⟩
        go_wp2_with fail
        go_ret
        exact ⟨by rw [HE.out]; rfl, (hb1.trans (hb.mono hz1)).trans (hb2.mono (by omega))⟩
      · rw [hf] at cv
        have CV := Lib.hid cv
        have HE := Lib.hid (HT.out.trans hf)
        clear cv
        go_wp2_with fail
        refine CV.out.mono ?_
        rintro e w2 ⟨rfl, hb2⟩
        go_wp2_with fail
        go_roundw
        case rel => exact ⟨k + 1, by omega, by go_num, HE, hb.trans (hb2.mono hzr)⟩
        case measure => simp [intOf]; omega
    · obtain rfl : k = n := by omega
      have hE := hall.out
      rw [List.take_of_length_le (by rw [HL.out]; omega)] at hE
      have HE := Lib.hid hE
      clear hE
      go_wp2_with fail
      go_ret
      exact ⟨by rw [HE.out]; rfl, hb1.trans (hb.mono hz1)⟩
end Go.Proofs.Ytckohbjgogbfaaa

/- spec.change, walked. -/
namespace Go.Proofs.Ytckohbjgogbfaaa
open Go.RowKit

set_option maxHeartbeats 4000000 in
theorem sChange_c (At : Option Addr) (m ct : Nat) (t : List (List Int)) (A : Option Addr) (n c : Nat) (fr : List Int) (A2 : Option Addr) (n2 c2 : Nat) (to : List Int) (w : World) (B : Nat) (hT : Sl2 w B ILit At m ct t) (hS : Sl w B ILit A n c fr) (hS2 : Sl w B ILit A2 n2 c2 to) (hB : B ≤ w.heap.size) (hn : n ≤ 1099511627776) (hn2 : n2 ≤ 1099511627776)
    (hsq : sqB t = true) (hfr : ∀ x ∈ fr, 0 ≤ x ∧ x < m) (hto : ∀ x ∈ to, 0 ≤ x ∧ x < m) :
    Calls Try.prog 75 #[.slice At m ct, .slice A n c, .slice A2 n2 c2] w fun e w' => e = .returned (.int .i64 (changeN t fr to)) ∧ Below w.heap.size w w' := by
  obtain ⟨hc0, hc1⟩ := hS.cap
  obtain ⟨hd0, hd1⟩ := hS2.cap
  obtain ⟨ht0, ht1⟩ := hT.cap
  have HL1 := Lib.hid hS.len
  have HL2 := Lib.hid hS2.len
  have HSQ := Lib.hid hsq
  have HFR := Lib.hid hfr
  have HTO := Lib.hid hto
  have hT0 := hT.more hB
  have hF0 := hS.more hB
  have hG0 := hS2.more hB
  clear hsq hfr hto hT hS hS2
  go_enter Try.func75, Try.ntmps75
  go_wp2_with fail
  go_loopw [7, 8] (fun l i wr => ∃ (k : Nat) (M : Int), k ≤ n ∧ i = .int .i64 k ∧ l = .int .i64 M ∧ Hid (M = (fr.take k).foldl (rowC t fr to) 0) ∧ Below w.heap.size w wr) (fun _ i _ => n - (intOf i).toNat)
  case atStart => exact ⟨0, 0, by omega, rfl, rfl, Lib.hid (by simp), Below.refl _ _⟩
  case round =>
    obtain ⟨k, M, hk, rfl, rfl, hM, hb⟩ := hrel
    have hzr := hb.size
    by_cases hlt : k < n
    · obtain ⟨b, o, a, rfl, hbl, ha, -⟩ := (hF0.below hb).at_ hlt
      have hF := foldl_snoc (rowC t fr to) 0 ha
      rw [← hM.out] at hF
      have HF := Lib.hid hF
      have HAA := Lib.hid ha
      obtain ⟨ha0, ha1⟩ := HFR.out a (List.mem_of_getElem? ha)
      obtain ⟨a, rfl⟩ := Int.eq_ofNat_of_zero_le ha0
      clear ha hF
      go_wp2_with fail
      go_loopw [7, 9] (fun l i wr2 => ∃ (j : Nat) (M2 : Int), j ≤ n2 ∧ i = .int .i64 j ∧ l = .int .i64 M2 ∧ Hid (M2 = (to.take j).foldl (stepC t fr to a) M) ∧ Below w.heap.size w wr2) (fun _ i _ => n2 - (intOf i).toNat)
      case atStart => exact ⟨0, M, by omega, rfl, rfl, Lib.hid (by simp), hb⟩
      case round =>
        clear hb hzr
        obtain ⟨j, M2, hj, rfl, rfl, hM2, hb2⟩ := hrel
        have hzr2 := hb2.size
        by_cases hjn : j < n2
        · obtain ⟨g, p, x, rfl, hgl, hx, hcx⟩ := (hG0.below hb2).at_ hjn
          have hcx' : wr.cell? ⟨g, p + j, none⟩ = some (.int .i64 x) := hcx
          obtain ⟨b', o', a2, hA, -, ha2, hca⟩ := (hF0.below hb2).at_ hlt
          injection hA with hA
          injection hA with hA1 hA2
          subst hA1 hA2
          rw [HAA.out] at ha2
          injection ha2 with ha2
          subst ha2
          have hca' : wr.cell? ⟨b, o + k, none⟩ = some (.int .i64 (a : Int)) := hca
          have hF2 := foldl_snoc (stepC t fr to a) M hx
          rw [← hM2.out] at hF2
          have HF2 := Lib.hid hF2
          obtain ⟨hx0, hx1⟩ := HTO.out x (List.mem_of_getElem? hx)
          obtain ⟨x, rfl⟩ := Int.eq_ofNat_of_zero_le hx0
          have C1 := Lib.hid (isIn_c _ n2 c2 to a wr _ (hG0.below hb2) hzr2 hn2)
          have C2 := Lib.hid (fun w' (hw : Below wr.heap.size wr w') => isIn_c _ n c fr x w' _ (hF0.below (hb2.trans (hw.mono hzr2))) (Nat.le_trans hzr2 hw.size) hn)
          have i0 : (0 : Int) ≤ (k : Int) := by omega
          have i1 : (k : Int) < (n : Int) := by omega
          have j0 : (0 : Int) ≤ (j : Int) := by omega
          have j1 : (j : Int) < (n2 : Int) := by omega
          clear hcx hx hca hF2
          by_cases hin : (a : Int) ∈ to
          · rw [decide_eq_true hin] at C1
            have HN : Hid (M2 = (to.take (j + 1)).foldl (stepC t fr to a) M) := Lib.hid (by rw [HF2.out, stepC_in t fr to hin])
            clear C2
            go_wp2_with fail
            refine C1.out.mono ?_
            rintro e w1 ⟨rfl, hb1⟩
            go_wp2_with fail
            go_roundw
            case rel => exact ⟨j + 1, M2, by omega, by go_num, rfl, HN, hb2.trans (hb1.mono hzr2)⟩
            case measure => simp [intOf]; omega
          · rw [decide_eq_false hin] at C1
            by_cases hix : (x : Int) ∈ fr
            · rw [decide_eq_true hix] at C2
              have HN : Hid (M2 = (to.take (j + 1)).foldl (stepC t fr to a) M) := Lib.hid (by rw [HF2.out]; simp [stepC, hix])
              have hgw : g < wr.heap.size := by omega
              go_wp2_with fail
              refine C1.out.mono ?_
              rintro e w1 ⟨rfl, hb1⟩
              have hcx1 := (hb1.cell (p := ⟨g, p + j, none⟩) hgw).trans hcx'
              have hz1 := hb1.size
              clear hcx' hca'
              go_wp2_with fail
              refine (C2.out w1 hb1).mono ?_
              rintro e w2 ⟨rfl, hb3⟩
              go_wp2_with fail
              go_roundw
              case rel => exact ⟨j + 1, M2, by omega, by go_num, rfl, HN, (hb2.trans (hb1.mono hzr2)).trans (hb3.mono (by omega))⟩
              case measure => simp [intOf]; omega
            · rw [decide_eq_false hix] at C2
              have hgw : g < wr.heap.size := by omega
              have hbw : b < wr.heap.size := by omega
              obtain ⟨b1, o1, b2, o2, d2, ra, rfl, hl1, hl2, hra, hral, hrac, hrc, hrow⟩ := (hT0.below hb2).entry HSQ.out (a := a) (by omega)
              obtain ⟨y, hy⟩ : ∃ y, ra[x]? = some y := ⟨_, List.getElem?_eq_getElem (by omega)⟩
              have r1 : wr.cell? ⟨b1, o1 + a, none⟩ = some (.slice (some ⟨b2, o2, none⟩) m d2) := hrc
              have r2 : wr.cell? ⟨b2, o2 + x, none⟩ = some (.int .i64 y) := hrow x y hy
              have hyc := cAt_of hra hy
              have HN : Hid (max M2 y = (to.take (j + 1)).foldl (stepC t fr to a) M) := Lib.hid (by rw [HF2.out]; simp [stepC, hix, hin, hyc])
              clear hrc hrow hra hy hyc hral
              go_wp2_with fail
              refine C1.out.mono ?_
              rintro e w1 ⟨rfl, hb1⟩
              have hcx1 := (hb1.cell (p := ⟨g, p + j, none⟩) hgw).trans hcx'
              have hz1 := hb1.size
              go_wp2_with fail
              refine (C2.out w1 hb1).mono ?_
              rintro e w2 ⟨rfl, hb3⟩
              have hb13 := hb1.trans (hb3.mono hz1)
              have hz3 := hb13.size
              have e1 := (hb13.cell (p := ⟨g, p + j, none⟩) hgw).trans hcx'
              have e2 := (hb13.cell (p := ⟨b, o + k, none⟩) hbw).trans hca'
              have e3 := (hb13.cell (p := ⟨b1, o1 + a, none⟩) (show b1 < _ by omega)).trans r1
              have e4 := (hb13.cell (p := ⟨b2, o2 + x, none⟩) (show b2 < _ by omega)).trans r2
              have hb4 := hb2.trans (hb13.mono hzr2)
              have HB4 := Lib.hid hb4
              have a1 : (a : Int) < (m : Int) := by omega
              have x1 : (x : Int) < (m : Int) := by omega
              clear hcx' hcx1 hca' r1 r2 hb1 hb3 hb13 hb2 hb4 C1 C2 hT0 hF0 hG0
              go_wp2_with fail
              go_still_tail 14, (by kernel_rfl)
              change wpList _ _ _ _ _ w2.drew
              go_wp2_with fail
              go_roundw
              case rel => exact ⟨j + 1, max M2 y, by omega, by go_num, by simp; try (split <;> omega), HN, HB4.out.drew⟩
              case measure => simp [intOf]; omega
        · obtain rfl : j = n2 := by omega
          have hE := hM2.out
          rw [List.take_of_length_le (by rw [HL2.out]; omega)] at hE
          have HN : Hid (M2 = (fr.take (k + 1)).foldl (rowC t fr to) 0) := Lib.hid (by rw [HF.out, hE]; rfl)
          clear hE
          go_wp2_with fail
          go_roundw
          case rel => exact ⟨k + 1, M2, by omega, by go_num, rfl, HN, hb2⟩
          case measure => simp [intOf]; omega
    · obtain rfl : k = n := by omega
      have hE := hM.out
      rw [List.take_of_length_le (by rw [HL1.out]; omega)] at hE
      have HE : Hid (M = changeN t fr to) := Lib.hid hE
      clear hE
      go_wp2_with fail
      go_ret
      exact ⟨by rw [← HE.out]; rfl, hb⟩
end Go.Proofs.Ytckohbjgogbfaaa

/- spec.fits, walked. -/
namespace Go.Proofs.Ytckohbjgogbfaaa
open Go.RowKit

set_option maxHeartbeats 4000000 in
theorem fits_c (At : Option Addr) (m ct : Nat) (t : List (List Int)) (A : Option Addr) (n c : Nat) (ph : List Int) (w : World) (B : Nat) (hT : Sl2 w B ILit At m ct t) (hS : Sl w B ILit A n c ph) (hB : B ≤ w.heap.size) (hn : n ≤ 1099511627776) :
    Calls Try.prog 56 #[.slice At m ct, .slice A n c] w fun e w' => e = .returned (.bool (fitsB t ph)) ∧ Below w.heap.size w w' := by
  obtain ⟨ht0, ht1⟩ := hT.cap
  have hl := hT.len
  have cv := sValidClearance_c At m ct t w B hT hB
  have hS0 := hS.more hB
  have hT0 := hT.more hB
  cases hok : cOk t
  · have HE := Lib.hid (fitsB_no (ph := ph) hok)
    rw [hok] at cv
    have CV := Lib.hid cv
    clear cv hok hS hT hS0 hT0 hl
    go_enter Try.func56, Try.ntmps56
    go_wp2_with fail
    refine CV.out.mono ?_
    rintro e w1 ⟨rfl, hb1⟩
    go_wp2_with fail
    go_ret
    exact ⟨by rw [HE.out]; rfl, hb1⟩
  · obtain ⟨h1m, h8m, hsq, -, -⟩ := cOk_iff.1 hok
    have hfy := fitsB_yes (ph := ph) hok
    have hcy := confF_yes' hok
    rw [hl] at h1m h8m hfy
    rw [hok] at cv
    have CV := Lib.hid cv
    have ca := fun w' (hb : Below w.heap.size w w') => ascending_c A n c ph 0 ((m : Int) - 1) w' _ (hS0.below hb) hb.size hn
    have cc := fun w' (hb : Below w.heap.size w w') => sConflictsOf_c At m ct t w' _ (hT0.below hb) hb.size
    rw [hcy] at cc
    have HSQ := Lib.hid (conf_sq hsq)
    have HTL := Lib.hid ((conf_len t).trans hl)
    cases hp : ascB ph 0 ((m : Int) - 1)
    · have HE : Hid (fitsB t ph = false) := Lib.hid (by rw [hfy, hp]; rfl)
      rw [hp] at ca
      have CA := Lib.hid ca
      clear cv ca cc hok hp hfy hcy hsq hS hT hS0 hT0 hl
      go_enter Try.func56, Try.ntmps56
      go_wp2_with fail
      refine CV.out.mono ?_
      rintro e w1 ⟨rfl, hb1⟩
      have hz1 := hb1.size
      go_wp2_with fail
      refine (CA.out w1 hb1).mono ?_
      rintro e w2 ⟨rfl, hb2⟩
      go_wp2_with fail
      go_ret
      exact ⟨by rw [HE.out]; rfl, hb1.trans (hb2.mono hz1)⟩
    · have HE : Hid (fitsB t ph = clearB (conf t) ph) := Lib.hid (by rw [hfy, hp]; rfl)
      have HIN := Lib.hid (ascB_all hp)
      rw [hp] at ca
      have CA := Lib.hid ca
      have CC := Lib.hid cc
      have HS0 := Lib.hid hS0
      clear cv ca cc hok hp hfy hcy hsq hS hT hS0 hT0 hl
      go_enter Try.func56, Try.ntmps56
      go_wp2_with fail
      refine CV.out.mono ?_
      rintro e w1 ⟨rfl, hb1⟩
      have hz1 := hb1.size
      go_wp2_with fail
      refine (CA.out w1 hb1).mono ?_
      rintro e w2 ⟨rfl, hb2⟩
      have hb02 := hb1.trans (hb2.mono hz1)
      have hz2 := hb02.size
      clear hb1 hb2 hz1
      go_wp2_with fail
      refine (CC.out w2 hb02).mono ?_
      rintro e w3 ⟨A3, m3, c3, rfl, hO3, hb3⟩
      have hb03 := hb02.trans (hb3.mono hz2)
      have hz3 := hb3.size
      have hm3 : m3 = m := by rw [← hO3.len]; exact HTL.out
      subst hm3
      have C4 := Lib.hid (clear_c A3 m3 c3 (conf t) A n c ph w3 _ hO3.sl2 ((HS0.out.below hb03).more (B' := w3.heap.size) (by omega)) (Nat.le_refl _) HSQ.out HIN.out (by omega))
      clear hO3 hb02 hb3
      go_wp2_with fail
      refine C4.out.mono ?_
      rintro e w4 ⟨rfl, hb4⟩
      go_wp2_with fail
      go_ret
      exact ⟨by rw [HE.out]; rfl, hb03.trans (hb4.mono (by omega))⟩
end Go.Proofs.Ytckohbjgogbfaaa
