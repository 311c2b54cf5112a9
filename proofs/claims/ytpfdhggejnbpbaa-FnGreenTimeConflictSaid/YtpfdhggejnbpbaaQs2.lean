/- Counting seconds, plain. -/
import Derived.Test.YtpfdhggejnbpbaaQs1
set_option linter.unusedVariables false
set_option linter.unusedSimpArgs false
namespace Go.Proofs.Ytpfdhggejnbpbaa
open Go.RowKit

/-- How many of the numbers ahead of k pass. -/
def cn (p : Nat → Bool) : Nat → Nat
  | 0 => 0
  | k + 1 => cn p k + (if p k = true then 1 else 0)
section
variable {p q : Nat → Bool} {i j k N : Nat}
theorem cn_mono (h : i ≤ j) : cn p i ≤ cn p j := by
  induction j with
  | zero => have : i = 0 := by omega
            subst this; exact Nat.le_refl _
  | succ j ih =>
    rcases Nat.lt_or_ge j i with hl | hl
    · have : i = j + 1 := by omega
      subst this; exact Nat.le_refl _
    · have := ih hl
      rw [cn]; omega
theorem cn_up (h : i ≤ j) : cn p j ≤ cn p i + (j - i) := by
  induction j with
  | zero => have : i = 0 := by omega
            subst this; omega
  | succ j ih =>
    rcases Nat.lt_or_ge j i with hl | hl
    · have : i = j + 1 := by omega
      subst this; omega
    · have := ih hl
      rw [cn]; split <;> omega
theorem cn_none (h : i ≤ j) (hp : ∀ s, i ≤ s → s < j → p s = false) : cn p j = cn p i := by
  induction j with
  | zero => have : i = 0 := by omega
            subst this; rfl
  | succ j ih =>
    rcases Nat.lt_or_ge j i with hl | hl
    · have : i = j + 1 := by omega
      subst this; rfl
    · have := ih hl fun s h1 h2 => hp s h1 (by omega)
      rw [cn, hp j hl (by omega), if_neg (by simp)]; omega
theorem cn_all (h : i ≤ j) (hp : ∀ s, i ≤ s → s < j → p s = true) : cn p j = cn p i + (j - i) := by
  induction j with
  | zero => have : i = 0 := by omega
            subst this; omega
  | succ j ih =>
    rcases Nat.lt_or_ge j i with hl | hl
    · have : i = j + 1 := by omega
      subst this; omega
    · have := ih hl fun s h1 h2 => hp s h1 (by omega)
      rw [cn, hp j hl (by omega), if_pos rfl]; omega
theorem cn_or (h : ∀ s, ¬ (p s = true ∧ q s = true)) : cn (fun s => p s || q s) k = cn p k + cn q k := by
  induction k with
  | zero => rfl
  | succ k ih =>
    have hk := h k
    simp only [cn, ih]
    rcases Bool.eq_false_or_eq_true (p k) with h1 | h1 <;> rcases Bool.eq_false_or_eq_true (q k) with h2 | h2 <;> simp [h1, h2] at hk ⊢ <;> omega
theorem cn_per (h : ∀ s, p (s + N) = p s) (s : Nat) : cn p (s + N) = cn p s + cn p N := by
  induction s with
  | zero => simp [cn]
  | succ s ih =>
    rw [show s + 1 + N = s + N + 1 by omega, cn, cn, ih, h]; omega
theorem cn_first (h : cn p i < cn p j) : ∃ s, i ≤ s ∧ s < j ∧ p s = true ∧ cn p s = cn p i := by
  induction j with
  | zero => have := cn_mono (p := p) (Nat.zero_le i); omega
  | succ j ih =>
    by_cases hl : cn p i < cn p j
    · obtain ⟨s, h1, h2, h3, h4⟩ := ih hl
      exact ⟨s, h1, by omega, h3, h4⟩
    · have hij : i ≤ j := by
        rcases Nat.lt_or_ge j i with hh | hh
        · have := cn_mono (p := p) (show j + 1 ≤ i by omega); omega
        · exact hh
      have hm := cn_mono (p := p) hij
      rw [cn] at h
      cases hp : p j
      · rw [hp, if_neg (by simp)] at h; omega
      · exact ⟨j, hij, by omega, hp, by omega⟩
theorem cn_last (h : cn p i < cn p j) : ∃ s, i ≤ s ∧ s < j ∧ p s = true ∧ cn p (s + 1) = cn p j := by
  induction j with
  | zero => have := cn_mono (p := p) (Nat.zero_le i); omega
  | succ j ih =>
    have hij : i ≤ j := by
      rcases Nat.lt_or_ge j i with hh | hh
      · have := cn_mono (p := p) (show j + 1 ≤ i by omega); omega
      · exact hh
    cases hp : p j
    · have e : cn p (j + 1) = cn p j := by rw [cn, hp, if_neg (by simp)]; omega
      rw [e] at h ⊢
      obtain ⟨s, h1, h2, h3, h4⟩ := ih h
      exact ⟨s, h1, by omega, h3, h4⟩
    · exact ⟨j, hij, by omega, hp, rfl⟩

/-- Two kinds of seconds in a ring of N: where each change between them takes its time, the ring has room for all. -/
theorem ring_room {d1 d2 : Nat} (hp : ∀ s, p (s + N) = p s) (hq : ∀ s, q (s + N) = q s) (hd : ∀ s, ¬ (p s = true ∧ q s = true))
    (h1 : ∀ a b, a < b → p a = true → q b = true → a + d1 < b) (h2 : ∀ a b, a < b → q a = true → p b = true → a + d2 < b) (hpn : 0 < cn p N) (hqn : 0 < cn q N) :
    cn p N + cn q N + d1 + d2 ≤ N := by
  obtain ⟨s0, -, hs0, hps, -⟩ := cn_first (p := p) (i := 0) (j := N) (by simpa [cn] using hpn)
  have eq := cn_per hq s0
  have ep := cn_per hp s0
  obtain ⟨m1, a1, a2, a3, a4⟩ := cn_first (p := q) (i := s0) (j := s0 + N) (by omega)
  obtain ⟨m2, b1, b2, b3, b4⟩ := cn_last (p := q) (i := s0) (j := s0 + N) (by omega)
  have hne : s0 ≠ m1 := fun h => hd s0 ⟨hps, h ▸ a3⟩
  have c0 : cn p (s0 + 1) = cn p s0 + 1 := by rw [cn, if_pos hps]
  have c1 := cn_mono (p := p) (show s0 + 1 ≤ m1 by omega)
  obtain ⟨x1, x2, x3, x4, x5⟩ := cn_last (p := p) (i := s0) (j := m1) (by omega)
  have c2 : cn p (s0 + N + 1) = cn p (s0 + N) + 1 := by rw [cn, hp s0, if_pos hps]
  have c3 := cn_mono (p := p) (show m2 + 1 ≤ s0 + N by omega)
  obtain ⟨y, y2, y3, y4, y5⟩ := cn_first (p := p) (i := m2 + 1) (j := s0 + N + 1) (by omega)
  have g1 := h1 _ _ x3 x4 a3
  have g2 := h2 _ _ (show m2 < y by omega) b3 y4
  have hm12 : m1 ≤ m2 := by
    rcases Nat.lt_or_ge m2 m1 with h | h
    · have := cn_mono (p := q) (show m2 + 1 ≤ m1 by omega)
      omega
    · exact h
  have r := fun k => cn_or (k := k) hd
  have e1 := cn_up (p := fun s => p s || q s) (show s0 ≤ x1 + 1 by omega)
  have e3 := cn_up (p := fun s => p s || q s) (show m1 ≤ m2 + 1 by omega)
  have e5 := cn_up (p := fun s => p s || q s) (show y ≤ s0 + N by omega)
  rw [r, r] at e1 e3 e5
  have f1 := cn_mono (p := q) (show s0 ≤ x1 + 1 by omega)
  have f2 := cn_mono (p := q) (show x1 + 1 ≤ m1 by omega)
  have f3 := cn_mono (p := q) (show m2 + 1 ≤ y by omega)
  have f4 := cn_mono (p := q) (show y ≤ s0 + N by omega)
  omega
end

section
variable {t : List (List Int)} {ss : List (List Int × Int)} {x : Int} {N : Nat}
/-- Whether a movement has green. -/
def grnB (t : List (List Int)) (ss : List (List Int × Int)) (x : Int) (N : Nat) (s : Nat) : Bool := decide (x ∈ greenN t ss ((s % N : Nat) : Int))
theorem grnB_per (s : Nat) : grnB t ss x N (s + N) = grnB t ss x N s := by
  unfold grnB; rw [Nat.add_mod_right]
theorem gtUp_cn {k : Nat} (hk : k ≤ N) : gtUp t ss x k = (cn (grnB t ss x N) k : Nat) := by
  induction k with
  | zero => rfl
  | succ k ih =>
    rw [gtUp, cn, ih (by omega), grnB, Nat.mod_eq_of_lt (show k < N by omega)]
    by_cases h : x ∈ greenN t ss (k : Int)
    · rw [if_pos h, if_pos (by simpa using h)]; omega
    · rw [if_neg h, if_neg (by simpa using h)]; omega

/-- Conflicts share the cycle. -/
theorem conflict_room (hpl : planB t ss = true) (hN : cycN t ss = (N : Int)) {y : Int} (hx0 : 0 ≤ x ∧ x < t.length) (hy0 : 0 ≤ y ∧ y < t.length) (hc : 0 < cAt t x.toNat y.toNat) (hx : 0 < gtUp t ss x N) (hy : 0 < gtUp t ss y N) :
    gtUp t ss x N + gtUp t ss y N + cAt t x.toNat y.toNat + cAt t y.toNat x.toNat ≤ N := by
  obtain ⟨p1, p2, p3, p4, p5, p6⟩ := plan_parts hpl rfl rfl
  have hn : 0 < ss.length := by omega
  have b1 := cAt_bd p2 x.toNat y.toNat
  have b2 := cAt_bd p2 y.toNat x.toNat
  rw [gtUp_cn (Nat.le_refl N)] at hx hy ⊢
  rw [gtUp_cn (Nat.le_refl N)]
  have := ring_room (p := grnB t ss x N) (q := grnB t ss y N) (N := N) (d1 := (cAt t x.toNat y.toNat).toNat) (d2 := (cAt t y.toNat x.toNat).toNat) grnB_per grnB_per
    (fun s hs => by
      simp only [grnB, decide_eq_true_eq] at hs
      obtain ⟨i, hi1, hi2, hi3⟩ := green_unr p2 p4 hn hN s
      rw [hi3] at hs
      have := fits_clear (phAt_fits (fun s hs => ((plan_iff.1 hpl).2.2 s hs).1) (Nat.mod_lt i hn)) (grnJ_sub hs.1) (grnJ_sub hs.2)
      omega)
    (fun a b hab ha hb => by
      simp only [grnB, decide_eq_true_eq] at ha hb
      have := clear_kept hpl hN hab ha hb
      omega)
    (fun a b hab ha hb => by
      simp only [grnB, decide_eq_true_eq] at ha hb
      have := clear_kept hpl hN hab ha hb
      omega) (by omega) (by omega)
  omega

/-- Greens of the stages in which a movement is, the first k. -/
def totX (ss : List (List Int × Int)) (x : Int) : Nat → Int
  | 0 => 0
  | k + 1 => totX ss x k + (if x ∈ phAt ss k then grAt ss k else 0)
theorem totX_bd (h : grOk ss) (k : Nat) : 0 ≤ totX ss x k ∧ totX ss x k ≤ 40 * k := by
  induction k with
  | zero => exact ⟨Int.le_refl _, Int.le_refl _⟩
  | succ k ih =>
    have h1 := grAt_bd h k
    unfold totX
    split <;> omega
/-- In the green of a stage its phase has green. -/
theorem green_stage (hi : inC t = true) (h : grOk ss) {k : Nat} (hk : k < ss.length) {s : Int} (h1 : cycUp t ss k ≤ s) (h2 : s < cycUp t ss k + grAt ss k) : greenN t ss s = phAt ss k := by
  have hd := changeN_bd hi (phAt ss k) (phAt ss ((k + 1) % ss.length))
  have he : cycUp t ss (k + 1) = cycUp t ss k + (grAt ss k + changeN t (phAt ss k) (phAt ss ((k + 1) % ss.length))) := rfl
  rw [greenN, stg_of hi h hk h1 (by omega), greenK, if_pos (by omega)]
theorem cyc_in (hi : inC t = true) (h : grOk ss) {k : Nat} (hk : k < ss.length) (hN : cycN t ss = (N : Int)) : cycUp t ss k + grAt ss k ≤ N := by
  have hd := changeN_bd hi (phAt ss k) (phAt ss ((k + 1) % ss.length))
  have he : cycUp t ss (k + 1) = cycUp t ss k + (grAt ss k + changeN t (phAt ss k) (phAt ss ((k + 1) % ss.length))) := rfl
  have := cycUp_mono hi h (t := t) (show k + 1 ≤ ss.length from hk) (Nat.le_refl _)
  have e : cycN t ss = cycUp t ss ss.length := rfl
  omega
theorem tot_le (hi : inC t = true) (h : grOk ss) (hN : cycN t ss = (N : Int)) (k : Nat) (hk : k ≤ ss.length) : totX ss x k ≤ (cn (grnB t ss x N) (cycUp t ss k).toNat : Nat) := by
  induction k with
  | zero => simp [totX, cycUp, cn]
  | succ k ih =>
    have h0 := ih (by omega)
    have hb := (cycUp_bd hi h (t := t) k).1
    have hg := grAt_ge h (show k < ss.length from hk)
    have hlt := cycUp_lt hi h (t := t) (show k < ss.length from hk)
    have hin := cyc_in hi h (show k < ss.length from hk) hN
    have hd := changeN_bd hi (phAt ss k) (phAt ss ((k + 1) % ss.length))
    have he : cycUp t ss (k + 1) = cycUp t ss k + (grAt ss k + changeN t (phAt ss k) (phAt ss ((k + 1) % ss.length))) := rfl
    have hm := cn_mono (p := grnB t ss x N) (show (cycUp t ss k + grAt ss k).toNat ≤ (cycUp t ss (k + 1)).toNat by omega)
    have hm0 := cn_mono (p := grnB t ss x N) (show (cycUp t ss k).toNat ≤ (cycUp t ss k + grAt ss k).toNat by omega)
    unfold totX
    split
    · rename_i hx
      have := cn_all (p := grnB t ss x N) (show (cycUp t ss k).toNat ≤ (cycUp t ss k + grAt ss k).toNat by omega) fun s h1 h2 => by
        rw [grnB, Nat.mod_eq_of_lt (by omega), green_stage hi h hk (by omega) (by omega)]
        simpa using hx
      omega
    · omega
theorem gt_tot (hi : inC t = true) (h : grOk ss) (hN : cycN t ss = (N : Int)) : totX ss x ss.length ≤ gtUp t ss x N := by
  have := tot_le (x := x) hi h hN ss.length (Nat.le_refl _)
  have e : cycUp t ss ss.length = (N : Int) := hN
  rw [e, Int.toNat_natCast] at this
  rw [gtUp_cn (Nat.le_refl N)]
  exact this
theorem tot_zero (h : grOk ss) {k : Nat} (hk : k ≤ ss.length) (h0 : totX ss x k = 0) : ∀ i, i < k → x ∉ phAt ss i := by
  induction k with
  | zero => intro i hi; omega
  | succ k ih =>
    intro i hi hx
    have hb := (totX_bd h k (x := x)).1
    have hg := grAt_ge h (show k < ss.length from hk)
    rw [totX] at h0
    rcases Nat.lt_or_ge i k with hl | hl
    · refine ih (by omega) ?_ i hl hx
      split at h0 <;> omega
    · obtain rfl : i = k := by omega
      rw [if_pos hx] at h0; omega
theorem gt_zero (hi : inC t = true) (h : grOk ss) (hn : 0 < ss.length) (hN : cycN t ss = (N : Int)) : gtUp t ss x N = 0 ↔ totX ss x ss.length = 0 := by
  constructor
  · intro h0
    have h1 := gt_tot (x := x) hi h hN
    have h2 := (totX_bd h ss.length (x := x)).1
    omega
  · intro h0
    have hx := tot_zero h (Nat.le_refl _) h0
    rw [gtUp_cn (Nat.le_refl N), cn_none (i := 0) (Nat.zero_le _) fun s _ _ => by
      simp only [grnB, decide_eq_false_iff_not]
      intro hin
      obtain ⟨j, -, -, hj⟩ := green_unr hi h hn hN s
      rw [hj] at hin
      exact hx _ (Nat.mod_lt j hn) (grnJ_sub hin)]
    rfl

/-- What the longest red is. -/
theorem lr_spec (k : Nat) : ∃ L r : Nat, lrUp t ss x N k = ((L : Int), (r : Int)) ∧ r ≤ L ∧ r ≤ k ∧ (∀ s, k - r ≤ s → s < k → grnB t ss x N s = false) ∧
    (∃ i, i + L ≤ k ∧ ∀ s, i ≤ s → s < i + L → grnB t ss x N s = false) ∧ (∀ i l, i + l ≤ k → (∀ s, i ≤ s → s < i + l → grnB t ss x N s = false) → l ≤ L) ∧ (∀ l, l ≤ k → (∀ s, k - l ≤ s → s < k → grnB t ss x N s = false) → l ≤ r) := by
  induction k with
  | zero => exact ⟨0, 0, rfl, Nat.le_refl _, Nat.le_refl _, fun s _ h => by omega, ⟨0, by omega, fun s _ h => by omega⟩, fun i l h _ => by omega, fun l h _ => h⟩
  | succ k ih =>
    obtain ⟨L, r, e, h1, h2, h3, ⟨i, h4, h5⟩, h6, h7⟩ := ih
    have hG : grnB t ss x N k = decide (x ∈ greenN t ss ((k % N : Nat) : Int)) := rfl
    by_cases hx : x ∈ greenN t ss ((k % N : Nat) : Int)
    · rw [decide_eq_true hx] at hG
      refine ⟨L, 0, by rw [lrUp, if_pos hx, e]; rfl, Nat.zero_le _, Nat.zero_le _, fun s h8 h9 => by omega, ⟨i, by omega, h5⟩, fun i' l hl hr => ?_, fun l hl hr => ?_⟩
      · rcases Nat.lt_or_ge k (i' + l) with h | h
        · rcases Nat.eq_zero_or_pos l with h0 | h0
          · omega
          · have := hr k (by omega) (by omega)
            rw [hG] at this; cases this
        · exact h6 i' l h hr
      · rcases Nat.eq_zero_or_pos l with h0 | h0
        · omega
        · have := hr k (by omega) (by omega)
          rw [hG] at this; cases this
    · rw [decide_eq_false hx] at hG
      have h8 : ∀ l, l ≤ k + 1 → (∀ s, k + 1 - l ≤ s → s < k + 1 → grnB t ss x N s = false) → l ≤ r + 1 := fun l hl hr => by
        rcases Nat.eq_zero_or_pos l with h0 | h0
        · omega
        · have := h7 (l - 1) (by omega) fun s h9 h10 => hr s (by omega) (by omega)
          omega
      have h9 : ∀ s, k + 1 - (r + 1) ≤ s → s < k + 1 → grnB t ss x N s = false := fun s h10 h11 => by
        rcases Nat.lt_or_ge s k with h | h
        · exact h3 s (by omega) h
        · obtain rfl : s = k := by omega
          exact hG
      refine ⟨max L (r + 1), r + 1, by rw [lrUp, if_neg hx, e]; dsimp only; congr 1; omega, by omega, by omega, h9, ?_, fun i' l hl hr => ?_, h8⟩
      · rcases Nat.lt_or_ge L (r + 1) with h | h
        · exact ⟨k - r, by omega, fun s h10 h11 => h9 s (by omega) (by omega)⟩
        · exact ⟨i, by omega, fun s h10 h11 => h5 s h10 (by omega)⟩
      · rcases Nat.lt_or_ge k (i' + l) with h | h
        · have := h8 l (by omega) fun s h10 h11 => hr s (by omega) (by omega)
          omega
        · have := h6 i' l h hr
          omega
/-- Red is bounded. -/
theorem lr_law (hN0 : 0 < N) {n g : Int} (hn : n = min (lrUp t ss x N (2 * N)).1 N) (hg : g = gtUp t ss x N) : 0 ≤ n ∧ n ≤ N - g ∧ (0 < g ∨ n = N) ∧ (g = N ↔ n = 0) := by
  obtain ⟨L, r, e, h1, h2, h3, ⟨i, h4, h5⟩, h6, h7⟩ := lr_spec (t := t) (ss := ss) (x := x) (N := N) (2 * N)
  rw [e] at hn
  rw [gtUp_cn (Nat.le_refl N)] at hg
  dsimp only at hn
  have hper := cn_per (p := grnB t ss x N) (N := N) grnB_per i
  have hle := cn_up (p := grnB t ss x N) (Nat.zero_le N)
  have hc0 : cn (grnB t ss x N) 0 = 0 := rfl
  rcases Nat.eq_zero_or_pos (cn (grnB t ss x N) N) with hz | hz
  · have := h6 0 (2 * N) (by omega) fun s _ hs => by
      cases hb : grnB t ss x N s
      · rfl
      · have hN2 : cn (grnB t ss x N) (N + N) = cn (grnB t ss x N) N + cn (grnB t ss x N) N := cn_per grnB_per N
        have hs1 : cn (grnB t ss x N) (s + 1) = cn (grnB t ss x N) s + 1 := by rw [cn, if_pos hb]
        have := cn_mono (p := grnB t ss x N) (show s + 1 ≤ N + N by omega)
        omega
    omega
  · have hLN : L < N := by
      rcases Nat.lt_or_ge L N with h | h
      · exact h
      · have := cn_none (p := grnB t ss x N) (show i ≤ i + N by omega) fun s h8 h9 => h5 s h8 (by omega)
        omega
    have e1 := cn_none (p := grnB t ss x N) (show i ≤ i + L by omega) h5
    have e2 := cn_up (p := grnB t ss x N) (show i + L ≤ i + N by omega)
    refine ⟨by omega, by omega, by omega, by omega, fun h0 => ?_⟩
    have hL0 : L = 0 := by omega
    have := cn_all (p := grnB t ss x N) (Nat.zero_le N) fun s _ hs => by
      cases hb : grnB t ss x N s
      · have := h6 s 1 (by omega) fun s' h8 h9 => by
          obtain rfl : s' = s := by omega
          exact hb
        omega
      · rfl
    omega
/-- Longer greens of others mean longer reds. -/
theorem lr_plan (hi : inC t = true) (h : grOk ss) (hN : cycN t ss = (N : Int)) {n : Int} (hn : n = min (lrUp t ss x N (2 * N)).1 N) {k : Nat} (hk : k < ss.length) (hx : x ∉ phAt ss k) : grAt ss k ≤ n := by
  obtain ⟨L, r, e, h1, h2, h3, -, h6, h7⟩ := lr_spec (t := t) (ss := ss) (x := x) (N := N) (2 * N)
  rw [e] at hn
  dsimp only at hn
  have hb := (cycUp_bd hi h (t := t) k).1
  have hg := grAt_ge h hk
  have hin := cyc_in hi h hk hN
  have := h6 (cycUp t ss k).toNat (grAt ss k).toNat (by omega) fun s h8 h9 => by
    rw [grnB, Nat.mod_eq_of_lt (by omega), green_stage hi h hk (by omega) (by omega)]
    simpa using hx
  omega
end
end Go.Proofs.Ytpfdhggejnbpbaa
