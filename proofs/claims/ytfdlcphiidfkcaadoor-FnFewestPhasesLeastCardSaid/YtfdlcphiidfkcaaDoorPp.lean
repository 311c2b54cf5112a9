/- My words and contracts, laid together: Pa1, Pa2, Pa4, Pa5. -/
import Derived.Test.YtfdlcphiidfkcaaDoorBb
import Derived.Test.YtfdlcphiidfkcaaDoorBc
import Derived.IntWalk
set_option linter.unusedVariables false
set_option linter.unusedSimpArgs false
/- Tables of conflicts and phases in plain words. -/
namespace Go.Proofs.YtfdlcphiidfkcaaDoor
open Go.RowKit

theorem inB_iff {x lo hi : Int} (h : inB x lo hi = true) : lo ≤ x ∧ x ≤ hi := by
  simpa [inB] using h

/-- t[a][b]. -/
def tAt (t : List (List Bool)) (a b : Nat) : Bool := (t.getD a []).getD b false
def okAt (t : List (List Bool)) (a b : Nat) : Bool := (tAt t a b == tAt t b a) && !(a == b && tAt t a b)
def sqB {α : Type} (t : List (List α)) : Bool := t.all fun r => r.length == t.length
def tOk (t : List (List Bool)) : Bool := inB t.length 1 8 && sqB t && (List.range t.length).all fun a => (List.range t.length).all fun b => okAt t a b

theorem sqB_all {α : Type} {t : List (List α)} (h : sqB t = true) {a : Nat} {r : List α} (ha : t[a]? = some r) : r.length = t.length := by
  have := List.all_eq_true.1 h r (List.mem_of_getElem? ha)
  simpa using this
theorem sqB_bad {α : Type} {t : List (List α)} {a : Nat} {r : List α} (ha : t[a]? = some r) (hr : r.length ≠ t.length) : sqB t = false := by
  rw [sqB, List.all_eq_false]
  exact ⟨r, List.mem_of_getElem? ha, by simpa using hr⟩
theorem sqB_mk {α : Type} {t : List (List α)} (h : ∀ (a : Nat) (r : List α), t[a]? = some r → r.length = t.length) : sqB t = true := by
  rw [sqB, List.all_eq_true]
  intro r hr
  obtain ⟨a, ha⟩ := List.getElem?_of_mem hr
  simpa using h a r ha
theorem tAt_of {t : List (List Bool)} {a b : Nat} {r : List Bool} {x : Bool} (ha : t[a]? = some r) (hb : r[b]? = some x) : tAt t a b = x := by
  simp [tAt, List.getD_eq_getElem?_getD, ha, hb]
theorem tOk_iff {t : List (List Bool)} : tOk t = true ↔ 1 ≤ t.length ∧ t.length ≤ 8 ∧ sqB t = true ∧ ∀ a b, a < t.length → b < t.length → okAt t a b = true := by
  simp only [tOk, inB, Bool.and_eq_true, decide_eq_true_eq, List.all_eq_true, List.mem_range]
  constructor
  · rintro ⟨⟨⟨h1, h2⟩, h3⟩, h4⟩
    exact ⟨by omega, by omega, h3, fun a b ha hb => h4 a ha b hb⟩
  · rintro ⟨h1, h2, h3, h4⟩
    exact ⟨⟨⟨by omega, by omega⟩, h3⟩, fun a ha b hb => h4 a b ha hb⟩
theorem tOk_bad {t : List (List Bool)} {a b : Nat} (ha : a < t.length) (hb : b < t.length) (h : okAt t a b = false) : tOk t = false := by
  cases e : tOk t
  · rfl
  · have := (tOk_iff.1 e).2.2.2 a b ha hb
    rw [h] at this; cases this
theorem tOk_range {t : List (List Bool)} (h : inB t.length 1 8 = false) : tOk t = false := by simp [tOk, h]
theorem tOk_sq {t : List (List Bool)} (h : sqB t = false) : tOk t = false := by simp [tOk, h]
theorem tOk_sym {t : List (List Bool)} (h : tOk t = true) {a b : Nat} (ha : a < t.length) (hb : b < t.length) : tAt t a b = tAt t b a := by
  have := (tOk_iff.1 h).2.2.2 a b ha hb
  simp only [okAt, Bool.and_eq_true, beq_iff_eq] at this
  exact this.1
theorem tOk_irr {t : List (List Bool)} (h : tOk t = true) {a : Nat} (ha : a < t.length) : tAt t a a = false := by
  have := (tOk_iff.1 h).2.2.2 a a ha ha
  simpa [okAt] using this
/-- What the reference checks: the rows' lengths, the diagonal, and what lies below it. -/
theorem tOk_of_half {t : List (List Bool)} (h1 : 1 ≤ t.length) (h2 : t.length ≤ 8) (h : ∀ (i : Nat) (r : List Bool), t[i]? = some r → r.length = t.length ∧ tAt t i i = false ∧ ∀ k, k < i → tAt t i k = tAt t k i) : tOk t = true := by
  refine tOk_iff.2 ⟨h1, h2, sqB_mk fun a r ha => (h a r ha).1, fun a b ha hb => ?_⟩
  have hd := (h a _ (List.getElem?_eq_getElem ha)).2.1
  have e : tAt t a b = tAt t b a := by
    rcases Nat.lt_trichotomy a b with hl | he | hg
    · exact ((h b _ (List.getElem?_eq_getElem hb)).2.2 a hl).symm
    · rw [he]
    · exact (h a _ (List.getElem?_eq_getElem ha)).2.2 b hg
  simp only [okAt, e, beq_self_eq_true, Bool.true_and]
  by_cases he : a = b
  · subst he; simp [hd]
  · simp [he]
theorem okAt_bad1 {t : List (List Bool)} {a b : Nat} (h : tAt t a b ≠ tAt t b a) : okAt t a b = false := by simp [okAt, h]
theorem okAt_bad2 {t : List (List Bool)} {a : Nat} (h : tAt t a a = true) : okAt t a a = false := by simp [okAt, h]
theorem okAt_ok {t : List (List Bool)} {a b : Nat} (h : tAt t a b = tAt t b a) (h2 : a = b → tAt t a b = false) : okAt t a b = true := by
  by_cases he : a = b
  · subst he; simp [okAt, h2 rfl]
  · simp [okAt, h, he]

/-- Phases: numbers that ascend in lo..hi; no two in conflict. -/
def ascB (ph : List Int) (lo hi : Int) : Bool := decide (ph.Pairwise (fun a b => a < b)) && allB ph lo hi
def clearB (t : List (List Bool)) (ph : List Int) : Bool := decide (ph.Pairwise (fun a b => tAt t b.toNat a.toNat = false))
def phOk (t : List (List Bool)) (ph : List Int) : Bool := ascB ph 0 ((t.length : Int) - 1) && clearB t ph
def phaseF (t : List (List Bool)) (ph : List Int) : Bool := tOk t && phOk t ph

theorem pw_snoc {α : Type} {R : α → α → Prop} {xs : List α} {k : Nat} {x : α} (h : xs[k]? = some x) : (xs.take (k + 1)).Pairwise R ↔ (xs.take k).Pairwise R ∧ ∀ y ∈ xs.take k, R y x := by
  rw [take_snoc h, List.pairwise_append]
  simp
theorem pw_bad {α : Type} {R : α → α → Prop} {xs : List α} {i k : Nat} {x y : α} (hk : k < i) (hx : xs[k]? = some x) (hy : xs[i]? = some y) (h : ¬ R x y) : ¬ xs.Pairwise R := by
  intro hp
  rw [List.pairwise_iff_getElem] at hp
  obtain ⟨l1, e1⟩ := List.getElem?_eq_some_iff.1 hx
  obtain ⟨l2, e2⟩ := List.getElem?_eq_some_iff.1 hy
  have := hp k i l1 l2 hk
  rw [e1, e2] at this
  exact h this
/-- One step of an ascending row: only the neighbour is asked. -/
theorem asc_snoc {xs : List Int} {k : Nat} {x y : Int} (hx : xs[k]? = some x) (hy : xs[k + 1]? = some y) (h : (xs.take (k + 1)).Pairwise (fun a b => a < b)) (hxy : x < y) : (xs.take (k + 2)).Pairwise (fun a b => a < b) := by
  rw [pw_snoc hy]
  refine ⟨h, fun z hz => ?_⟩
  rw [pw_snoc hx] at h
  rw [take_snoc hx] at hz
  rcases List.mem_append.1 hz with h' | h'
  · have := h.2 z h'; omega
  · simp at h'; omega
theorem mem_take_at {α : Type} {xs : List α} {k : Nat} {x : α} (h : x ∈ xs.take k) : ∃ j, j < k ∧ xs[j]? = some x := by
  obtain ⟨j, hj⟩ := List.getElem?_of_mem h
  rw [List.getElem?_take] at hj
  split at hj
  · exact ⟨j, ‹_›, hj⟩
  · cases hj
end Go.Proofs.YtfdlcphiidfkcaaDoor

/- ValidConflicts and validTable: what they compute. -/
namespace Go.Proofs.YtfdlcphiidfkcaaDoor
open Go.RowKit

/-- One entry of a table that came in: its row's slice and its cell. -/
theorem Sl2.entry {α : Type} {w : World} {B n c : Nat} {f : α → Value} {A : Option Addr} {t : List (List α)} (h : Sl2 w B f A n c t) (hsq : sqB t = true) {a : Nat} (ha : a < n) :
    ∃ b o b' o' c' r, A = some ⟨b, o, none⟩ ∧ b < B ∧ b' < B ∧ t[a]? = some r ∧ r.length = n ∧ n ≤ c' ∧ w.cell? ⟨b, o + a, none⟩ = some (.slice (some ⟨b', o', none⟩) n c') ∧ ∀ k x, r[k]? = some x → w.cell? ⟨b', o' + k, none⟩ = some (f x) := by
  obtain ⟨b, o, r, A', n', c', hA, hb, hr, hc, hrow⟩ := h.at_ ha
  have hl := sqB_all hsq hr
  rw [h.len] at hl
  have hn' : n' = n := by rw [← hrow.len]; exact hl
  subst hn'
  obtain ⟨b', o', hA', hb', hcell⟩ := hrow.2.2.2 (by omega)
  subst hA'
  exact ⟨b, o, b', o', c', r, hA, hb, hb', hr, hl, hrow.2.1, hc, hcell⟩

set_option maxHeartbeats 2000000 in
theorem validConflicts_c (A : Option Addr) (n c : Nat) (t : List (List Bool)) (w : World) (B : Nat) (hS : Sl2 w B OLit A n c t) (hB : B ≤ w.heap.size) :
    Calls Tryd.prog 39 #[.slice A n c] w fun e w' => e = .returned (.bool (tOk t)) ∧ Below w.heap.size w w' := by
  obtain ⟨hc0, hc1⟩ := hS.cap
  have hl := hS.len
  have cw := fun w => within_c n 1 8 w
  have hS0 := hS.more hB
  clear hS
  cases hr : inB n 1 8
  · rw [hr] at cw
    have CW := Lib.hid cw
    have HE : Hid (tOk t = false) := Lib.hid (tOk_range (by rw [hl]; exact hr))
    clear cw hr hl
    go_enter Tryd.func39, Tryd.ntmps39
    go_wp2_with fail
    refine (CW.out _).mono ?_
    rintro e w' ⟨rfl, rfl⟩
    go_wp2_with fail
    go_ret
    exact ⟨by rw [HE.out]; rfl, Below.refl _ _⟩
  · obtain ⟨hn1, hn8⟩ := inB_iff hr
    rw [hr] at cw
    have CW := Lib.hid cw
    have HL := Lib.hid hl
    clear cw hr hl
    go_enter Tryd.func39, Tryd.ntmps39
    go_wp2_with fail
    refine (CW.out _).mono ?_
    rintro e w' ⟨rfl, rfl⟩
    go_wp2_with fail
    go_loopw [15] (fun i wr => ∃ (k : Nat), k ≤ n ∧ i = .int .i64 k ∧ Hid (∀ (a : Nat) (r : List Bool), a < k → t[a]? = some r → r.length = n) ∧ Below w.heap.size w wr) (fun i _ => n - (intOf i).toNat)
    case atStart => exact ⟨0, by omega, rfl, Lib.hid fun a r h => absurd h (by omega), Below.refl _ _⟩
    case round =>
      obtain ⟨k, hk, rfl, hrows, hb⟩ := hrel
      have hzr := hb.size
      by_cases hlt : k < n
      · obtain ⟨b, o, r, A', n', c', rfl, hbl, hx, hcell, hrow⟩ := (hS0.below hb).at_ hlt
        have hcell' : wr.cell? ⟨b, o + k, none⟩ = some (.slice A' n' c') := hcell
        have hrl := hrow.len
        by_cases hnn : n' = n
        · subst hnn
          have hn2 : Hid (∀ (a : Nat) (r : List Bool), a < k + 1 → t[a]? = some r → r.length = n') := Lib.hid fun a r' ha hr' => by
            rcases Nat.lt_or_ge a k with h | h
            · exact hrows.out a r' h hr'
            · obtain rfl : a = k := by omega
              rw [hx] at hr'
              injection hr' with hr'
              rw [← hr']; exact hrl
          clear hrow hcell hx hrl hrows
          go_wp2_with fail
          go_roundw
          case rel => exact ⟨k + 1, by omega, by go_num, hn2, hb⟩
          case measure => simp [intOf]; omega
        · have HE : Hid (tOk t = false) := Lib.hid (tOk_sq (sqB_bad hx (by rw [hrl, HL.out]; exact hnn)))
          have hne : ((n' : Int) != (n : Int)) = true := by simp [bne]; omega
          clear hrow hcell hx hrl hrows
          go_wp2_with fail
          go_ret
          exact ⟨by rw [HE.out]; rfl, hb⟩
      · have hsq : sqB t = true := sqB_mk fun a r ha => by
          rw [HL.out]
          have := (List.getElem?_eq_some_iff.1 ha).1
          rw [HL.out] at this
          exact hrows.out a r (by omega) ha
        have HSQ := Lib.hid hsq
        obtain rfl : k = n := by omega
        clear hrows hsq
        obtain ⟨wo, rfl⟩ : ∃ wo : World, wo = wr := ⟨_, rfl⟩
        go_wp2_with fail
        go_loopw [27] (fun i wr => ∃ (a : Nat), a ≤ k ∧ i = .int .i64 a ∧ Hid (∀ a' b', a' < a → b' < k → okAt t a' b' = true) ∧ Below w.heap.size w wr) (fun i _ => k - (intOf i).toNat)
        case atStart => exact ⟨0, by omega, rfl, Lib.hid fun a r h => absurd h (by omega), hb⟩
        case round =>
          clear hb hzr
          obtain ⟨a, ha, rfl, hok, hb⟩ := hrel
          have hzr := hb.size
          by_cases hlt2 : a < k
          · obtain ⟨b, o, b1, o1, c1, ra, rfl, hbl, hbl1, hra, hral, hrac, hcell, hrow⟩ := (hS0.below hb).entry HSQ.out hlt2
            have hk0 : (0 : Int) < (k : Int) := by omega
            have hcell' : wr.cell? ⟨b, o + a, none⟩ = some (.slice (some ⟨b1, o1, none⟩) k c1) := hcell
            have HRA := Lib.hid hra
            have HRL := Lib.hid hral
            have HROW := Lib.hid hrow
            have hS1 := (hS0.below hb).more hzr
            have hb1w : b1 < wr.heap.size := by omega
            clear hrow hcell hra hral
            go_wp2_with fail
            obtain ⟨wo, rfl⟩ : ∃ wo : World, wo = wr := ⟨_, rfl⟩
            clear hcell'
            go_loopw [34] (fun i wr => ∃ (b' : Nat), b' ≤ k ∧ i = .int .i64 b' ∧ Hid (∀ b'', b'' < b' → okAt t a b'' = true) ∧ Below wo.heap.size wo wr) (fun i _ => k - (intOf i).toNat)
            case atStart => exact ⟨0, by omega, rfl, Lib.hid fun a h => absurd h (by omega), Below.refl _ _⟩
            case round =>
              obtain ⟨j, hj, rfl, hok2, hb2⟩ := hrel
              have hzr2 := hb2.size
              by_cases hlt3 : j < k
              · obtain ⟨b2, o2, b3, o3, c3, rb, hA, -, hbl3, hrb, hrbl, hrbc, hcellb, hrowb⟩ := (hS1.below hb2).entry HSQ.out hlt3
                simp only [Option.some.injEq, Addr.mk.injEq, and_true] at hA
                obtain ⟨rfl, rfl⟩ := hA
                obtain ⟨x, hx⟩ : ∃ x, ra[j]? = some x := ⟨_, List.getElem?_eq_getElem (by rw [HRL.out]; exact hlt3)⟩
                obtain ⟨y, hy⟩ : ∃ y, rb[a]? = some y := ⟨_, List.getElem?_eq_getElem (by rw [hrbl]; exact hlt2)⟩
                have e1 := tAt_of HRA.out hx
                have e2 := tAt_of hrb hy
                have c1' : wr.cell? ⟨b1, o1 + j, none⟩ = some (.bool x) := (hb2.cell (p := ⟨b1, o1 + j, none⟩) hb1w).trans (HROW.out j x hx)
                have c2' : wr.cell? ⟨b, o + j, none⟩ = some (.slice (some ⟨b3, o3, none⟩) k c3) := hcellb
                have c3' : wr.cell? ⟨b3, o3 + a, none⟩ = some (.bool y) := hrowb a y hy
                have hal : a < t.length := by rw [HL.out]; exact hlt2
                have hjl : j < t.length := by rw [HL.out]; exact hlt3
                by_cases hxy : x = y
                · subst hxy
                  by_cases haj : a = j
                  · subst haj
                    cases x
                    · have hn2 : Hid (∀ b'', b'' < a + 1 → okAt t a b'' = true) := Lib.hid fun b'' h => by
                        rcases Nat.lt_or_ge b'' a with h1 | h1
                        · exact hok2.out b'' h1
                        · obtain rfl : b'' = a := by omega
                          exact okAt_ok rfl fun _ => e1
                      clear hcellb hrowb hrb hx hy e1 e2 hok2
                      go_wp2_with fail
                      go_roundw
                      case rel => exact ⟨a + 1, by omega, by go_num, hn2, hb2⟩
                      case measure => simp [intOf]; omega
                    · have HE : Hid (tOk t = false) := Lib.hid (tOk_bad hal hal (okAt_bad2 e1))
                      clear hcellb hrowb hrb hx hy e1 e2 hok2
                      go_wp2_with fail
                      go_ret
                      exact ⟨by rw [HE.out]; rfl, hb.trans (hb2.mono hzr)⟩
                  · have hn2 : Hid (∀ b'', b'' < j + 1 → okAt t a b'' = true) := Lib.hid fun b'' h => by
                      rcases Nat.lt_or_ge b'' j with h1 | h1
                      · exact hok2.out b'' h1
                      · obtain rfl : b'' = j := by omega
                        exact okAt_ok (e1.trans e2.symm) fun h => absurd h haj
                    have hne : ((a : Int) == (j : Int)) = false := by simp; omega
                    have hxx : (x != x) = false := by simp
                    clear hcellb hrowb hrb hx hy e1 e2 hok2
                    go_wp2_with fail
                    go_roundw
                    case rel => exact ⟨j + 1, by omega, by go_num, hn2, hb2⟩
                    case measure => simp [intOf]; omega
                · have HE : Hid (tOk t = false) := Lib.hid (tOk_bad hal hjl (okAt_bad1 (by rw [e1, e2]; exact hxy)))
                  have hxx : (x != y) = true := by simpa [bne] using hxy
                  clear hcellb hrowb hrb hx hy e1 e2 hok2
                  go_wp2_with fail
                  go_ret
                  exact ⟨by rw [HE.out]; rfl, hb.trans (hb2.mono hzr)⟩
              · have hn2 : Hid (∀ a' b', a' < a + 1 → b' < k → okAt t a' b' = true) := Lib.hid fun a' b' h1 h2 => by
                  rcases Nat.lt_or_ge a' a with h | h
                  · exact hok.out a' b' h h2
                  · obtain rfl : a' = a := by omega
                    exact hok2.out b' (by omega)
                clear hok hok2
                go_wp2_with fail
                go_roundw
                case rel => exact ⟨a + 1, by omega, by go_num, hn2, hb.trans (hb2.mono hzr)⟩
                case measure => simp [intOf]; omega
          · obtain rfl : a = k := by omega
            have HE : Hid (tOk t = true) := Lib.hid (tOk_iff.2 ⟨by rw [HL.out]; omega, by rw [HL.out]; omega, HSQ.out, fun x y hx hy => hok.out x y (by rw [HL.out] at hx; exact hx) (by rw [HL.out] at hy; exact hy)⟩)
            clear hok
            go_wp2_with fail
            go_ret
            exact ⟨by rw [HE.out]; rfl, hb⟩
set_option maxHeartbeats 2000000 in
theorem validTable_c (A : Option Addr) (n c : Nat) (t : List (List Bool)) (w : World) (B : Nat) (hS : Sl2 w B OLit A n c t) (hB : B ≤ w.heap.size) :
    Calls Tryd.prog 34 #[.slice A n c] w fun e w' => e = .returned (.bool (tOk t)) ∧ Below w.heap.size w w' := by
  obtain ⟨hc0, hc1⟩ := hS.cap
  have hl := hS.len
  have cw := fun w => inRange_c n 1 8 w
  have hS0 := hS.more hB
  clear hS
  cases hr : inB n 1 8
  · rw [hr] at cw
    have CW := Lib.hid cw
    have HE : Hid (tOk t = false) := Lib.hid (tOk_range (by rw [hl]; exact hr))
    clear cw hr hl
    go_enter Tryd.func34, Tryd.ntmps34
    go_wp2_with fail
    refine (CW.out _).mono ?_
    rintro e w' ⟨rfl, rfl⟩
    go_wp2_with fail
    go_ret
    exact ⟨by rw [HE.out]; rfl, Below.refl _ _⟩
  · obtain ⟨hn1, hn8⟩ := inB_iff hr
    rw [hr] at cw
    have CW := Lib.hid cw
    have HL := Lib.hid hl
    clear cw hr hl
    go_enter Tryd.func34, Tryd.ntmps34
    go_wp2_with fail
    refine (CW.out _).mono ?_
    rintro e w' ⟨rfl, rfl⟩
    go_wp2_with fail
    go_loopw [4] (fun i wr => ∃ (k : Nat), k ≤ n ∧ i = .int .i64 k ∧ Hid (∀ (a : Nat) (r : List Bool), a < k → t[a]? = some r → r.length = n ∧ tAt t a a = false ∧ ∀ b, b < a → tAt t a b = tAt t b a) ∧ Below w.heap.size w wr) (fun i _ => n - (intOf i).toNat)
    case atStart => exact ⟨0, by omega, rfl, Lib.hid fun a r h => absurd h (by omega), Below.refl _ _⟩
    case round =>
      obtain ⟨k, hk, rfl, hrows, hb⟩ := hrel
      have hzr := hb.size
      by_cases hlt : k < n
      · obtain ⟨b, o, r, A', n', c', rfl, hbl, hx, hcell, hrow⟩ := (hS0.below hb).at_ hlt
        have hcell' : wr.cell? ⟨b, o + k, none⟩ = some (.slice A' n' c') := hcell
        have hrl := hrow.len
        by_cases hnn : n' = n
        · subst hnn
          obtain ⟨b', o', y, rfl, hbl', hy, hyc⟩ := hrow.at_ hlt
          have hyc' : wr.cell? ⟨b', o' + k, none⟩ = some (.bool y) := hyc
          have hdg := tAt_of hx hy
          have hnb : ((n' : Int) != (n' : Int)) = false := by simp
          have hkn : (k : Int) < (n' : Int) := by omega
          cases y
          · have HROW := Lib.hid hrow.2.2.2
            have HX := Lib.hid hx
            have HRL := Lib.hid hrl
            have HDG := Lib.hid hdg
            have hS1 := (hS0.below hb).more hzr
            have hb'w : b' < wr.heap.size := by omega
            clear hrow hcell hx hy hyc hrl hdg
            go_wp2_with fail
            obtain ⟨wo, rfl⟩ : ∃ wo : World, wo = wr := ⟨_, rfl⟩
            clear hyc'
            go_loopw [5] (fun i wr => ∃ (j : Nat), j ≤ k ∧ i = .int .i64 j ∧ Hid (∀ b, b < j → tAt t k b = tAt t b k) ∧ Below wo.heap.size wo wr) (fun i _ => k - (intOf i).toNat)
            case atStart => exact ⟨0, by omega, rfl, Lib.hid fun a h => absurd h (by omega), Below.refl _ _⟩
            case round =>
              obtain ⟨j, hj, rfl, hok, hb2⟩ := hrel
              have hzr2 := hb2.size
              by_cases hjk : j < k
              · obtain ⟨bj, oj, rj, Aj, nj, cj, hA, -, hrj, hcj, hrowj⟩ := (hS1.below hb2).at_ (k := j) (by omega)
                simp only [Option.some.injEq, Addr.mk.injEq, and_true] at hA
                obtain ⟨rfl, rfl⟩ := hA
                have hnj := (hrows.out j rj hjk hrj).1
                have hnj' : nj = n' := by rw [← hrowj.len]; exact hnj
                subst hnj'
                obtain ⟨bj, oj, y, rfl, hblj, hy, hyc⟩ := hrowj.at_ hlt
                obtain ⟨bo, oo, hAo, -, hxo⟩ := HROW.out (by omega)
                simp only [Option.some.injEq, Addr.mk.injEq, and_true] at hAo
                obtain ⟨rfl, rfl⟩ := hAo
                obtain ⟨x, hx⟩ : ∃ x, r[j]? = some x := ⟨_, List.getElem?_eq_getElem (by rw [HRL.out]; omega)⟩
                have e1 := tAt_of HX.out hx
                have e2 := tAt_of hrj hy
                have c1' : wr.cell? ⟨b', o' + j, none⟩ = some (.bool x) := (hb2.cell (p := ⟨b', o' + j, none⟩) hb'w).trans (hxo j x hx)
                have c2' : wr.cell? ⟨b, o + j, none⟩ = some (.slice (some ⟨bj, oj, none⟩) nj cj) := hcj
                have c3' : wr.cell? ⟨bj, oj + k, none⟩ = some (.bool y) := hyc
                have c4' : wr.cell? ⟨b, o + k, none⟩ = some (.slice (some ⟨b', o', none⟩) nj c') := (hb2.cell (p := ⟨b, o + k, none⟩) (show b < _ by omega)).trans hcell'
                have w1 : b < wr.heap.size := by omega
                have w2 : b' < wr.heap.size := by omega
                have w3 : bj < wr.heap.size := by omega
                have j0 : (0 : Int) ≤ (j : Int) := by omega
                have j1 : (j : Int) < (nj : Int) := by omega
                by_cases hxy : x = y
                · subst hxy
                  have hn2 : Hid (∀ b, b < j + 1 → tAt t k b = tAt t b k) := Lib.hid fun b h => by
                    rcases Nat.lt_or_ge b j with h1 | h1
                    · exact hok.out b h1
                    · obtain rfl : b = j := by omega
                      exact e1.trans e2.symm
                  have hxx : (x != x) = false := by simp
                  clear hcj hrowj hrj hx hy hyc e1 e2 hok hxo hnj
                  go_wp2_with fail
                  refine wp_region_plus (by kernel_rfl) (by kernel_rfl) ?_; (repeat (go_big_quiet_step (fail))); refine wpQuiet_nil ?_; intro _ hw'; obtain ⟨⟨osq, dq⟩, hw''⟩ := hw'; subst hw''
                  go_wp2_with fail
                  go_roundw
                  case rel => exact ⟨j + 1, by omega, by go_num, hn2, by (repeat' (first | (with_reducible exact Below.refl _ _) | (with_reducible assumption) | (with_reducible refine Below.alloc ?_ ?_ _) | (with_reducible refine below_plus ?_ ?_ _ _) | (with_reducible refine Below.drew ?_) | (with_reducible refine Below.setCell ?_ ?_ _) | (with_reducible refine below_adv ?_ ?_ _) | go_size | (simp; done) | (simp; omega)))⟩
                  case measure => simp [intOf]; omega
                · have HE : Hid (tOk t = false) := Lib.hid (tOk_bad (a := k) (b := j) (by rw [HL.out]; omega) (by rw [HL.out]; omega) (okAt_bad1 (by rw [e1, e2]; exact hxy)))
                  have hxx : (x != y) = true := by simpa [bne] using hxy
                  have hbz := hb.trans (hb2.mono hzr)
                  clear hcj hrowj hrj hx hy hyc e1 e2 hok hxo hnj hxx
                  cases x <;> cases y <;> first
                    | exact absurd rfl hxy
                    | (clear hxy
                       go_wp2_with fail
                       refine wp_region_plus (by kernel_rfl) (by kernel_rfl) ?_; (repeat (go_big_quiet_step (fail))); refine wpQuiet_nil ?_; intro _ hw'; obtain ⟨⟨osq, dq⟩, hw''⟩ := hw'; subst hw''
                       go_wp2_with fail
                       go_ret
                       exact ⟨by rw [HE.out]; rfl, by (repeat' (first | (with_reducible exact Below.refl _ _) | (with_reducible assumption) | (with_reducible refine Below.alloc ?_ ?_ _) | (with_reducible refine below_plus ?_ ?_ _ _) | (with_reducible refine Below.drew ?_) | (with_reducible refine Below.setCell ?_ ?_ _) | (with_reducible refine below_adv ?_ ?_ _) | go_size | (simp; done) | (simp; omega)))⟩)
              · obtain rfl : j = k := by omega
                have hn2 : Hid (∀ (a : Nat) (r : List Bool), a < j + 1 → t[a]? = some r → r.length = n' ∧ tAt t a a = false ∧ ∀ b, b < a → tAt t a b = tAt t b a) := Lib.hid fun a r' ha hr' => by
                  rcases Nat.lt_or_ge a j with h | h
                  · exact hrows.out a r' h hr'
                  · obtain rfl : a = j := by omega
                    rw [HX.out] at hr'
                    injection hr' with hr'
                    exact ⟨by rw [← hr']; exact HRL.out, HDG.out, hok.out⟩
                clear hrows hok
                go_wp2_with fail
                go_roundw
                case rel => exact ⟨j + 1, by omega, by go_num, hn2, hb.trans (hb2.mono hzr)⟩
                case measure => simp [intOf]; omega
          · have HE : Hid (tOk t = false) := Lib.hid (tOk_bad (a := k) (b := k) (by rw [HL.out]; omega) (by rw [HL.out]; omega) (okAt_bad2 hdg))
            clear hrow hcell hx hy hyc hrl hrows hdg
            go_wp2_with fail
            go_ret
            exact ⟨by rw [HE.out]; rfl, hb⟩
        · have HE : Hid (tOk t = false) := Lib.hid (tOk_sq (sqB_bad hx (by rw [hrl, HL.out]; exact hnn)))
          have hne : ((n' : Int) != (n : Int)) = true := by simp [bne]; omega
          clear hrow hcell hx hrl hrows
          go_wp2_with fail
          go_ret
          exact ⟨by rw [HE.out]; rfl, hb⟩
      · obtain rfl : k = n := by omega
        have HE : Hid (tOk t = true) := Lib.hid (tOk_of_half (by rw [HL.out]; omega) (by rw [HL.out]; omega) fun i r hi => by
          have hil := (List.getElem?_eq_some_iff.1 hi).1
          rw [HL.out] at hil ⊢
          exact hrows.out i r hil hi)
        clear hrows
        go_wp2_with fail
        go_ret
        exact ⟨by rw [HE.out]; rfl, hb⟩
end Go.Proofs.YtfdlcphiidfkcaaDoor

/- ValidPhase: what it computes, in the program and in the reference. -/
namespace Go.Proofs.YtfdlcphiidfkcaaDoor
open Go.RowKit

theorem ascB_asc {ph : List Int} {lo hi : Int} (h : ¬ ph.Pairwise (fun a b => a < b)) : ascB ph lo hi = false := by simp [ascB, h]
theorem ascB_yes {ph : List Int} {lo hi : Int} (h : ph.Pairwise (fun a b => a < b)) : ascB ph lo hi = allB ph lo hi := by simp [ascB, h]
theorem ascB_out {ph : List Int} {lo hi : Int} (h : allB ph lo hi = false) : ascB ph lo hi = false := by simp [ascB, h]
theorem ascB_in {ph : List Int} {lo hi : Int} (h : allB ph lo hi = true) (h2 : ph.Pairwise (fun a b => a < b)) : ascB ph lo hi = true := by simp [ascB, h, h2]

set_option maxHeartbeats 1000000 in
theorem validMoves_c (A : Option Addr) (n c : Nat) (ph : List Int) (m : Int) (w : World) (B : Nat) (hS : Sl w B ILit A n c ph) (hB : B ≤ w.heap.size) (hn : n ≤ 1099511627776) (hm0 : 0 ≤ m) (hm : m ≤ 1048576) :
    Calls Tryd.prog 53 #[.slice A n c, .int .i64 m] w fun e w' => e = .returned (.bool (ascB ph 0 (m - 1))) ∧ Below w.heap.size w w' := by
  obtain ⟨hc0, hc1⟩ := hS.cap
  have HL := Lib.hid hS.len
  have hS0 := hS.more hB
  have ca := allWithin_c A n c ph 0 (m - 1) w B hS hB hn
  cases hp : allB ph 0 (m - 1)
  · rw [hp] at ca
    have CA := Lib.hid ca
    have HE := Lib.hid (ascB_out hp)
    clear ca hp hS hS0
    go_enter Tryd.func53, Tryd.ntmps53
    go_wp2_with fail
    refine CA.out.mono ?_
    rintro e w1 ⟨rfl, hb1⟩
    go_wp2_with fail
    go_ret
    exact ⟨by rw [HE.out]; rfl, hb1⟩
  · rw [hp] at ca
    have CA := Lib.hid ca
    have HP := Lib.hid hp
    clear ca hp hS
    go_enter Tryd.func53, Tryd.ntmps53
    go_wp2_with fail
    refine CA.out.mono ?_
    rintro e w1 ⟨rfl, hb1⟩
    have hz1 := hb1.size
    go_wp2_with fail
    go_loopw [5] (fun i wr => ∃ (k : Nat), (k + 1 ≤ n ∨ k = 0) ∧ i = .int .i64 ((k : Int) + 1) ∧ Hid ((ph.take (k + 1)).Pairwise (fun a b => a < b)) ∧ Below w.heap.size w wr) (fun i _ => n - (intOf i).toNat)
    case atStart =>
      refine ⟨0, .inr rfl, rfl, Lib.hid ?_, hb1⟩
      cases ph with
      | nil => exact List.Pairwise.nil
      | cons x r => exact List.pairwise_singleton _ _
    case round =>
      clear hb1 hz1
      obtain ⟨k, hk, rfl, hasc, hb⟩ := hrel
      have hzr := hb.size
      by_cases hlt : k + 1 < n
      · obtain ⟨b, o, x, rfl, hbl, hx, hcx⟩ := (hS0.below hb).at_ (k := k) (by omega)
        obtain ⟨b2, o2, y, hA, -, hy, hcy⟩ := (hS0.below hb).at_ (k := k + 1) hlt
        simp only [Option.some.injEq, Addr.mk.injEq, and_true] at hA
        obtain ⟨rfl, rfl⟩ := hA
        have cx : wr.cell? ⟨b, o + k, none⟩ = some (.int .i64 x) := hcx
        have cy : wr.cell? ⟨b, o + (k + 1), none⟩ = some (.int .i64 y) := hcy
        have hbw : b < wr.heap.size := by omega
        have k0 : (0 : Int) ≤ (k : Int) + 1 := by omega
        have k1 : (k : Int) + 1 < (n : Int) := by omega
        have k2 : (0 : Int) ≤ (k : Int) := by omega
        have k3 : (k : Int) < (n : Int) := by omega
        by_cases hxy : x < y
        · have hn2 := Lib.hid (asc_snoc hx hy hasc.out hxy)
          have hd : decide (x ≥ y) = false := by simp; omega
          have hd2 : decide (y ≤ x) = false := by simp; omega
          clear hcx hcy hx hy hasc
          go_wp2_with fail
          refine wp_region_plus (by kernel_rfl) (by kernel_rfl) ?_; (repeat (go_big_quiet_step (fail))); refine wpQuiet_nil ?_; intro _ hw'; obtain ⟨⟨osq, dq⟩, hw''⟩ := hw'; subst hw''
          go_wp2_with fail
          go_roundw
          case rel => exact ⟨k + 1, .inl (by omega), by go_num, hn2.out, by (repeat' (first | (with_reducible exact Below.refl _ _) | (with_reducible assumption) | (with_reducible refine Below.alloc ?_ ?_ _) | (with_reducible refine below_plus ?_ ?_ _ _) | (with_reducible refine Below.drew ?_) | (with_reducible refine Below.setCell ?_ ?_ _) | (with_reducible refine below_adv ?_ ?_ _) | go_size | (simp; done) | (simp; omega)))⟩
          case measure => simp [intOf]; omega
        · have HE := Lib.hid (ascB_asc (lo := 0) (hi := m - 1) (pw_bad (i := k + 1) (k := k) (by omega) hx hy hxy))
          have hd : decide (x ≥ y) = true := by simp; omega
          have hd2 : decide (y ≤ x) = true := by simp; omega
          clear hcx hcy hx hy hasc
          go_wp2_with fail
          refine wp_region_plus (by kernel_rfl) (by kernel_rfl) ?_; (repeat (go_big_quiet_step (fail))); refine wpQuiet_nil ?_; intro _ hw'; obtain ⟨⟨osq, dq⟩, hw''⟩ := hw'; subst hw''
          go_wp2_with fail
          go_ret
          exact ⟨by rw [HE.out]; rfl, by (repeat' (first | (with_reducible exact Below.refl _ _) | (with_reducible assumption) | (with_reducible refine Below.alloc ?_ ?_ _) | (with_reducible refine below_plus ?_ ?_ _ _) | (with_reducible refine Below.drew ?_) | (with_reducible refine Below.setCell ?_ ?_ _) | (with_reducible refine below_adv ?_ ?_ _) | go_size | (simp; done) | (simp; omega)))⟩
      · have HE := Lib.hid (ascB_in HP.out (by
          have := hasc.out
          rwa [List.take_of_length_le (by rw [HL.out]; omega)] at this))
        clear hasc
        go_wp2_with fail
        go_ret
        exact ⟨by rw [HE.out]; rfl, hb⟩
set_option maxHeartbeats 1000000 in
theorem ascending_c (A : Option Addr) (n c : Nat) (ph : List Int) (lo hi : Int) (w : World) (B : Nat) (hS : Sl w B ILit A n c ph) (hB : B ≤ w.heap.size) (hn : n ≤ 1099511627776) :
    Calls Tryd.prog 70 #[.slice A n c, .int .i64 lo, .int .i64 hi] w fun e w' => e = .returned (.bool (ascB ph lo hi)) ∧ Below w.heap.size w w' := by
  obtain ⟨hc0, hc1⟩ := hS.cap
  have HL := Lib.hid hS.len
  have hS0 := hS.more hB
  clear hS
  go_enter Tryd.func70, Tryd.ntmps70
  go_wp2_with fail
  go_loopw [7] (fun i wr => ∃ (k : Nat), (k + 1 ≤ n ∨ k = 0) ∧ i = .int .i64 ((k : Int) + 1) ∧ Hid ((ph.take (k + 1)).Pairwise (fun a b => a < b)) ∧ Below w.heap.size w wr) (fun i _ => n - (intOf i).toNat)
  case atStart =>
    refine ⟨0, .inr rfl, rfl, Lib.hid ?_, Below.refl _ _⟩
    cases ph with
    | nil => exact List.Pairwise.nil
    | cons x r => exact List.pairwise_singleton _ _
  case round =>
    obtain ⟨k, hk, rfl, hasc, hb⟩ := hrel
    have hzr := hb.size
    by_cases hlt : k + 1 < n
    · obtain ⟨b, o, x, rfl, hbl, hx, hcx⟩ := (hS0.below hb).at_ (k := k) (by omega)
      obtain ⟨b2, o2, y, hA, -, hy, hcy⟩ := (hS0.below hb).at_ (k := k + 1) hlt
      simp only [Option.some.injEq, Addr.mk.injEq, and_true] at hA
      obtain ⟨rfl, rfl⟩ := hA
      have cx : wr.cell? ⟨b, o + k, none⟩ = some (.int .i64 x) := hcx
      have cy : wr.cell? ⟨b, o + (k + 1), none⟩ = some (.int .i64 y) := hcy
      have hbw : b < wr.heap.size := by omega
      have k0 : (0 : Int) ≤ (k : Int) + 1 := by omega
      have k1 : (k : Int) + 1 < (n : Int) := by omega
      have k2 : (0 : Int) ≤ (k : Int) := by omega
      have k3 : (k : Int) < (n : Int) := by omega
      by_cases hxy : x < y
      · have hn2 := Lib.hid (asc_snoc hx hy hasc.out hxy)
        have hd2 : decide (y ≤ x) = false := by simp; omega
        clear hcx hcy hx hy hasc
        go_wp2_with fail
        refine wp_region_plus (by kernel_rfl) (by kernel_rfl) ?_; (repeat (go_big_quiet_step (fail))); refine wpQuiet_nil ?_; intro _ hw'; obtain ⟨⟨osq, dq⟩, hw''⟩ := hw'; subst hw''
        go_wp2_with fail
        go_roundw
        case rel => exact ⟨k + 1, .inl (by omega), by go_num, hn2.out, by (repeat' (first | (with_reducible exact Below.refl _ _) | (with_reducible assumption) | (with_reducible refine Below.alloc ?_ ?_ _) | (with_reducible refine below_plus ?_ ?_ _ _) | (with_reducible refine Below.drew ?_) | (with_reducible refine Below.setCell ?_ ?_ _) | (with_reducible refine below_adv ?_ ?_ _) | go_size | (simp; done) | (simp; omega)))⟩
        case measure => simp [intOf]; omega
      · have HE := Lib.hid (ascB_asc (lo := lo) (hi := hi) (pw_bad (i := k + 1) (k := k) (by omega) hx hy hxy))
        have hd2 : decide (y ≤ x) = true := by simp; omega
        clear hcx hcy hx hy hasc
        go_wp2_with fail
        refine wp_region_plus (by kernel_rfl) (by kernel_rfl) ?_; (repeat (go_big_quiet_step (fail))); refine wpQuiet_nil ?_; intro _ hw'; obtain ⟨⟨osq, dq⟩, hw''⟩ := hw'; subst hw''
        go_wp2_with fail
        go_ret
        exact ⟨by rw [HE.out]; rfl, by (repeat' (first | (with_reducible exact Below.refl _ _) | (with_reducible assumption) | (with_reducible refine Below.alloc ?_ ?_ _) | (with_reducible refine below_plus ?_ ?_ _ _) | (with_reducible refine Below.drew ?_) | (with_reducible refine Below.setCell ?_ ?_ _) | (with_reducible refine below_adv ?_ ?_ _) | go_size | (simp; done) | (simp; omega)))⟩
    · have ca := allIn_c A n c ph lo hi wr _ (hS0.below hb) hzr hn
      have HE := Lib.hid (ascB_yes (lo := lo) (hi := hi) (ph := ph) (by
        have := hasc.out
        rwa [List.take_of_length_le (by rw [HL.out]; omega)] at this))
      have CA := Lib.hid ca
      clear hasc ca
      go_wp2_with fail
      refine CA.out.mono ?_
      rintro e w1 ⟨rfl, hb1⟩
      go_wp2_with fail
      go_ret
      exact ⟨by rw [HE.out]; rfl, hb.trans (hb1.mono hzr)⟩

theorem clearB_bad {t : List (List Bool)} {ph : List Int} {i k x y : Nat} (hk : k < i) (hx : ph[i]? = some (x : Int)) (hy : ph[k]? = some (y : Int)) (h : tAt t x y = true) : clearB t ph = false := by
  rw [clearB, decide_eq_false_iff_not]
  exact pw_bad hk hy hx (by simp [h])
theorem clear_row {t : List (List Bool)} {ph : List Int} {i : Nat} {x : Int} (hx : ph[i]? = some x) (h0 : (ph.take i).Pairwise (fun a b => tAt t b.toNat a.toNat = false)) (h : ∀ k y, k < i → ph[k]? = some y → tAt t x.toNat y.toNat = false) :
    (ph.take (i + 1)).Pairwise (fun a b => tAt t b.toNat a.toNat = false) := by
  rw [pw_snoc hx]
  refine ⟨h0, fun y hy => ?_⟩
  obtain ⟨k, hk, hyk⟩ := mem_take_at hy
  exact h k y hk hyk
theorem clearB_yes {t : List (List Bool)} {ph : List Int} (h : ph.Pairwise (fun a b => tAt t b.toNat a.toNat = false)) : clearB t ph = true := by
  rw [clearB, decide_eq_true_eq]; exact h

set_option maxHeartbeats 2000000 in
theorem clear_c (At : Option Addr) (m ct : Nat) (t : List (List Bool)) (A : Option Addr) (n c : Nat) (ph : List Int) (w : World) (B : Nat) (hT : Sl2 w B OLit At m ct t) (hS : Sl w B ILit A n c ph) (hB : B ≤ w.heap.size) (hsq : sqB t = true) (hin : ∀ x ∈ ph, 0 ≤ x ∧ x < m) (hm : m ≤ 1048576) :
    Calls Tryd.prog 60 #[.slice At m ct, .slice A n c] w fun e w' => e = .returned (.bool (clearB t ph)) ∧ Below w.heap.size w w' := by
  obtain ⟨hc0, hc1⟩ := hS.cap
  obtain ⟨hd0, hd1⟩ := hT.cap
  have HL := Lib.hid hS.len
  have HT := Lib.hid hT.len
  have HSQ := Lib.hid hsq
  have HIN := Lib.hid hin
  have hS0 := hS.more hB
  have hT0 := hT.more hB
  clear hS hT hsq hin
  go_enter Tryd.func60, Tryd.ntmps60
  go_wp2_with fail
  go_loopw [5] (fun i wr => ∃ (k : Nat), k ≤ n ∧ i = .int .i64 k ∧ Hid ((ph.take k).Pairwise (fun a b => tAt t b.toNat a.toNat = false)) ∧ Below w.heap.size w wr) (fun i _ => n - (intOf i).toNat)
  case atStart => exact ⟨0, by omega, rfl, Lib.hid List.Pairwise.nil, Below.refl _ _⟩
  case round =>
    obtain ⟨i, hi, rfl, hpw, hb⟩ := hrel
    have hzr := hb.size
    by_cases hlt : i < n
    · obtain ⟨b, o, x, rfl, hbl, hx, hcx⟩ := (hS0.below hb).at_ hlt
      obtain ⟨hx0, hxm⟩ := HIN.out x (List.mem_of_getElem? hx)
      obtain ⟨x, rfl⟩ := Int.eq_ofNat_of_zero_le hx0
      obtain ⟨bt, ot, b1, o1, c1, rx, rfl, hbt, hb1, hrx, hrxl, hrxc, hcr, hrow⟩ := (hT0.below hb).entry HSQ.out (a := x) (by omega)
      have HX := Lib.hid hx
      have HRX := Lib.hid hrx
      have HRL := Lib.hid hrxl
      have HROW := Lib.hid hrow
      have hcx' : wr.cell? ⟨b, o + i, none⟩ = some (.int .i64 (x : Int)) := hcx
      have hcr' : wr.cell? ⟨bt, ot + x, none⟩ = some (.slice (some ⟨b1, o1, none⟩) m c1) := hcr
      have HCX := Lib.hid hcx'
      have HCR := Lib.hid hcr'
      have hS1 := (hS0.below hb).more hzr
      have hbw : b < wr.heap.size := by omega
      have hbtw : bt < wr.heap.size := by omega
      have hb1w : b1 < wr.heap.size := by omega
      clear hx hrx hrow hcx hcr hrxl hcx' hcr'
      go_wp2_with fail
      obtain ⟨wo, rfl⟩ : ∃ wo : World, wo = wr := ⟨_, rfl⟩
      go_loopw [6] (fun kk wr => ∃ (k : Nat), k ≤ i ∧ kk = .int .i64 k ∧ Hid (∀ j (y : Int), j < k → ph[j]? = some y → tAt t x y.toNat = false) ∧ Below wo.heap.size wo wr) (fun kk _ => i - (intOf kk).toNat)
      case atStart => exact ⟨0, by omega, rfl, Lib.hid fun j y h => absurd h (by omega), Below.refl _ _⟩
      case round =>
        obtain ⟨k, hk, rfl, hcl, hb2⟩ := hrel
        have hzr2 := hb2.size
        by_cases hki : k < i
        · obtain ⟨b', o', y, hA, -, hy, hcy⟩ := (hS1.below hb2).at_ (k := k) (by omega)
          simp only [Option.some.injEq, Addr.mk.injEq, and_true] at hA
          obtain ⟨rfl, rfl⟩ := hA
          obtain ⟨hy0, hym⟩ := HIN.out y (List.mem_of_getElem? hy)
          obtain ⟨y, rfl⟩ := Int.eq_ofNat_of_zero_le hy0
          obtain ⟨z, hz⟩ : ∃ z, rx[y]? = some z := ⟨_, List.getElem?_eq_getElem (by rw [HRL.out]; omega)⟩
          have ht := tAt_of HRX.out hz
          have e1 : wr.cell? ⟨b, o + i, none⟩ = some (.int .i64 (x : Int)) := (hb2.cell (p := ⟨b, o + i, none⟩) hbw).trans HCX.out
          have e2 : wr.cell? ⟨bt, ot + x, none⟩ = some (.slice (some ⟨b1, o1, none⟩) m c1) := (hb2.cell (p := ⟨bt, ot + x, none⟩) hbtw).trans HCR.out
          have e3 : wr.cell? ⟨b1, o1 + y, none⟩ = some (.bool z) := (hb2.cell (p := ⟨b1, o1 + y, none⟩) hb1w).trans (HROW.out y z hz)
          have e4 : wr.cell? ⟨b, o + k, none⟩ = some (.int .i64 (y : Int)) := hcy
          have y1 : b < wr.heap.size := by omega
          have y2 : bt < wr.heap.size := by omega
          have y3 : b1 < wr.heap.size := by omega
          have i0 : (0 : Int) ≤ (i : Int) := by omega
          have i1 : (i : Int) < (n : Int) := by omega
          have k0 : (0 : Int) ≤ (k : Int) := by omega
          have k1 : (k : Int) < (n : Int) := by omega
          cases z
          · have hn2 : Hid (∀ j (y : Int), j < k + 1 → ph[j]? = some y → tAt t x y.toNat = false) := Lib.hid fun j y' h hy' => by
              rcases Nat.lt_or_ge j k with h1 | h1
              · exact hcl.out j y' h1 hy'
              · obtain rfl : j = k := by omega
                rw [hy] at hy'
                injection hy' with hy'
                rw [← hy']; simpa using ht
            clear hcy hy hz ht hcl
            go_wp2_with fail
            refine wp_region_plus (by kernel_rfl) (by kernel_rfl) ?_; (repeat (go_big_quiet_step (fail))); refine wpQuiet_nil ?_; intro _ hw'; obtain ⟨⟨osq, dq⟩, hw''⟩ := hw'; subst hw''
            go_wp2_with fail
            go_roundw
            case rel => exact ⟨k + 1, by omega, by go_num, hn2, by (repeat' (first | (with_reducible exact Below.refl _ _) | (with_reducible assumption) | (with_reducible refine Below.alloc ?_ ?_ _) | (with_reducible refine below_plus ?_ ?_ _ _) | (with_reducible refine Below.drew ?_) | (with_reducible refine Below.setCell ?_ ?_ _) | (with_reducible refine below_adv ?_ ?_ _) | go_size | (simp; done) | (simp; omega)))⟩
            case measure => simp [intOf]; omega
          · have HE := Lib.hid (clearB_bad (t := t) hki HX.out hy ht)
            have hbz := hb.trans (hb2.mono hzr)
            clear hcy hy hz ht hcl
            go_wp2_with fail
            refine wp_region_plus (by kernel_rfl) (by kernel_rfl) ?_; (repeat (go_big_quiet_step (fail))); refine wpQuiet_nil ?_; intro _ hw'; obtain ⟨⟨osq, dq⟩, hw''⟩ := hw'; subst hw''
            go_wp2_with fail
            go_ret
            exact ⟨by rw [HE.out]; rfl, by (repeat' (first | (with_reducible exact Below.refl _ _) | (with_reducible assumption) | (with_reducible refine Below.alloc ?_ ?_ _) | (with_reducible refine below_plus ?_ ?_ _ _) | (with_reducible refine Below.drew ?_) | (with_reducible refine Below.setCell ?_ ?_ _) | (with_reducible refine below_adv ?_ ?_ _) | go_size | (simp; done) | (simp; omega)))⟩
        · obtain rfl : k = i := by omega
          have hn2 := Lib.hid (clear_row HX.out hpw.out (fun j y h hy => hcl.out j y h hy))
          clear hcl hpw
          go_wp2_with fail
          go_roundw
          case rel => exact ⟨k + 1, by omega, by go_num, hn2.out, hb.trans (hb2.mono hzr)⟩
          case measure => simp [intOf]; omega
    · have HE := Lib.hid (clearB_yes (by
        have := hpw.out
        rwa [List.take_of_length_le (by rw [HL.out]; omega)] at this))
      clear hpw
      go_wp2_with fail
      go_ret
      exact ⟨by rw [HE.out]; rfl, hb⟩
end Go.Proofs.YtfdlcphiidfkcaaDoor

/- ValidPhase: what it computes, in the program and in the reference. -/
namespace Go.Proofs.YtfdlcphiidfkcaaDoor
open Go.RowKit

theorem ascB_all {ph : List Int} {m : Nat} (h : ascB ph 0 ((m : Int) - 1) = true) : ∀ x ∈ ph, 0 ≤ x ∧ x < m := fun x hx => by
  simp only [ascB, Bool.and_eq_true] at h
  have := allB_all h.2 x hx
  omega

theorem sValidPhase0_c (At : Option Addr) (m ct : Nat) (t : List (List Bool)) (A : Option Addr) (n c : Nat) (ph : List Int) (w : World) (B : Nat) (hT : Sl2 w B OLit At m ct t) (hS : Sl w B ILit A n c ph) (hB : B ≤ w.heap.size) (hsq : sqB t = true) (hm : m ≤ 1048576) (hn : n ≤ 1099511627776) :
    Calls Tryd.prog 54 #[.slice At m ct, .slice A n c] w fun e w' => e = .returned (.bool (phOk t ph)) ∧ Below w.heap.size w w' := by
  have hl := hT.len
  have ca := ascending_c A n c ph 0 ((m : Int) - 1) w B hS hB hn
  have hS0 := hS.more hB
  have hT0 := hT.more hB
  cases hp : ascB ph 0 ((m : Int) - 1)
  · have HE : Hid (phOk t ph = false) := Lib.hid (by rw [phOk, hl, hp]; rfl)
    rw [hp] at ca
    have CA := Lib.hid ca
    clear ca hp hl hS hT hS0 hT0
    go_enter Tryd.func54, Tryd.ntmps54
    go_wp2_with fail
    refine CA.out.mono ?_
    rintro e w1 ⟨rfl, hb1⟩
    go_wp2_with fail
    go_ret
    exact ⟨by rw [HE.out]; rfl, hb1⟩
  · have HE : Hid (phOk t ph = clearB t ph) := Lib.hid (by rw [phOk, hl, hp]; rfl)
    have cc := fun w' (hb : Below w.heap.size w w') => clear_c At m ct t A n c ph w' _ (hT0.below hb) (hS0.below hb) hb.size hsq (ascB_all hp) hm
    rw [hp] at ca
    have CA := Lib.hid ca
    have CC := Lib.hid cc
    clear ca cc hp hl hS hT hS0 hT0
    go_enter Tryd.func54, Tryd.ntmps54
    go_wp2_with fail
    refine CA.out.mono ?_
    rintro e w1 ⟨rfl, hb1⟩
    have hz1 := hb1.size
    go_wp2_with fail
    refine (CC.out w1 hb1).mono ?_
    rintro e w2 ⟨rfl, hb2⟩
    go_wp2_with fail
    go_ret
    exact ⟨by rw [HE.out]; rfl, hb1.trans (hb2.mono hz1)⟩
theorem phaseF_no {t : List (List Bool)} {ph : List Int} (h : tOk t = false) : phaseF t ph = false := by simp [phaseF, h]
theorem phaseF_yes {t : List (List Bool)} {ph : List Int} (h : tOk t = true) : phaseF t ph = phOk t ph := by simp [phaseF, h]
theorem sValidPhase_c (At : Option Addr) (m ct : Nat) (t : List (List Bool)) (A : Option Addr) (n c : Nat) (ph : List Int) (w : World) (B : Nat) (hT : Sl2 w B OLit At m ct t) (hS : Sl w B ILit A n c ph) (hB : B ≤ w.heap.size) (hn : n ≤ 1099511627776) :
    Calls Tryd.prog 29 #[.slice At m ct, .slice A n c] w fun e w' => e = .returned (.bool (phaseF t ph)) ∧ Below w.heap.size w w' := by
  have hl := hT.len
  have ca := validTable_c At m ct t w B hT hB
  have hS0 := hS.more hB
  have hT0 := hT.more hB
  cases hp : tOk t
  · have HE : Hid (phaseF t ph = false) := Lib.hid (phaseF_no hp)
    rw [hp] at ca
    have CA := Lib.hid ca
    clear ca hp hl hS hT hS0 hT0
    go_enter Tryd.func29, Tryd.ntmps29
    go_wp2_with fail
    refine CA.out.mono ?_
    rintro e w1 ⟨rfl, hb1⟩
    go_wp2_with fail
    go_ret
    exact ⟨by rw [HE.out]; rfl, hb1⟩
  · have HE : Hid (phaseF t ph = phOk t ph) := Lib.hid (phaseF_yes hp)
    have h8 := (tOk_iff.1 hp).2.1
    have hsq := (tOk_iff.1 hp).2.2.1
    rw [hl] at h8
    have cc := fun w' (hb : Below w.heap.size w w') => sValidPhase0_c At m ct t A n c ph w' _ (hT0.below hb) (hS0.below hb) hb.size hsq (by omega) hn
    rw [hp] at ca
    have CA := Lib.hid ca
    have CC := Lib.hid cc
    clear ca cc hp hl hS hT hS0 hT0 hsq
    go_enter Tryd.func29, Tryd.ntmps29
    go_wp2_with fail
    refine CA.out.mono ?_
    rintro e w1 ⟨rfl, hb1⟩
    have hz1 := hb1.size
    go_wp2_with fail
    refine (CC.out w1 hb1).mono ?_
    rintro e w2 ⟨rfl, hb2⟩
    go_wp2_with fail
    go_ret
    exact ⟨by rw [HE.out]; rfl, hb1.trans (hb2.mono hz1)⟩
set_option maxHeartbeats 2000000 in
theorem validPhase_c (At : Option Addr) (m ct : Nat) (t : List (List Bool)) (A : Option Addr) (n c : Nat) (ph : List Int) (w : World) (B : Nat) (hT : Sl2 w B OLit At m ct t) (hS : Sl w B ILit A n c ph) (hB : B ≤ w.heap.size) (hn : n ≤ 1099511627776) :
    Calls Tryd.prog 28 #[.slice At m ct, .slice A n c] w fun e w' => e = .returned (.bool (phaseF t ph)) ∧ Below w.heap.size w w' := by
  have hl := hT.len
  obtain ⟨hc0, hc1⟩ := hS.cap
  obtain ⟨hd0, hd1⟩ := hT.cap
  have ca := validConflicts_c At m ct t w B hT hB
  have HL := Lib.hid hS.len
  have hS0 := hS.more hB
  have hT0 := hT.more hB
  clear hS hT
  cases hp : tOk t
  · have HE : Hid (phaseF t ph = false) := Lib.hid (phaseF_no hp)
    rw [hp] at ca
    have CA := Lib.hid ca
    clear ca hp hl hS0 hT0
    go_enter Tryd.func28, Tryd.ntmps28
    go_wp2_with fail
    refine CA.out.mono ?_
    rintro e w1 ⟨rfl, hb1⟩
    go_wp2_with fail
    go_ret
    exact ⟨by rw [HE.out]; rfl, hb1⟩
  · have h8 := (tOk_iff.1 hp).2.1
    have hsq := (tOk_iff.1 hp).2.2.1
    rw [hl] at h8
    have HSQ := Lib.hid hsq
    have cm := fun w' (hb : Below w.heap.size w w') => validMoves_c A n c ph m w' _ (hS0.below hb) hb.size hn (by omega) (by omega)
    rw [hp] at ca
    have CA := Lib.hid ca
    cases hq : ascB ph 0 ((m : Int) - 1)
    · have HE : Hid (phaseF t ph = false) := Lib.hid (by rw [phaseF_yes hp, phOk, hl, hq]; rfl)
      rw [hq] at cm
      have CM := Lib.hid cm
      clear ca cm hp hq hl hS0 hT0 hsq
      go_enter Tryd.func28, Tryd.ntmps28
      go_wp2_with fail
      refine CA.out.mono ?_
      rintro e w1 ⟨rfl, hb1⟩
      have hz1 := hb1.size
      go_wp2_with fail
      refine (CM.out w1 hb1).mono ?_
      rintro e w2 ⟨rfl, hb2⟩
      go_wp2_with fail
      go_ret
      exact ⟨by rw [HE.out]; rfl, hb1.trans (hb2.mono hz1)⟩
    · have HF : Hid (phaseF t ph = clearB t ph) := Lib.hid (by rw [phaseF_yes hp, phOk, hl, hq]; rfl)
      have HIN := Lib.hid (ascB_all hq)
      rw [hq] at cm
      have CM := Lib.hid cm
      clear ca cm hp hq hl hsq
      go_enter Tryd.func28, Tryd.ntmps28
      go_wp2_with fail
      refine CA.out.mono ?_
      rintro e w1 ⟨rfl, hb1⟩
      have hz1 := hb1.size
      go_wp2_with fail
      refine (CM.out w1 hb1).mono ?_
      rintro e w2 ⟨rfl, hb2⟩
      have hb02 := hb1.trans (hb2.mono hz1)
      clear CA CM hb1 hb2 hz1
      go_wp2_with fail
      go_loopw [21] (fun i wr => ∃ (k : Nat), k ≤ n ∧ i = .int .i64 k ∧ Hid ((ph.take k).Pairwise (fun a b => tAt t b.toNat a.toNat = false)) ∧ Below w.heap.size w wr) (fun i _ => n - (intOf i).toNat)
      case atStart => exact ⟨0, by omega, rfl, Lib.hid List.Pairwise.nil, hb02⟩
      case round =>
        clear hb02
        obtain ⟨i, hi, rfl, hpw, hb⟩ := hrel
        have hzr := hb.size
        by_cases hlt : i < n
        · obtain ⟨b, o, x, rfl, hbl, hx, hcx⟩ := (hS0.below hb).at_ hlt
          obtain ⟨hx0, hxm⟩ := HIN.out x (List.mem_of_getElem? hx)
          obtain ⟨x, rfl⟩ := Int.eq_ofNat_of_zero_le hx0
          obtain ⟨bt, ot, b1, o1, c1, rx, rfl, hbt, hb1, hrx, hrxl, hrxc, hcr, hrow⟩ := (hT0.below hb).entry HSQ.out (a := x) (by omega)
          have HX := Lib.hid hx
          have HRX := Lib.hid hrx
          have HRL := Lib.hid hrxl
          have HROW := Lib.hid hrow
          have hcx' : wr.cell? ⟨b, o + i, none⟩ = some (.int .i64 (x : Int)) := hcx
          have HCR : Hid (wr.cell? ⟨bt, ot + x, none⟩ = some (.slice (some ⟨b1, o1, none⟩) m c1)) := Lib.hid hcr
          have hS1 := (hS0.below hb).more hzr
          have hbtw : bt < wr.heap.size := by omega
          have hb1w : b1 < wr.heap.size := by omega
          clear hx hrx hrow hcx hcr hrxl
          go_wp2_with fail
          obtain ⟨wo, rfl⟩ : ∃ wo : World, wo = wr := ⟨_, rfl⟩
          clear hcx'
          go_loopw [30] (fun kk wr => ∃ (k : Nat), k ≤ i ∧ kk = .int .i64 k ∧ Hid (∀ j (y : Int), j < k → ph[j]? = some y → tAt t x y.toNat = false) ∧ Below wo.heap.size wo wr) (fun kk _ => i - (intOf kk).toNat)
          case atStart => exact ⟨0, by omega, rfl, Lib.hid fun j y h => absurd h (by omega), Below.refl _ _⟩
          case round =>
            obtain ⟨k, hk, rfl, hcl, hb2⟩ := hrel
            have hzr2 := hb2.size
            by_cases hki : k < i
            · obtain ⟨b', o', y, hA, -, hy, hcy⟩ := (hS1.below hb2).at_ (k := k) (by omega)
              simp only [Option.some.injEq, Addr.mk.injEq, and_true] at hA
              obtain ⟨rfl, rfl⟩ := hA
              obtain ⟨hy0, hym⟩ := HIN.out y (List.mem_of_getElem? hy)
              obtain ⟨y, rfl⟩ := Int.eq_ofNat_of_zero_le hy0
              obtain ⟨z, hz⟩ : ∃ z, rx[y]? = some z := ⟨_, List.getElem?_eq_getElem (by rw [HRL.out]; omega)⟩
              have ht := tAt_of HRX.out hz
              have e2 : wr.cell? ⟨bt, ot + x, none⟩ = some (.slice (some ⟨b1, o1, none⟩) m c1) := (hb2.cell (p := ⟨bt, ot + x, none⟩) hbtw).trans HCR.out
              have e3 : wr.cell? ⟨b1, o1 + y, none⟩ = some (.bool z) := (hb2.cell (p := ⟨b1, o1 + y, none⟩) hb1w).trans (HROW.out y z hz)
              have e4 : wr.cell? ⟨b, o + k, none⟩ = some (.int .i64 (y : Int)) := hcy
              cases z
              · have hn2 : Hid (∀ j (y : Int), j < k + 1 → ph[j]? = some y → tAt t x y.toNat = false) := Lib.hid fun j y' h hy' => by
                  rcases Nat.lt_or_ge j k with h1 | h1
                  · exact hcl.out j y' h1 hy'
                  · obtain rfl : j = k := by omega
                    rw [hy] at hy'
                    injection hy' with hy'
                    rw [← hy']; simpa using ht
                clear hcy hy hz ht hcl
                go_wp2_with fail
                go_roundw
                case rel => exact ⟨k + 1, by omega, by go_num, hn2, hb2⟩
                case measure => simp [intOf]; omega
              · have HE := Lib.hid (clearB_bad (t := t) hki HX.out hy ht)
                have hbz := hb.trans (hb2.mono hzr)
                clear hcy hy hz ht hcl
                go_wp2_with fail
                go_ret
                exact ⟨by rw [HF.out, HE.out]; rfl, hbz⟩
            · obtain rfl : k = i := by omega
              have hn2 := Lib.hid (clear_row HX.out hpw.out (fun j y h hy => hcl.out j y h hy))
              clear hcl hpw
              go_wp2_with fail
              go_roundw
              case rel => exact ⟨k + 1, by omega, by go_num, hn2.out, hb.trans (hb2.mono hzr)⟩
              case measure => simp [intOf]; omega
        · have HE := Lib.hid (clearB_yes (by
            have := hpw.out
            rwa [List.take_of_length_le (by rw [HL.out]; omega)] at this))
          clear hpw
          go_wp2_with fail
          go_ret
          exact ⟨by rw [HF.out, HE.out]; rfl, hb⟩
end Go.Proofs.YtfdlcphiidfkcaaDoor
