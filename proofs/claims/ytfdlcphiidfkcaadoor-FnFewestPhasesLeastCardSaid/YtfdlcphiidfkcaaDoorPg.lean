/- My words and contracts, laid together: Ca1, Ca2, Cg1, Cg2, Pg1, Pg2, Pg3. -/
import Derived.Test.YtfdlcphiidfkcaaDoorPp
import Derived.Test.YtfdlcphiidfkcaaDoorBc
import Derived.Test.YtfdlcphiidfkcaaDoorBd
import Derived.Test.YtfdlcphiidfkcaaDoorBb
import Derived.StillTailTactics
import Derived.Test.YtfdlcphiidfkcaaDoorFu1
import Derived.Laws.ShiftsVar
import Derived.Laws.ShiftsVarLaws
set_option linter.unusedVariables false
set_option linter.unusedSimpArgs false
/- Tables of clearance times in plain words. -/
namespace Go.Proofs.YtfdlcphiidfkcaaDoor
open Go.RowKit

/-- t[a][b]. -/
def cAt (t : List (List Int)) (a b : Nat) : Int := (t.getD a []).getD b 0
def okC (t : List (List Int)) (a b : Nat) : Bool := (decide (0 < cAt t a b) == decide (0 < cAt t b a)) && !(a == b && cAt t a b != 0)
def inC (t : List (List Int)) : Bool := t.all fun r => allB r 0 5
def cOk (t : List (List Int)) : Bool := inB t.length 1 8 && sqB t && inC t && (List.range t.length).all fun a => (List.range t.length).all fun b => okC t a b

theorem cAt_of {t : List (List Int)} {a b : Nat} {r : List Int} {x : Int} (ha : t[a]? = some r) (hb : r[b]? = some x) : cAt t a b = x := by
  simp [cAt, List.getD_eq_getElem?_getD, ha, hb]
theorem inC_row {t : List (List Int)} (h : inC t = true) {a : Nat} {r : List Int} (ha : t[a]? = some r) : allB r 0 5 = true := List.all_eq_true.1 h r (List.mem_of_getElem? ha)
theorem inC_bad {t : List (List Int)} {a : Nat} {r : List Int} (ha : t[a]? = some r) (h : allB r 0 5 = false) : inC t = false := by
  rw [inC, List.all_eq_false]
  exact ⟨r, List.mem_of_getElem? ha, by simp [h]⟩
theorem inC_mk {t : List (List Int)} (h : ∀ (a : Nat) (r : List Int), t[a]? = some r → allB r 0 5 = true) : inC t = true := by
  rw [inC, List.all_eq_true]
  intro r hr
  obtain ⟨a, ha⟩ := List.getElem?_of_mem hr
  exact h a r ha
theorem cOk_iff {t : List (List Int)} : cOk t = true ↔ 1 ≤ t.length ∧ t.length ≤ 8 ∧ sqB t = true ∧ inC t = true ∧ ∀ a b, a < t.length → b < t.length → okC t a b = true := by
  simp only [cOk, inB, Bool.and_eq_true, decide_eq_true_eq, List.all_eq_true, List.mem_range]
  constructor
  · rintro ⟨⟨⟨⟨h1, h2⟩, h3⟩, h5⟩, h4⟩
    exact ⟨by omega, by omega, h3, h5, fun a b ha hb => h4 a ha b hb⟩
  · rintro ⟨h1, h2, h3, h5, h4⟩
    exact ⟨⟨⟨⟨by omega, by omega⟩, h3⟩, h5⟩, fun a ha b hb => h4 a b ha hb⟩
theorem cOk_bad {t : List (List Int)} {a b : Nat} (ha : a < t.length) (hb : b < t.length) (h : okC t a b = false) : cOk t = false := by
  cases e : cOk t
  · rfl
  · have := (cOk_iff.1 e).2.2.2.2 a b ha hb
    rw [h] at this; cases this
theorem cOk_range {t : List (List Int)} (h : inB t.length 1 8 = false) : cOk t = false := by simp [cOk, h]
theorem cOk_sq {t : List (List Int)} (h : sqB t = false) : cOk t = false := by simp [cOk, h]
theorem cOk_in {t : List (List Int)} (h : inC t = false) : cOk t = false := by simp [cOk, h]
theorem okC_bad1 {t : List (List Int)} {a b : Nat} (h : decide (0 < cAt t a b) ≠ decide (0 < cAt t b a)) : okC t a b = false := by
  have : (decide (0 < cAt t a b) == decide (0 < cAt t b a)) = false := by simpa using h
  rw [okC, this]; rfl
theorem okC_bad2 {t : List (List Int)} {a : Nat} (h : cAt t a a ≠ 0) : okC t a a = false := by simp [okC, h]
theorem okC_ok {t : List (List Int)} {a b : Nat} (h : decide (0 < cAt t a b) = decide (0 < cAt t b a)) (h2 : a = b → cAt t a b = 0) : okC t a b = true := by
  by_cases he : a = b
  · subst he; simp [okC, h2 rfl]
  · simp [okC, h, he]
theorem okC_sym {t : List (List Int)} {a b : Nat} (h : okC t a b = true) : decide (0 < cAt t a b) = decide (0 < cAt t b a) := by
  simp only [okC, Bool.and_eq_true, beq_iff_eq] at h
  exact h.1
theorem okC_irr {t : List (List Int)} {a : Nat} (h : okC t a a = true) : cAt t a a = 0 := by simpa [okC] using h
theorem cOk_of_half {t : List (List Int)} (h1 : 1 ≤ t.length) (h2 : t.length ≤ 8) (h : ∀ (i : Nat) (r : List Int), t[i]? = some r → r.length = t.length ∧ allB r 0 5 = true ∧ cAt t i i = 0 ∧ ∀ k, k < i → decide (0 < cAt t i k) = decide (0 < cAt t k i)) : cOk t = true := by
  refine cOk_iff.2 ⟨h1, h2, sqB_mk fun a r ha => (h a r ha).1, inC_mk fun a r ha => (h a r ha).2.1, fun a b ha hb => ?_⟩
  have hd := (h a _ (List.getElem?_eq_getElem ha)).2.2.1
  refine okC_ok ?_ fun e => e ▸ hd
  rcases Nat.lt_trichotomy a b with hl | he | hg
  · exact ((h b _ (List.getElem?_eq_getElem hb)).2.2.2 a hl).symm
  · rw [he]
  · exact (h a _ (List.getElem?_eq_getElem ha)).2.2.2 b hg

/-- The table of conflicts of a table of clearance times. -/
def conf (t : List (List Int)) : List (List Bool) := t.map fun r => r.map fun x => decide (0 < x)
def confF (t : List (List Int)) : List (List Bool) := if cOk t = true then conf t else []
theorem conf_len (t : List (List Int)) : (conf t).length = t.length := by simp [conf]
theorem conf_row {t : List (List Int)} {a : Nat} {r : List Int} (h : t[a]? = some r) : (conf t)[a]? = some (r.map fun x => decide (0 < x)) := by simp [conf, h]
theorem conf_sq {t : List (List Int)} (h : sqB t = true) : sqB (conf t) = true := sqB_mk fun a r ha => by
  rw [conf_len]
  have hl : a < t.length := by
    have := (List.getElem?_eq_some_iff.1 ha).1
    rwa [conf_len] at this
  have := conf_row (List.getElem?_eq_getElem hl)
  rw [this] at ha
  injection ha with ha
  rw [← ha, List.length_map]
  exact sqB_all h (List.getElem?_eq_getElem hl)
theorem conf_at {t : List (List Int)} (h : sqB t = true) {a b : Nat} (ha : a < t.length) (hb : b < t.length) : tAt (conf t) a b = decide (0 < cAt t a b) := by
  have hl := sqB_all h (List.getElem?_eq_getElem ha)
  have hx : t[a][b]? = some (t[a][b]'(by omega)) := List.getElem?_eq_getElem (by omega)
  rw [cAt_of (List.getElem?_eq_getElem ha) hx]
  refine tAt_of (conf_row (List.getElem?_eq_getElem ha)) ?_
  rw [List.getElem?_map, hx]; rfl
theorem conf_ok {t : List (List Int)} (h : cOk t = true) : tOk (conf t) = true := by
  obtain ⟨h1, h2, h3, h4, h5⟩ := cOk_iff.1 h
  refine tOk_iff.2 ⟨by rw [conf_len]; exact h1, by rw [conf_len]; exact h2, conf_sq h3, fun a b ha hb => ?_⟩
  rw [conf_len] at ha hb
  have e1 := conf_at h3 ha hb
  have e2 := conf_at h3 hb ha
  refine okAt_ok ?_ fun e => ?_
  · rw [e1, e2]; exact okC_sym (h5 a b ha hb)
  · subst e
    rw [e1, okC_irr (h5 a a ha ha)]; rfl
end Go.Proofs.YtfdlcphiidfkcaaDoor

/- validClearance and ConflictsOf of the reference. -/
namespace Go.Proofs.YtfdlcphiidfkcaaDoor
open Go.RowKit

set_option maxHeartbeats 4000000 in
theorem sValidClearance_c (A : Option Addr) (n c : Nat) (t : List (List Int)) (w : World) (B : Nat) (hS : Sl2 w B ILit A n c t) (hB : B ≤ w.heap.size) :
    Calls Tryd.prog 71 #[.slice A n c] w fun e w' => e = .returned (.bool (cOk t)) ∧ Below w.heap.size w w' := by
  obtain ⟨hc0, hc1⟩ := hS.cap
  have hl := hS.len
  have cw := fun w => inRange_c n 1 8 w
  have hS0 := hS.more hB
  clear hS
  cases hr : inB n 1 8
  · rw [hr] at cw
    have CW := Lib.hid cw
    have HE : Hid (cOk t = false) := Lib.hid (cOk_range (by rw [hl]; exact hr))
    clear cw hr hl
    go_enter Tryd.func71, Tryd.ntmps71
    go_wp2_with fail
    refine (CW.out _).mono ?_
    rintro e w' ⟨rfl, rfl⟩
    go_wp2_with fail
    go_ret
    exact ⟨by rw [HE.out]; rfl, Below.refl _ _⟩
  · obtain ⟨hn1, hn8⟩ := inB_iff hr
    rw [hr] at cw
    have CW := Lib.hid cw
    have HL := Lib.hid hl
    clear cw hr hl
    go_enter Tryd.func71, Tryd.ntmps71
    go_wp2_with fail
    refine (CW.out _).mono ?_
    rintro e w' ⟨rfl, rfl⟩
    go_wp2_with fail
    go_loopw [4] (fun i wr => ∃ (k : Nat), k ≤ n ∧ i = .int .i64 k ∧ Hid (∀ (a : Nat) (r : List Int), a < k → t[a]? = some r → r.length = n ∧ allB r 0 5 = true ∧ cAt t a a = 0 ∧ ∀ b, b < a → decide (0 < cAt t a b) = decide (0 < cAt t b a)) ∧ Below w.heap.size w wr) (fun i _ => n - (intOf i).toNat)
    case atStart => exact ⟨0, by omega, rfl, Lib.hid fun a r h => absurd h (by omega), Below.refl _ _⟩
    case round =>
      obtain ⟨k, hk, rfl, hrows, hb⟩ := hrel
      have hzr := hb.size
      by_cases hlt : k < n
      · obtain ⟨b, o, r, A', n', c', rfl, hbl, hx, hcell, hrow⟩ := (hS0.below hb).at_ hlt
        have hcell' : wr.cell? ⟨b, o + k, none⟩ = some (.slice A' n' c') := hcell
        have hrl := hrow.len
        by_cases hnn : n' = n
        · subst hnn
          have hnb : ((n' : Int) != (n' : Int)) = false := by simp
          have hkn : (k : Int) < (n' : Int) := by omega
          have hbw : b < wr.heap.size := by omega
          have ca := allIn_c A' n' c' r 0 5 wr _ hrow hzr (by omega)
          have HX := Lib.hid hx
          have HRL := Lib.hid hrl
          cases hal : allB r 0 5
          · rw [hal] at ca
            have CA := Lib.hid ca
            have HE : Hid (cOk t = false) := Lib.hid (cOk_in (inC_bad hx hal))
            clear hrow hcell hx hrl hrows ca hal
            go_wp2_with fail
            refine CA.out.mono ?_
            rintro e w1 ⟨rfl, hb1⟩
            go_wp2_with fail
            go_ret
            exact ⟨by rw [HE.out]; rfl, hb.trans (hb1.mono hzr)⟩
          · rw [hal] at ca
            have CA := Lib.hid ca
            have HAL := Lib.hid hal
            obtain ⟨b', o', y, rfl, hbl', hy, hyc⟩ := hrow.at_ hlt
            have hdg := cAt_of hx hy
            have hb'w : b' < wr.heap.size := by omega
            have HYC : Hid (wr.cell? ⟨b', o' + k, none⟩ = some (.int .i64 y)) := Lib.hid hyc
            have HCE := Lib.hid hcell'
            have HROW := Lib.hid hrow.2.2.2
            have HDG := Lib.hid hdg
            clear hrow hcell hx hrl ca hal hy hyc hdg
            go_wp2_with fail
            refine CA.out.mono ?_
            rintro e w1 ⟨rfl, hb1⟩
            have hz1 := hb1.size
            have hcell1 : w1.cell? ⟨b, o + k, none⟩ = some (.slice (some ⟨b', o', none⟩) n' c') := (hb1.cell (p := ⟨b, o + k, none⟩) hbw).trans HCE.out
            have hyc1 : w1.cell? ⟨b', o' + k, none⟩ = some (.int .i64 y) := (hb1.cell (p := ⟨b', o' + k, none⟩) hb'w).trans HYC.out
            by_cases hy0 : y = 0
            · subst hy0
              have hb01 := hb.trans (hb1.mono hzr)
              have hS1 := (hS0.below hb01).more (B' := w1.heap.size) (by omega)
              clear CA HYC
              go_wp2_with fail
              clear hcell' hcell1 hyc1
              go_loopw [5] (fun i wr2 => ∃ (j : Nat), j ≤ k ∧ i = .int .i64 j ∧ Hid (∀ b, b < j → decide (0 < cAt t k b) = decide (0 < cAt t b k)) ∧ Below w1.heap.size w1 wr2) (fun i _ => k - (intOf i).toNat)
              case atStart => exact ⟨0, by omega, rfl, Lib.hid fun a h => absurd h (by omega), Below.refl _ _⟩
              case round =>
                obtain ⟨j, hj, rfl, hok, hb2⟩ := hrel
                have hzr2 := hb2.size
                by_cases hjk : j < k
                · obtain ⟨bj, oj, rj, Aj, nj, cj, hA, -, hrj, hcj, hrowj⟩ := (hS1.below hb2).at_ (k := j) (by omega)
                  simp only [Option.some.injEq, Addr.mk.injEq, and_true] at hA
                  obtain ⟨rfl, rfl⟩ := hA
                  have hnj := (hrows.out j rj hjk hrj).1
                  have hnj' : nj = n' := by rw [← hrowj.len]; exact hnj
                  subst hnj'
                  obtain ⟨bj, oj, y, rfl, hblj, hy, hyc⟩ := hrowj.at_ hlt
                  obtain ⟨bo, oo, hAo, -, hxo⟩ := HROW.out (by omega)
                  simp only [Option.some.injEq, Addr.mk.injEq, and_true] at hAo
                  obtain ⟨rfl, rfl⟩ := hAo
                  obtain ⟨x, hx⟩ : ∃ x, r[j]? = some x := ⟨_, List.getElem?_eq_getElem (by rw [HRL.out]; omega)⟩
                  have e1 := cAt_of HX.out hx
                  have e2 := cAt_of hrj hy
                  have hbw1 : b < w1.heap.size := by omega
                  have hb'w1 : b' < w1.heap.size := by omega
                  have c1' : wr.cell? ⟨b', o' + j, none⟩ = some (.int .i64 x) := (hb2.cell (p := ⟨b', o' + j, none⟩) hb'w1).trans ((hb1.cell (p := ⟨b', o' + j, none⟩) hb'w).trans (hxo j x hx))
                  have c2' : wr.cell? ⟨b, o + j, none⟩ = some (.slice (some ⟨bj, oj, none⟩) nj cj) := hcj
                  have c3' : wr.cell? ⟨bj, oj + k, none⟩ = some (.int .i64 y) := hyc
                  have c4' : wr.cell? ⟨b, o + k, none⟩ = some (.slice (some ⟨b', o', none⟩) nj c') := (hb2.cell (p := ⟨b, o + k, none⟩) hbw1).trans ((hb1.cell (p := ⟨b, o + k, none⟩) hbw).trans HCE.out)
                  have w1' : b < wr.heap.size := by omega
                  have w2' : b' < wr.heap.size := by omega
                  have w3' : bj < wr.heap.size := by omega
                  have j0 : (0 : Int) ≤ (j : Int) := by omega
                  have j1 : (j : Int) < (nj : Int) := by omega
                  by_cases hxy : decide (0 < x) = decide (0 < y)
                  · have hn2 : Hid (∀ b, b < j + 1 → decide (0 < cAt t k b) = decide (0 < cAt t b k)) := Lib.hid fun b h => by
                      rcases Nat.lt_or_ge b j with h1 | h1
                      · exact hok.out b h1
                      · obtain rfl : b = j := by omega
                        rw [e1, e2]; exact hxy
                    clear hcj hrowj hrj hx hy hyc e1 e2 hok hxo hnj
                    cases hdx : decide (0 < x) <;> cases hdy : decide (0 < y) <;> first
                      | (rw [hdx, hdy] at hxy; exact absurd hxy (by decide))
                      | (clear hxy
                         go_wp2_with fail
                         refine wp_region_plus (by kernel_rfl) (by kernel_rfl) ?_; (repeat (go_big_quiet_step (fail))); refine wpQuiet_nil ?_; intro _ hw'; obtain ⟨⟨osq, dq⟩, hw''⟩ := hw'; subst hw''
                         go_wp2_with fail
                         go_roundw
                         case rel => exact ⟨j + 1, by omega, by go_num, hn2, by (repeat' (first | (with_reducible exact Below.refl _ _) | (with_reducible assumption) | (with_reducible refine Below.alloc ?_ ?_ _) | (with_reducible refine below_plus ?_ ?_ _ _) | (with_reducible refine Below.drew ?_) | (with_reducible refine Below.setCell ?_ ?_ _) | (with_reducible refine below_adv ?_ ?_ _) | go_size | (simp; done) | (simp; omega)))⟩
                         case measure => simp [intOf]; omega)
                  · have HE : Hid (cOk t = false) := Lib.hid (cOk_bad (a := k) (b := j) (by rw [HL.out]; omega) (by rw [HL.out]; omega) (okC_bad1 (by rw [e1, e2]; exact hxy)))
                    have hbz := hb01.trans (hb2.mono (by omega))
                    clear hcj hrowj hrj hx hy hyc e1 e2 hok hxo hnj
                    cases hdx : decide (0 < x) <;> cases hdy : decide (0 < y) <;> first
                      | (rw [hdx, hdy] at hxy; exact absurd rfl hxy)
                      | (clear hxy
                         go_wp2_with fail
                         refine wp_region_plus (by kernel_rfl) (by kernel_rfl) ?_; (repeat (go_big_quiet_step (fail))); refine wpQuiet_nil ?_; intro _ hw'; obtain ⟨⟨osq, dq⟩, hw''⟩ := hw'; subst hw''
                         go_wp2_with fail
                         go_ret
                         exact ⟨by rw [HE.out]; rfl, by (repeat' (first | (with_reducible exact Below.refl _ _) | (with_reducible assumption) | (with_reducible refine Below.alloc ?_ ?_ _) | (with_reducible refine below_plus ?_ ?_ _ _) | (with_reducible refine Below.drew ?_) | (with_reducible refine Below.setCell ?_ ?_ _) | (with_reducible refine below_adv ?_ ?_ _) | go_size | (simp; done) | (simp; omega)))⟩)
                · obtain rfl : j = k := by omega
                  have hn2 : Hid (∀ (a : Nat) (r : List Int), a < j + 1 → t[a]? = some r → r.length = n' ∧ allB r 0 5 = true ∧ cAt t a a = 0 ∧ ∀ b, b < a → decide (0 < cAt t a b) = decide (0 < cAt t b a)) := Lib.hid fun a r' ha hr' => by
                    rcases Nat.lt_or_ge a j with h | h
                    · exact hrows.out a r' h hr'
                    · obtain rfl : a = j := by omega
                      rw [HX.out] at hr'
                      injection hr' with hr'
                      exact ⟨by rw [← hr']; exact HRL.out, by rw [← hr']; exact HAL.out, HDG.out, hok.out⟩
                  clear hrows hok
                  go_wp2_with fail
                  go_roundw
                  case rel => exact ⟨j + 1, by omega, by go_num, hn2, hb01.trans (hb2.mono (by omega))⟩
                  case measure => simp [intOf]; omega
            · have HE : Hid (cOk t = false) := Lib.hid (cOk_bad (a := k) (b := k) (by rw [HL.out]; omega) (by rw [HL.out]; omega) (okC_bad2 (by rw [HDG.out]; exact hy0)))
              have hyn : (y != 0) = true := by simpa [bne] using hy0
              clear hrows CA HYC
              go_wp2_with fail
              go_ret
              exact ⟨by rw [HE.out]; rfl, hb.trans (hb1.mono hzr)⟩
        · have HE : Hid (cOk t = false) := Lib.hid (cOk_sq (sqB_bad hx (by rw [hrl, HL.out]; exact hnn)))
          have hne : ((n' : Int) != (n : Int)) = true := by simp [bne]; omega
          clear hrow hcell hx hrl hrows
          go_wp2_with fail
          go_ret
          exact ⟨by rw [HE.out]; rfl, hb⟩
      · obtain rfl : k = n := by omega
        have HE : Hid (cOk t = true) := Lib.hid (cOk_of_half (by rw [HL.out]; omega) (by rw [HL.out]; omega) fun i r hi => by
          have hil := (List.getElem?_eq_some_iff.1 hi).1
          rw [HL.out] at hil ⊢
          exact hrows.out i r hil hi)
        clear hrows
        go_wp2_with fail
        go_ret
        exact ⟨by rw [HE.out]; rfl, hb⟩

theorem bools_snoc (l : List Bool) (g : Bool) : l.map OLit ++ [.bool g] = (l ++ [g]).map OLit := by simp [OLit]
theorem confF_no {t : List (List Int)} (h : cOk t = false) : confF t = [] := by simp [confF, h]
theorem confF_yes {t : List (List Int)} (h : cOk t = true) : confF t = conf t := by simp [confF, h]

set_option maxHeartbeats 4000000 in
theorem sConflictsOf_c (A : Option Addr) (n c : Nat) (t : List (List Int)) (w : World) (B : Nat) (hS : Sl2 w B ILit A n c t) (hB : B ≤ w.heap.size) :
    Calls Tryd.prog 57 #[.slice A n c] w (OwBoolSS w (confF t)) := by
  obtain ⟨hc0, hc1⟩ := hS.cap
  have hl := hS.len
  have cw := fun w' (hb : Below w.heap.size w w') => sValidClearance_c A n c t w' _ ((hS.more hB).below hb) hb.size
  have hS0 := hS.more hB
  clear hS
  cases hr : cOk t
  · rw [hr] at cw
    have CW := Lib.hid cw
    have HE := Lib.hid (confF_no hr)
    clear cw hr hl
    go_enter Tryd.func57, Tryd.ntmps57
    go_wp2_with fail
    refine (CW.out _ (by (repeat' (first | (with_reducible exact Below.refl _ _) | (with_reducible assumption) | (with_reducible refine Below.alloc ?_ ?_ _) | (with_reducible refine below_plus ?_ ?_ _ _) | (with_reducible refine Below.drew ?_) | (with_reducible refine Below.setCell ?_ ?_ _) | (with_reducible refine below_adv ?_ ?_ _) | go_size | (simp; done) | (simp; omega))))).mono ?_
    rintro e w1 ⟨rfl, hb1⟩
    simp only [World.size_alloc] at hb1
    have hb01 : Below w.heap.size w w1 := ((Below.refl _ _).alloc (Nat.le_refl _) _).trans (hb1.mono (by omega))
    go_wp2_with fail
    go_ret
    exact ⟨_, _, _, rfl, by rw [HE.out]; exact Ow2.nil _ _ _ _ _ _, hb01⟩
  · rw [hr] at cw
    have CW := Lib.hid cw
    have HE := Lib.hid (confF_yes hr)
    obtain ⟨hn1, hn8, hsq, -, -⟩ := cOk_iff.1 hr
    rw [hl] at hn1 hn8
    have HSQ := Lib.hid hsq
    have HL := Lib.hid hl
    obtain ⟨i0, hi, hi0, hi1, hi2⟩ := info_parts info_bool
    obtain ⟨i1, hj, hj0, hj1, hj2⟩ := info_parts info_rowBoolS
    clear cw hr hl hsq
    go_enter Tryd.func57, Tryd.ntmps57
    go_wp2_with fail
    refine (CW.out _ (by (repeat' (first | (with_reducible exact Below.refl _ _) | (with_reducible assumption) | (with_reducible refine Below.alloc ?_ ?_ _) | (with_reducible refine below_plus ?_ ?_ _ _) | (with_reducible refine Below.drew ?_) | (with_reducible refine Below.setCell ?_ ?_ _) | (with_reducible refine below_adv ?_ ?_ _) | go_size | (simp; done) | (simp; omega))))).mono ?_
    rintro e w1 ⟨rfl, hb1⟩
    simp only [World.size_alloc] at hb1
    have hz1 := hb1.size
    have hb01 : Below w.heap.size w w1 := ((Below.refl _ _).alloc (Nat.le_refl _) _).trans (hb1.mono (by omega))
    have hown : w1.ownsRow w.heap.size 29 1 (.slice (some ⟨w.heap.size, 0, none⟩) 0 0) 0 [] :=
      (World.ownsRow_made (base := w.heap.size) (e := 29) (size := 1) w #[] 0 (Nat.le_refl _) (by decide) rfl).kept (row := none) ⟨hb1.os, hb1.tape, hb1.output, by simpa using hb1.size, fun b hb2 _ => hb1.block b (by simpa using hb2)⟩ (by right; simp [Value.ownBlock])
    have hB0 : Bld w1 w.heap.size 29 4 OLit (.slice (some ⟨w.heap.size, 0, none⟩) 0 0) 0 ([] : List (List Bool)) := Bld.nil _ _ _ _ _ _ hown
    clear CW hb1 hown
    go_wp2_with fail
    go_loopw [3, 4] (fun v i wr => ∃ (k : Nat), k ≤ n ∧ i = .int .i64 k ∧ Bld wr w.heap.size 29 4 OLit v k ((conf t).take k) ∧ Below w.heap.size w wr) (fun _ i _ => n - (intOf i).toNat)
    case atStart => exact ⟨0, by omega, rfl, hB0, hb01⟩
    case round =>
      clear hB0 hb01
      obtain ⟨k, hk, rfl, hBl, hb⟩ := hrel
      have hzr := hb.size
      by_cases hlt : k < n
      · obtain ⟨b, o, b1, o1, c1, ra, rfl, hbl, hbl1, hra, hral, hrac, hcell, hrow⟩ := (hS0.below hb).entry HSQ.out hlt
        have HRA := Lib.hid hra
        have HRL := Lib.hid hral
        have HCE : Hid (wr.cell? ⟨b, o + k, none⟩ = some (.slice (some ⟨b1, o1, none⟩) n c1)) := Lib.hid hcell
        have HROW := Lib.hid hrow
        have hbw : b < wr.heap.size := by omega
        have hb1w : b1 < wr.heap.size := by omega
        clear hra hral hcell hrow
        go_wp2_with fail
        obtain ⟨wo, rfl⟩ : ∃ wo : World, wo = wr := ⟨_, rfl⟩
        go_loopw [5, 6] (fun v2 i wr => ∃ (j : Nat), j ≤ n ∧ i = .int .i64 j ∧ wr.ownsRow wo.heap.size 4 1 v2 j (((ra.map fun x => decide (0 < x)).take j).map OLit) ∧ Below wo.heap.size wo wr) (fun _ i _ => n - (intOf i).toNat)
        case atStart => exact ⟨0, by omega, rfl, World.ownsRow_made _ #[] 0 (Nat.le_refl _) (by decide) rfl, by (repeat' (first | (with_reducible exact Below.refl _ _) | (with_reducible assumption) | (with_reducible refine Below.alloc ?_ ?_ _) | (with_reducible refine below_plus ?_ ?_ _ _) | (with_reducible refine Below.drew ?_) | (with_reducible refine Below.setCell ?_ ?_ _) | (with_reducible refine below_adv ?_ ?_ _) | go_size | (simp; done) | (simp; omega)))⟩
        case round =>
          obtain ⟨j, hj', rfl, hO, hb2⟩ := hrel
          have hzr2 := hb2.size
          by_cases hjn : j < n
          · obtain ⟨x, hx⟩ : ∃ x, ra[j]? = some x := ⟨_, List.getElem?_eq_getElem (by rw [HRL.out]; exact hjn)⟩
            have e1 : wr.cell? ⟨b, o + k, none⟩ = some (.slice (some ⟨b1, o1, none⟩) n c1) := (hb2.cell (p := ⟨b, o + k, none⟩) hbw).trans HCE.out
            have e2 : wr.cell? ⟨b1, o1 + j, none⟩ = some (.int .i64 x) := (hb2.cell (p := ⟨b1, o1 + j, none⟩) hb1w).trans (HROW.out j x hx)
            have hsn := Lib.hid (take_snoc (k := j) (xs := ra.map fun x => decide (0 < x)) (x := decide (0 < x)) (by rw [List.getElem?_map, hx]; rfl))
            clear hx
            go_wp2_with (at_builtin; refine wpList_app1 wo wr rfl _ _ 29 rfl 4 i0 (.bool false) 1 Tryd.underlying29 hi hi0 hi1 hi2 rfl (by decide) wo.heap.size _ j _ (by rfl) hO _ rfl _ (by rfl) rfl (by omega) hb2 hzr2 ?_; intro v8 w8 hO8 hb8 hg8)
            rw [bools_snoc, ← hsn.out] at hO8
            go_roundw
            case rel => exact ⟨j + 1, by omega, by go_num, hO8, hb8⟩
            case measure => simp [intOf]; omega
          · obtain rfl : j = n := by omega
            rw [List.take_of_length_le (by rw [List.length_map, HRL.out]; exact Nat.le_refl _)] at hO
            have hlt5 := hO.lt
            obtain ⟨A5, c5, rfl, hW5⟩ := Ow.of_own hO
            obtain ⟨vs, hv1, hv2, hv3⟩ := hBl
            have hv0 := fun b hb => (hv1.lt b hb).2
            have hown2 := own_below hv1 hb2
            have hR2 := hv2.below (Nat.le_refl _) hb2
            have hbb := hb.trans (hb2.mono hzr)
            have hsn := Lib.hid (take_snoc (conf_row HRA.out))
            clear hO hb2 hv1 hv2
            go_wp2_with (at_builtin; refine wpList_app1_at w wr rfl _ _ 23 rfl 29 i1 (.slice none 0 0) 24 Tryd.underlying23 hj hj0 hj1 hj2 rfl (by decide) w.heap.size _ k _ (by rfl) hown2 _ rfl _ (by rfl) rfl (by omega) hbb (by omega) ?_; intro v8 w8 hO8 hb8 hg8 hv8)
            have hN := Bld.app (f := OLit) (E := 4) hown2 hR2 hv3 hv0 hzr2 hzr hW5 hlt5 hO8 hg8 hv8
            rw [← hsn.out] at hN
            clear hW5 hv3 hown2 hR2 hO8 hg8 hv8 hv0 hlt5
            go_roundw
            case rel => exact ⟨k + 1, by omega, by go_num, hN, hb8⟩
            case measure => simp [intOf]; omega
      · obtain rfl : k = n := by omega
        rw [List.take_of_length_le (by rw [conf_len, HL.out]; exact Nat.le_refl _)] at hBl
        obtain ⟨A5, c5, rfl, hW5⟩ := hBl.ow2
        clear hBl
        go_wp2_with fail
        go_ret
        exact ⟨_, _, _, rfl, by rw [HE.out]; exact hW5, hb⟩
end Go.Proofs.YtfdlcphiidfkcaaDoor

/- The generator of tables of clearance times: randomClear. -/
namespace Go.Proofs.YtfdlcphiidfkcaaDoor
open Go.RowKit

/-- A table as the generator makes it. -/
def matOk (n : Nat) (t : List (List Int)) : Prop := t.length = n ∧ sqB t = true ∧ inC t = true ∧ ∀ a b, a < n → b < n → okC t a b = true
theorem matOk.ok {n : Nat} {t : List (List Int)} (h : matOk n t) (h1 : 1 ≤ n) (h2 : n ≤ 8) : cOk t = true := by
  obtain ⟨e1, e2, e3, e4⟩ := h
  subst e1
  exact cOk_iff.2 ⟨h1, h2, e2, e3, fun a b ha hb => e4 a b ha hb⟩
theorem matOk_zero (n : Nat) : matOk n (List.replicate n (List.replicate n 0)) := by
  have hat : ∀ a b, cAt (List.replicate n (List.replicate n 0)) a b = 0 := fun a b => by
    simp only [cAt, List.getD_eq_getElem?_getD, List.getElem?_replicate]
    split
    · simp only [Option.getD_some, List.getElem?_replicate]
      split <;> rfl
    · rfl
  refine ⟨by simp, sqB_mk fun a r ha => ?_, inC_mk fun a r ha => ?_, fun a b _ _ => okC_ok (by rw [hat, hat]) fun _ => hat a b⟩
  · rw [List.getElem?_replicate] at ha
    split at ha
    · injection ha with ha; subst ha; simp
    · cases ha
  · rw [List.getElem?_replicate] at ha
    split at ha
    · injection ha with ha
      subst ha
      rw [allB, List.all_eq_true]
      intro x hx
      have := (List.mem_replicate.1 hx).2
      subst this; decide
    · cases ha
theorem cAt_set {t : List (List Int)} {i k a b : Nat} {r : List Int} {x : Int} (hr : t[i]? = some r) (hk : k < r.length) : cAt (t.set i (r.set k x)) a b = if a = i ∧ b = k then x else cAt t a b := by
  have hi := (List.getElem?_eq_some_iff.1 hr).1
  simp only [cAt, List.getD_eq_getElem?_getD, List.getElem?_set]
  by_cases ha : i = a
  · subst ha
    rw [if_pos rfl, if_pos hi]
    simp only [Option.getD_some, List.getElem?_set, hr, true_and]
    by_cases hb : k = b
    · subst hb; simp [hk]
    · rw [if_neg hb, if_neg (fun e => hb e.symm)]
  · rw [if_neg ha, if_neg (fun e => ha e.1.symm)]
theorem matOk_step {n i k : Nat} {t : List (List Int)} {ri rk : List Int} {x1 x2 : Int} (h : matOk n t) (hki : k < i) (hi : i < n) (hri : t[i]? = some ri) (hrk : (t.set i (ri.set k x1))[k]? = some rk) (h1 : 1 ≤ x1 ∧ x1 ≤ 5) (h2 : 1 ≤ x2 ∧ x2 ≤ 5) :
    matOk n ((t.set i (ri.set k x1)).set k (rk.set i x2)) := by
  obtain ⟨e1, e2, e3, e4⟩ := h
  have hl1 := sqB_all e2 hri
  have hrk0 : t[k]? = some rk := by
    rw [List.getElem?_set] at hrk
    rwa [if_neg (by omega)] at hrk
  have hl2 := sqB_all e2 hrk0
  have hrow : ∀ (a : Nat) (r : List Int), ((t.set i (ri.set k x1)).set k (rk.set i x2))[a]? = some r → r.length = n ∧ allB r 0 5 = true := by
    intro a r ha
    rw [List.getElem?_set] at ha
    by_cases hak : k = a
    · rw [if_pos hak, if_pos (by simp; omega)] at ha
      injection ha with ha
      subst ha
      refine ⟨by simp; omega, ?_⟩
      have := inC_row e3 hrk0
      rw [allB, List.all_eq_true] at this ⊢
      intro y hy
      rcases List.mem_or_eq_of_mem_set hy with hy | rfl
      · exact this y hy
      · simp [inB]; omega
    · rw [if_neg hak, List.getElem?_set] at ha
      by_cases hai : i = a
      · rw [if_pos hai, if_pos (by omega)] at ha
        injection ha with ha
        subst ha
        refine ⟨by simp; omega, ?_⟩
        have := inC_row e3 hri
        rw [allB, List.all_eq_true] at this ⊢
        intro y hy
        rcases List.mem_or_eq_of_mem_set hy with hy | rfl
        · exact this y hy
        · simp [inB]; omega
      · rw [if_neg hai] at ha
        exact ⟨by rw [sqB_all e2 ha, e1], inC_row e3 ha⟩
  have hat : ∀ a b, cAt ((t.set i (ri.set k x1)).set k (rk.set i x2)) a b = if a = k ∧ b = i then x2 else if a = i ∧ b = k then x1 else cAt t a b := fun a b => by
    rw [cAt_set hrk (by omega), cAt_set hri (by omega)]
  refine ⟨by simp [e1], sqB_mk fun a r ha => by simp [(hrow a r ha).1, e1], inC_mk fun a r ha => (hrow a r ha).2, fun a b ha hb => ?_⟩
  refine okC_ok ?_ fun e => ?_
  · rw [hat, hat]
    by_cases c1 : a = k ∧ b = i
    · obtain ⟨rfl, rfl⟩ := c1
      rw [if_pos ⟨rfl, rfl⟩, if_neg (by omega), if_pos ⟨rfl, rfl⟩]
      simp; omega
    · rw [if_neg c1]
      by_cases c2 : a = i ∧ b = k
      · obtain ⟨rfl, rfl⟩ := c2
        rw [if_pos ⟨rfl, rfl⟩, if_pos ⟨rfl, rfl⟩]
        simp; omega
      · rw [if_neg c2, if_neg (fun e => c2 ⟨e.2, e.1⟩), if_neg (fun e => c1 ⟨e.2, e.1⟩)]
        exact okC_sym (e4 a b ha hb)
  · subst e
    rw [hat, if_neg (by omega), if_neg (by omega)]
    exact okC_irr (e4 a a ha ha)

/-- A row of a slice of slices of the call's own: its cells, and what a store into it leaves. -/
theorem Ow2.row {w : World} {lo hi E2 E n c j : Nat} {A : Option Addr} {xss : List (List Int)} (h : Ow2 w lo hi E2 E ILit A n c xss) (hne : E ≠ E2) (hhi : hi ≤ w.heap.size) {xs : List Int} (hx : xss[j]? = some xs) (hp : 0 < xs.length) :
    ∃ g gj cj, A = some ⟨g, 0, none⟩ ∧ lo ≤ g ∧ g < w.heap.size ∧ lo ≤ gj ∧ gj < w.heap.size ∧ g ≠ gj ∧ xs.length ≤ cj ∧ w.cell? ⟨g, j, none⟩ = some (.slice (some ⟨gj, 0, none⟩) xs.length cj) ∧
      (∀ k x, xs[k]? = some x → w.cell? ⟨gj, k, none⟩ = some (.int .i64 x)) ∧ (∀ k, w.frozen? ⟨gj, k, none⟩ = false) ∧
      ∀ k x, k < xs.length → Ow2 (w.setCell ⟨gj, k, none⟩ (.int .i64 x)) lo hi E2 E ILit A n c (xss.set j (xs.set k x)) := by
  have hlen := h.len
  obtain ⟨vs, h1, h2, h3⟩ := h
  have hj := (List.getElem?_eq_some_iff.1 hx).1
  obtain ⟨g, cs, rfl, hg1, hg2, hg3⟩ := h1.2.2.2 (by omega)
  obtain ⟨v, hv⟩ : ∃ v, vs[j]? = some v := ⟨_, List.getElem?_eq_getElem (by rw [h2.1]; exact hj)⟩
  obtain ⟨xs', A', n', c', hx', rfl, hO, hbl⟩ := h2.at_ hv
  have hxx : xs' = xs := by rw [hx] at hx'; injection hx' with hx'; exact hx'.symm
  subst hxx
  have hn' : n' = xs'.length := hO.len.symm
  subst hn'
  obtain ⟨gj, ds, rfl, hj1, hj2, hj3⟩ := hO.2.2.2 hp
  have hne2 : g ≠ gj := fun e => by
    subst e
    rw [hg2] at hj2
    injection hj2 with hj2
    injection hj2 with _ hj2
    exact hne hj2.symm
  refine ⟨g, gj, c', rfl, hg1, lt_of_heap hg2, hj1, lt_of_heap hj2, hne2, hO.2.1, by rw [cell_of_row w g j cs _ _ hg2]; exact hg3 j _ hv, fun k x hk => by rw [cell_of_row w gj k ds _ _ hj2]; exact hj3 k x hk, fun k => by simp [World.frozen?, hj2], fun k x hk => ?_⟩
  have hset := hO.set (j := k) (x := x) hk
  refine ⟨vs, h1.keep fun b hb hb2 hA => ?_, ?_, h3⟩
  · injection hA with hA
    injection hA with hA
    subst hA
    exact Below.heap_setCell w _ _ _ hne2
  · refine h2.set (w' := w.setCell ⟨gj, k, none⟩ (.int .i64 x)) hv hset (fun b hb hbn => Below.heap_setCell w _ _ b (fun e => hbn ?_)) (fun b _ hb => by omega)
    simp only at e
    subst e; rfl
theorem Ow2.store {w : World} {lo hi E2 E n c j g gj m cj k : Nat} {xss : List (List Int)} (h : Ow2 w lo hi E2 E ILit (some ⟨g, 0, none⟩) n c xss) (hne : E ≠ E2) (hhi : hi ≤ w.heap.size) {xs : List Int} (hx : xss[j]? = some xs) (hk : k < xs.length)
    (hc : w.cell? ⟨g, j, none⟩ = some (.slice (some ⟨gj, 0, none⟩) m cj)) (x : Int) : Ow2 (w.setCell ⟨gj, k, none⟩ (.int .i64 x)) lo hi E2 E ILit (some ⟨g, 0, none⟩) n c (xss.set j (xs.set k x)) := by
  obtain ⟨g', gj', cj', hA, -, -, -, -, -, -, cell1, -, -, hset⟩ := h.row hne hhi hx (by omega)
  injection hA with hA
  injection hA with hA
  subst hA
  rw [hc] at cell1
  injection cell1 with e
  injection e with e _ _
  injection e with e
  injection e with e
  subst e
  exact hset k x hk
end Go.Proofs.YtfdlcphiidfkcaaDoor

/- randomClear, walked. -/
namespace Go.Proofs.YtfdlcphiidfkcaaDoor
open Go.RowKit

def ClearOf (w : World) (r p m : Nat) (e : Ending) (w' : World) : Prop :=
  ∃ A c q t, e = .returned (.slice A m c) ∧ Ow2 w' w.heap.size w'.heap.size 28 3 ILit A m c t ∧ matOk m t ∧ q ≤ p + 200 ∧ Below w.heap.size (adv w r q) w'

theorem info_rowI : (Tryd.prog.info? 28).map (fun i => (i.zero, i.size, i.bytes)) = some (some (.slice none 0 0), 1, 24) := by kernel_rfl
theorem made_rep0 (m : Nat) : madeCells #[.int .i64 0] m = ((List.replicate m (0 : Int)).map ILit).toArray := by
  have h1 := part_zero ILit (.int .i64 0) (List.replicate m (0 : Int))
  rw [List.length_replicate] at h1
  rw [← h1]
  simp [part, ILit]

set_option maxHeartbeats 4000000 in
theorem randomClear_c (w : World) (r n c p : Nat) (A : Option Addr) (bs : List Int) (m : Nat) (hR : Rd w r A n c bs p) (hp : p ≤ 400000) (hm1 : 1 ≤ m) (hm8 : m ≤ 8) :
    Calls Tryd.prog 55 #[.pointer (some ⟨r, 0, none⟩), .int .i64 m] w (ClearOf w r p m) := by
  have hlt := hR.lt
  obtain ⟨i0, hi, hi0, hi1, hi2⟩ := info_parts info_int
  obtain ⟨i1, hj, hj0, hj1, hj2⟩ := info_parts info_rowI
  have hmk := run_make_row' (P := Tryd.prog) 28 3 (.int .i64 0) 8 Tryd.underlying28 info_int rfl .i64 .i64 m (by omega) (by omega)
  rw [made_rep0] at hmk
  obtain ⟨cs, hcs⟩ : ∃ cs, ((List.replicate m (0 : Int)).map ILit).toArray = cs := ⟨_, rfl⟩
  rw [hcs] at hmk
  have HCS := Lib.hid hcs
  clear hcs
  go_enter Tryd.func55, Tryd.ntmps55
  go_wp2_with fail
  go_loopw [5, 6] (fun v i wr => ∃ (k : Nat), k ≤ m ∧ i = .int .i64 k ∧ Bld wr w.heap.size 28 3 ILit v k (List.replicate k (List.replicate m 0)) ∧ Below w.heap.size w wr) (fun _ i _ => m - (intOf i).toNat)
  case atStart => exact ⟨0, by omega, rfl, Bld.nil _ _ _ _ _ _ (World.ownsRow_made _ #[] 0 (Nat.le_refl _) (by decide) rfl), by (repeat' (first | (with_reducible exact Below.refl _ _) | (with_reducible assumption) | (with_reducible refine Below.alloc ?_ ?_ _) | (with_reducible refine below_plus ?_ ?_ _ _) | (with_reducible refine Below.drew ?_) | (with_reducible refine Below.setCell ?_ ?_ _) | (with_reducible refine below_adv ?_ ?_ _) | go_size | (simp; done) | (simp; omega)))⟩
  case round =>
    obtain ⟨k, hk, rfl, hBl, hb⟩ := hrel
    have hzr := hb.size
    by_cases hkm : k < m
    · obtain ⟨vs, hv1, hv2, hv3⟩ := hBl
      have hv0 := fun b hb => (hv1.lt b hb).2
      have hb2 : Below wr.heap.size wr (wr.alloc (.cells cs 3)) := (Below.refl _ _).alloc (Nat.le_refl _) _
      have hown2 := own_below hv1 hb2
      have hR2 := hv2.below (Nat.le_refl _) hb2
      have hbb := hb.trans (hb2.mono hzr)
      have hW5 := Ow.new wr ILit (List.replicate m (0 : Int)) 3 (by simp; omega)
      rw [HCS.out, List.length_replicate] at hW5
      have HW := Lib.hid hW5
      have HV0 := Lib.hid hv0
      clear hv1 hv2 hb2 hW5 hv0
      go_wp2_with (at_builtin; refine wpList_app1_at w (wr.alloc (.cells cs 3)) rfl _ _ 25 rfl 28 i1 (.slice none 0 0) 24 Tryd.underlying25 hj hj0 hj1 hj2 rfl (by decide) w.heap.size _ k _ (by rfl) hown2 _ rfl _ (by rfl) (by simp) (by omega) hbb (by simp; omega) ?_; intro v8 w8 hO8 hb8 hg8 hv8)
      have hN := Bld.app (f := ILit) (E := 3) hown2 hR2 hv3 HV0.out (by simp) hzr HW.out (fun b hb => by simp [Value.ownBlock] at hb; subst hb; simp) hO8 hg8 hv8
      rw [← List.replicate_succ'] at hN
      clear hv3 hown2 hR2 hO8 hg8 hv8 HV0 HW
      go_roundw
      case rel => exact ⟨k + 1, by omega, by go_num, hN, hb8⟩
      case measure => simp [intOf]; omega
    · obtain rfl : k = m := by omega
      obtain ⟨A5, c5, rfl, hW5⟩ := hBl.ow2
      have hbq : Below w.heap.size (adv w r p) wr := by rw [adv_self hR]; exact hb
      have hM := Lib.hid (matOk_zero k)
      clear hBl hmk
      obtain ⟨wo, rfl⟩ : ∃ wo : World, wo = wr := ⟨_, rfl⟩
      go_wp2_with fail
      go_loopw [7] (fun i wr => ∃ (a q : Nat) (t : List (List Int)), a ≤ k ∧ i = .int .i64 a ∧ q ≤ p + 24 * a ∧ Ow2 wr w.heap.size wo.heap.size 28 3 ILit A5 k c5 t ∧ Hid (matOk k t) ∧ wr.heap.size ≥ wo.heap.size ∧ Below w.heap.size (adv w r q) wr) (fun i _ => k - (intOf i).toNat)
      case atStart => exact ⟨0, p, _, by omega, rfl, by omega, hW5, hM, Nat.le_refl _, hbq⟩
      case round =>
        clear hW5 hM hbq hb
        obtain ⟨a, q, t, ha, rfl, hq, hO, hM, hzo, hb⟩ := hrel
        by_cases hak : a < k
        · go_wp2_with fail
          go_loopw [8] (fun i wr => ∃ (b q : Nat) (t : List (List Int)), b ≤ a ∧ i = .int .i64 b ∧ q ≤ p + 24 * a + 3 * b ∧ Ow2 wr w.heap.size wo.heap.size 28 3 ILit A5 k c5 t ∧ Hid (matOk k t) ∧ wr.heap.size ≥ wo.heap.size ∧ Below w.heap.size (adv w r q) wr) (fun i _ => a - (intOf i).toNat)
          case atStart => exact ⟨0, q, t, by omega, rfl, by omega, hO, hM, hzo, hb⟩
          case round =>
            clear hO hM hzo hb hq
            obtain ⟨b, q, t, hba, rfl, hq, hO, hM, hzo, hb⟩ := hrel
            have hsz := hb.size
            rw [size_adv] at hsz
            by_cases hlt2 : b < a
            · go_wp2_with fail
              refine (pick_g w wr r n c p q A bs 2 hR hb (by omega)).mono ?_
              rintro e w1 ⟨k1, ⟨hk0, hk1, -⟩, rfl, hb1, hg1⟩
              have hk1' := hk1 (by omega)
              have hz1 := hg1.size
              rw [size_adv] at hz1
              have hO1 : Ow2 w1 w.heap.size wo.heap.size 28 3 ILit A5 k c5 t := hO.keep fun b' h1 _ h2 => (hg1.block b' h2).trans (heap_adv _ _ _ _ (by omega))
              clear hO hb hg1 hk1
              by_cases hkz : k1 = 0
              · subst hkz
                obtain ⟨ra, hra⟩ : ∃ ra, t[a]? = some ra := ⟨_, List.getElem?_eq_getElem (by rw [hM.out.1]; omega)⟩
                have hral : ra.length = k := by rw [sqB_all hM.out.2.1 hra, hM.out.1]
                obtain ⟨g, ga, ca, rfl, hg0, hgl, hga0, hgal, hne, hca, cell1, celle, frz, hset⟩ := hO1.row (by decide) (by omega) hra (by omega)
                rw [hral] at cell1 hset hca
                obtain ⟨y, hy⟩ : ∃ y, ra[b]? = some y := ⟨_, List.getElem?_eq_getElem (by omega)⟩
                have HRA := Lib.hid hra
                have HRL := Lib.hid hral
                have HO1 := Lib.hid hO1
                have cell2 := celle b y hy
                have frz2 := frz b
                have b0 : (0 : Int) ≤ (b : Int) := by omega
                have b1 : (b : Int) < (k : Int) := by omega
                have a0 : (0 : Int) ≤ (a : Int) := by omega
                have a1 : (a : Int) < (k : Int) := by omega
                have HB1 := Lib.hid hb1
                clear hO1 celle frz hset hra hral hy hb1
                go_wp2_with fail
                go_region_held3 (fun w' => w'.cell? ⟨g, a, none⟩ = some (.slice (some ⟨ga, 0, none⟩) k ca)) (first | go_keep | (exact (World.cell?_of_block (a := ⟨g, a, none⟩) ((hg2.block g hgl).trans (heap_adv _ _ _ _ (by omega)))).trans cell1) | (rw [World.cell?_setCell_other _ _ _ _ (by first | (simp; done) | (simp; omega))]; assumption))
                  ((go_at_call 52; refine (pick_g w _ r n c p (q + 1) A bs 5 hR HB1.out.drew (by omega)).mono ?_; rintro e w2 ⟨k2, ⟨hk20, hk21, -⟩, rfl, hb2, hg2⟩; have hk22 := hk21 (by decide); have hwr : IntKind.i64.wrap (1 + k2) = 1 + k2 := IntWalk.i64_in _ (by omega); have cw2 := (World.cell?_of_block (a := ⟨ga, b, none⟩) ((hg2.block ga hgal).trans (heap_adv _ _ _ _ (by omega)))).trans cell2; have fw2 := (World.frozen?_of_block (a := ⟨ga, b, none⟩) ((hg2.block ga hgal).trans (heap_adv _ _ _ _ (by omega)))).trans frz2))
                have hz2 : w1.heap.size ≤ w2.heap.size := by have := hg2.size; rw [size_adv] at this; exact this
                have hO2 : Ow2 w2 w.heap.size wo.heap.size 28 3 ILit (some ⟨g, 0, none⟩) k c5 t := HO1.out.keep fun b' h1 _ h2 => (hg2.block b' h2).trans (heap_adv _ _ _ _ (by omega))
                have cell2' : w2.cell? ⟨g, a, none⟩ = some (.slice (some ⟨ga, 0, none⟩) k ca) := (World.cell?_of_block (a := ⟨g, a, none⟩) ((hg2.block g hgl).trans (heap_adv _ _ _ _ (by omega)))).trans cell1
                have hO3 := hO2.store (by decide) (by omega) HRA.out (k := b) (by rw [HRL.out]; omega) cell2' (1 + k2)
                have hb3 : Below w.heap.size (adv w r (q + 1 + 1)) (w2.setCell ⟨ga, b, none⟩ (.int .i64 (1 + k2))) := hb2.setCell hga0 _
                have hz3 : w2.heap.size = (w2.setCell ⟨ga, b, none⟩ (.int .i64 (1 + k2))).heap.size := by simp [World.setCell]
                obtain ⟨w3, hw3⟩ : ∃ w3, w2.setCell ⟨ga, b, none⟩ (.int .i64 (1 + k2)) = w3 := ⟨_, rfl⟩
                rw [hw3] at hO3 hb3 hz3 ⊢
                clear hw3 hO2 cell2' cw2 fw2 cell1 cell2 frz2 hb2 hg2 HO1 HB1 hwr
                have hml := hM.out.1
                obtain ⟨rb, hrb⟩ : ∃ rb, (t.set a (ra.set b (1 + k2)))[b]? = some rb := ⟨_, List.getElem?_eq_getElem (by simp; omega)⟩
                have hrb0 : t[b]? = some rb := by
                  rw [List.getElem?_set] at hrb
                  rwa [if_neg (by omega)] at hrb
                have hrbl : rb.length = k := by rw [sqB_all hM.out.2.1 hrb0, hml]
                obtain ⟨g', gb, cb, hA', -, hgl3, hgb0, hgbl, hne3, hcb, cell3, cellf, frz3, -⟩ := hO3.row (by decide) (by omega) hrb (by omega)
                injection hA' with hA'
                injection hA' with hA'
                subst hA'
                rw [hrbl] at cell3 hcb
                obtain ⟨y3, hy3⟩ : ∃ y, rb[a]? = some y := ⟨_, List.getElem?_eq_getElem (by omega)⟩
                have cell4 := cellf a y3 hy3
                have frz4 := frz3 a
                have HRB := Lib.hid hrb
                have HRBL := Lib.hid hrbl
                have HO3 := Lib.hid hO3
                have HB3 := Lib.hid hb3
                clear hO3 cellf frz3 hrb hrb0 hrbl hy3 hb3 hml
                go_wp2_with fail
                go_region_held3 (fun w' => w'.cell? ⟨g, b, none⟩ = some (.slice (some ⟨gb, 0, none⟩) k cb)) (first | go_keep | (exact (World.cell?_of_block (a := ⟨g, b, none⟩) ((hg4.block g hgl3).trans (heap_adv _ _ _ _ (by omega)))).trans cell3) | (rw [World.cell?_setCell_other _ _ _ _ (by first | (simp; done) | (simp; omega))]; assumption))
                  ((go_at_call 52; refine (pick_g w _ r n c p (q + 1 + 1) A bs 5 hR HB3.out.drew (by omega)).mono ?_; rintro e w4 ⟨k3, ⟨hk30, hk31, -⟩, rfl, hb4, hg4⟩; have hk32 := hk31 (by decide); have hwr : IntKind.i64.wrap (1 + k3) = 1 + k3 := IntWalk.i64_in _ (by omega); have cw4 := (World.cell?_of_block (a := ⟨gb, a, none⟩) ((hg4.block gb hgbl).trans (heap_adv _ _ _ _ (by omega)))).trans cell4; have fw4 := (World.frozen?_of_block (a := ⟨gb, a, none⟩) ((hg4.block gb hgbl).trans (heap_adv _ _ _ _ (by omega)))).trans frz4))
                have hz4 : w3.heap.size ≤ w4.heap.size := by have := hg4.size; rw [size_adv] at this; exact this
                have hO4 : Ow2 w4 w.heap.size wo.heap.size 28 3 ILit (some ⟨g, 0, none⟩) k c5 _ := HO3.out.keep fun b' h1 _ h2 => (hg4.block b' h2).trans (heap_adv _ _ _ _ (by omega))
                have cell4' : w4.cell? ⟨g, b, none⟩ = some (.slice (some ⟨gb, 0, none⟩) k cb) := (World.cell?_of_block (a := ⟨g, b, none⟩) ((hg4.block g hgl3).trans (heap_adv _ _ _ _ (by omega)))).trans cell3
                have hO5 := hO4.store (by decide) (by omega) HRB.out (k := a) (by rw [HRBL.out]; omega) cell4' (1 + k3)
                have hM5 := Lib.hid (matOk_step hM.out hlt2 hak HRA.out HRB.out ⟨show 1 ≤ 1 + k2 by omega, show 1 + k2 ≤ 5 by omega⟩ ⟨show 1 ≤ 1 + k3 by omega, show 1 + k3 ≤ 5 by omega⟩)
                have hb5 : Below w.heap.size (adv w r (q + 1 + 1 + 1)) (w4.setCell ⟨gb, a, none⟩ (.int .i64 (1 + k3))) := hb4.setCell hgb0 _
                have hz5 : w4.heap.size = (w4.setCell ⟨gb, a, none⟩ (.int .i64 (1 + k3))).heap.size := by simp [World.setCell]
                clear hO4 cell4' cw4 fw4 cell3 cell4 frz4 hb4 hg4 HO3 HB3 hwr
                go_wp2_with fail
                go_roundw
                case rel => exact ⟨b + 1, q + 1 + 1 + 1, _, by omega, by go_num, by omega, hO5, hM5, by omega, hb5⟩
                case measure => simp [intOf]; omega
              · have hk2 : (k1 == 0) = false := by simpa using hkz
                go_wp2_with fail
                go_roundw
                case rel => exact ⟨b + 1, q + 1, t, by omega, by go_num, by omega, hO1, hM, by omega, hb1⟩
                case measure => simp [intOf]; omega
            · obtain rfl : b = a := by omega
              go_wp2_with fail
              go_roundw
              case rel => exact ⟨b + 1, q, t, by omega, by go_num, by omega, hO, hM, hzo, hb⟩
              case measure => simp [intOf]; omega
        · obtain rfl : a = k := by omega
          go_wp2_with fail
          go_ret
          exact ⟨_, _, q, t, rfl, hO.more hzo, hM.out, by omega, hb⟩
end Go.Proofs.YtfdlcphiidfkcaaDoor

/- The generators of tables of conflicts: anyTable; inMask. -/
namespace Go.Proofs.YtfdlcphiidfkcaaDoor
open Go.RowKit

def TableOf (w : World) (r p : Nat) (e : Ending) (w' : World) : Prop :=
  ∃ A n c q t, e = .returned (.slice A n c) ∧ Kept2 w' w.heap.size OLit A n c t ∧ n ≤ 8 ∧ q ≤ p + 300 ∧ Below w.heap.size (adv w r q) w'

set_option maxHeartbeats 4000000 in
theorem anyTable_c (w : World) (r n c p : Nat) (A : Option Addr) (bs : List Int) (hR : Rd w r A n c bs p) (hp : p ≤ 300000) :
    Calls Tryd.prog 31 #[.pointer (some ⟨r, 0, none⟩)] w (TableOf w r p) := by
  have hlt := hR.lt
  go_enter Tryd.func31, Tryd.ntmps31
  go_wp2_with fail
  refine (one_lit_c _ r n c (p) A bs _ _ _ _ [4, 5, 3, 6, 2, 1, 8] (by rfl) (by rfl) (by decide) (by decide) (by (repeat' (first | (with_reducible exact hR) | (with_reducible exact RdX.of hR) | (with_reducible refine Rd.alloc ?_ _) | (with_reducible refine Rd.plus ?_ _ _) | (with_reducible refine Rd.drew ?_) | (with_reducible refine RdX.to ?_ _) | (with_reducible refine RdX.alloc ?_ _) | (with_reducible refine RdX.plus ?_ _ _) | (with_reducible refine RdX.adv ?_ _)))) (by omega) (by first | rfl | (simp; done) | (simp; omega))).mono ?_; rintro e w1 ⟨x1, hx1, rfl, os1, d1, rfl⟩
  have hx : 1 ≤ x1 ∧ x1 ≤ 8 := by simp at hx1; omega
  clear hx1
  obtain ⟨hx0, hx8⟩ := hx
  obtain ⟨m, rfl⟩ := Int.eq_ofNat_of_zero_le (show 0 ≤ x1 by omega)
  obtain ⟨w1, hw1⟩ : ∃ w1, plus (adv (w.alloc (.cells #[.int .i64 4, .int .i64 5, .int .i64 3, .int .i64 6, .int .i64 2, .int .i64 1, .int .i64 8] 3)) r (p + 1)) os1 d1 = w1 := ⟨_, rfl⟩
  have hb1 : Below w.heap.size (adv w r (p + 1)) w1 := by
    rw [← hw1, adv_alloc _ _ _ _ hlt]
    (repeat' (first | (with_reducible exact Below.refl _ _) | (with_reducible assumption) | (with_reducible refine Below.alloc ?_ ?_ _) | (with_reducible refine below_plus ?_ ?_ _ _) | (with_reducible refine Below.drew ?_) | (with_reducible refine Below.setCell ?_ ?_ _) | (with_reducible refine below_adv ?_ ?_ _) | go_size | (simp; done) | (simp; omega)))
  have hR1 := (hR.adv (p + 1)).below hb1 hlt
  have hz1 := hb1.size
  rw [size_adv] at hz1
  have hl1 := hR1.lt
  rw [hw1]
  clear hw1
  go_wp2_with fail
  refine (randomClear_c w1 r n c (p + 1) A bs m hR1 (by omega) (by omega) (by omega)).mono ?_
  rintro e w2 ⟨A2, c2, q2, t, rfl, hO2, hM, hq2, hb2⟩
  have hz2 := hb2.size
  rw [size_adv] at hz2
  have hb02 := (below_adv2 hb1 q2).trans (hb2.mono hz1)
  have hok := hM.ok (by omega) (by omega)
  have cc := sConflictsOf_c A2 m c2 t w2 _ hO2.sl2 (Nat.le_refl _)
  rw [confF_yes hok] at cc
  have hT := conf_ok hok
  have htl : (conf t).length = m := by rw [conf_len, hM.1]
  obtain ⟨T, hTT⟩ : ∃ T, conf t = T := ⟨_, rfl⟩
  rw [hTT] at cc hT htl
  have CC := Lib.hid cc
  have HT := Lib.hid hT
  have HTL := Lib.hid htl
  clear hb1 hb2 hO2 hM hok cc hT htl hTT
  go_wp2_with fail
  refine CC.out.mono ?_
  rintro e w3 ⟨A3, n3, c3, rfl, hO3, hb3⟩
  have hn3 := hO3.len
  rw [HTL.out] at hn3
  subst hn3
  have hz3 := hb3.size
  have hb03 := hb02.trans (hb3.mono (by omega))
  clear CC hb02 hb3
  go_wp2_with fail
  refine (pick_g w w3 r n c p q2 A bs 24 hR hb03 (by omega)).mono ?_
  rintro e w4 ⟨k, -, rfl, hb4, hg4⟩
  have hz4 : w3.heap.size ≤ w4.heap.size := by have := hg4.size; rw [size_adv] at this; exact this
  have hO4 : Ow2 w4 w2.heap.size w3.heap.size 29 4 OLit A3 m c3 T := hO3.keep fun b' h1 _ h2 => (hg4.block b' h2).trans (heap_adv _ _ _ _ (by omega))
  have hK4 := (hO4.less (lo' := w.heap.size) (by omega)).kept2 (by omega)
  obtain ⟨hcc0, hcc1⟩ := hO4.cap
  clear hO3 hg4 hb03
  by_cases k0 : k = 0
  · subst k0
    obtain ⟨r0, hr0⟩ : ∃ r0, T[0]? = some r0 := ⟨_, List.getElem?_eq_getElem (by rw [HTL.out]; omega)⟩
    have hrl : r0.length = m := by rw [sqB_all (tOk_iff.1 HT.out).2.2.1 hr0, HTL.out]
    obtain ⟨g, ga, ca, rfl, hg0, hgl, hga0, hgal, hne, hca, cell1, celle, frz, hset⟩ := hO4.rowB (by decide) (by omega) hr0 (by omega)
    obtain ⟨y, hy⟩ : ∃ y, r0[0]? = some y := ⟨_, List.getElem?_eq_getElem (by omega)⟩
    have cell2 := celle 0 y hy
    have frz2 := frz 0
    have hO5 := hset 0 true (by omega)
    have hK5 := (hO5.less (lo' := w.heap.size) (by omega)).kept2 (by simp [World.setCell]; omega)
    rw [hrl] at cell1 hca
    have HK := Lib.hid hK5
    have hm0 : (0 : Int) < (m : Int) := by omega
    have hb5 := hb4.setCell (p := ⟨ga, 0, none⟩) (show w.heap.size ≤ ga by omega) (.bool true)
    clear hO4 hK4 hr0 hrl celle frz hset hy hO5 hK5
    go_wp2_with fail
    go_ret
    exact ⟨_, _, _, q2 + 1, _, rfl, HK.out, by omega, by omega, hb5⟩
  · by_cases k1 : k = 1
    · subst k1
      obtain ⟨m', rfl⟩ : ∃ m', m = m' + 1 := ⟨m - 1, by omega⟩
      obtain ⟨r0, hr0⟩ : ∃ r0, T[m']? = some r0 := ⟨_, List.getElem?_eq_getElem (by rw [HTL.out]; omega)⟩
      have hrl : r0.length = m' + 1 := by rw [sqB_all (tOk_iff.1 HT.out).2.2.1 hr0, HTL.out]
      obtain ⟨g, ga, ca, rfl, hg0, hgl, hga0, hgal, hne, hca, cell1, celle, frz, hset⟩ := hO4.rowB (by decide) (by omega) hr0 (by omega)
      obtain ⟨y, hy⟩ : ∃ y, r0[0]? = some y := ⟨_, List.getElem?_eq_getElem (by omega)⟩
      have cell2 := celle 0 y hy
      have frz2 := frz 0
      have hO5 := hset 0 (!y) (by omega)
      have hK5 := (hO5.less (lo' := w.heap.size) (by omega)).kept2 (by simp [World.setCell]; omega)
      rw [hrl] at cell1 hca
      have HK := Lib.hid hK5
      have hm0 : (0 : Int) < ((m' : Int) + 1) := by omega
      have hm2 : ((m' : Int) + 1) - 1 = (m' : Int) := by omega
      have hb5 := hb4.setCell (p := ⟨ga, 0, none⟩) (show w.heap.size ≤ ga by omega) (.bool (!y))
      clear hO4 hK4 hr0 hrl celle frz hset hy hO5 hK5
      go_wp2_with fail
      have n1 : (0 : Int) ≤ (m' : Int) := by omega
      have n2 : (m' : Int) < (m' : Int) + 1 := by omega
      have n3 : IntKind.i64.wrap (m' : Int) = (m' : Int) := IntWalk.i64_in _ (by omega)
      go_still_tail 16, (by kernel_rfl)
      change wpList _ _ _ _ _ w4.drew
      clear n1 n2 n3
      go_wp2_with fail
      go_ret
      exact ⟨_, _, _, q2 + 1, _, rfl, HK.out, by omega, by omega, hb5.drew⟩
    · by_cases k2 : k = 2
      · subst k2
        have hd := hK4.drop (k := 1) (by omega)
        have hA3 : ∃ g, A3 = some ⟨g, 0, none⟩ := by
          obtain ⟨vs, h1, -, -⟩ := hO4
          obtain ⟨g, cs, hA, -⟩ := h1.2.2.2 (by omega)
          exact ⟨g, hA⟩
        obtain ⟨g, rfl⟩ := hA3
        by_cases hc1 : c3 = 1
        · rw [if_pos hc1] at hd
          rw [hc1] at hd
          have HD := Lib.hid hd
          clear hd hO4 hK4
          go_wp2_with fail
          go_ret
          exact ⟨_, _, _, q2 + 1, _, rfl, by simpa [hc1] using HD.out, by omega, by omega, hb4⟩
        · rw [if_neg hc1] at hd
          have HD := Lib.hid hd
          clear hd hO4 hK4
          go_wp2_with fail
          go_ret
          exact ⟨_, _, _, q2 + 1, _, rfl, HD.out, by omega, by omega, hb4⟩
      · have k0' : (k == 0) = false := by simpa using k0
        have k1' : (k == 1) = false := by simpa using k1
        have k2' : (k == 2) = false := by simpa using k2
        have HK := Lib.hid hK4
        clear hO4 hK4 k0 k1 k2
        go_wp2_with fail
        go_ret
        exact ⟨_, _, _, q2 + 1, _, rfl, HK.out, by omega, by omega, hb4⟩
end Go.Proofs.YtfdlcphiidfkcaaDoor

/- inMask. -/
namespace Go.Proofs.YtfdlcphiidfkcaaDoor
open Go.RowKit

theorem bit_test (m k : Nat) : (((m : Int) / 2 ^ k).tmod 2 == 1) = m.testBit k := by
  have e : (m : Int) / 2 ^ k = ((m / 2 ^ k : Nat) : Int) := by simp
  have e2 : (((m / 2 ^ k : Nat) : Int)).tmod 2 = ((m / 2 ^ k % 2 : Nat) : Int) := rfl
  rw [e, e2, Nat.testBit_eq_decide_div_mod_eq]
  by_cases h : m / 2 ^ k % 2 = 1
  · rw [h]; rfl
  · have h0 : m / 2 ^ k % 2 = 0 := by omega
    rw [h0]; rfl

/-- A slice of ints of the call's own, at most m long. -/
def MaskOf (w : World) (n m : Nat) (e : Ending) (w' : World) : Prop :=
  ∃ A k c, e = .returned (.slice A k c) ∧ Ow w' w.heap.size 3 ILit A k c (movesN n m) ∧ k ≤ n ∧ (∀ b, (Value.slice A k c).ownBlock = some b → w.heap.size ≤ b ∧ b < w'.heap.size) ∧ Below w.heap.size w w'

set_option maxHeartbeats 1000000 in
theorem inMask_c (mask : Nat) (n : Nat) (w : World) (hm : mask ≤ 1048576) (hn : n ≤ 20) :
    Calls Tryd.prog 36 #[.int .i64 mask, .int .i64 n] w (MaskOf w n mask) := by
  obtain ⟨i0, hi, hi0, hi1, hi2⟩ := info_parts info_int
  go_enter Tryd.func36, Tryd.ntmps36
  go_wp2_with fail
  go_loopw [5, 6] (fun v i wr => ∃ (k j : Nat), k ≤ n ∧ i = .int .i64 k ∧ j ≤ k ∧ wr.ownsRow w.heap.size 3 1 v j ((movesN k mask).map ILit) ∧ Below w.heap.size w wr) (fun _ i _ => n - (intOf i).toNat)
  case atStart => exact ⟨0, 0, by omega, rfl, by omega, World.ownsRow_made _ #[] 0 (Nat.le_refl _) (by decide) rfl, by (repeat' (first | (with_reducible exact Below.refl _ _) | (with_reducible assumption) | (with_reducible refine Below.alloc ?_ ?_ _) | (with_reducible refine below_plus ?_ ?_ _ _) | (with_reducible refine Below.drew ?_) | (with_reducible refine Below.setCell ?_ ?_ _) | (with_reducible refine below_adv ?_ ?_ _) | go_size | (simp; done) | (simp; omega)))⟩
  case round =>
    obtain ⟨k, j, hk, rfl, hjk, hB, hb⟩ := hrel
    have hzr := hb.size
    by_cases hlt : k < n
    · have hbt := bit_test mask k
      have hs := movesN_succ k mask
      cases ht : mask.testBit k
      · rw [ht] at hbt hs
        rw [if_neg (by decide), List.append_nil] at hs
        have HS := Lib.hid hs
        clear hs ht
        go_wp2_with fail
        go_roundw
        case rel => exact ⟨k + 1, j, by omega, by go_num, by omega, by rw [HS.out]; exact hB, hb⟩
        case measure => simp [intOf]; omega
      · rw [ht] at hbt hs
        rw [if_pos rfl] at hs
        have HS := Lib.hid hs
        clear hs ht
        go_wp2_with (at_builtin; refine wpList_app1 w wr rfl _ _ 28 rfl 3 i0 (.int .i64 0) 8 Tryd.underlying28 hi hi0 hi1 hi2 rfl (by decide) w.heap.size _ j _ (by rfl) hB _ rfl _ (by rfl) rfl (by omega) hb hzr ?_; intro v8 w8 hO8 hb8 hg8)
        rw [ints_snoc, ← HS.out] at hO8
        go_roundw
        case rel => exact ⟨k + 1, j + 1, by omega, by go_num, by omega, hO8, hb8⟩
        case measure => simp [intOf]; omega
    · obtain rfl : k = n := by omega
      have hlt5 := hB.lt
      obtain ⟨A5, c5, rfl, hW5⟩ := Ow.of_own hB
      clear hB
      go_wp2_with fail
      go_ret
      exact ⟨_, _, _, rfl, hW5, hjk, hlt5, hb⟩
end Go.Proofs.YtfdlcphiidfkcaaDoor

/- The generators DrawValidConflicts, DrawValidPhase and their like. -/
namespace Go.Proofs.YtfdlcphiidfkcaaDoor
open Go.RowKit

def TabDrawn (w : World) (e : Ending) (w' : World) : Prop :=
  ∃ A n c t, e = .returned (.slice A n c) ∧ Sl2 w' w'.heap.size OLit A n c t ∧ n ≤ 8 ∧ Below w.heap.size w w'

theorem drawFullPhases_c (A : Option Addr) (n c : Nat) (bs : List Int) (w : World) (B : Nat) (hS : Sl w B BLit A n c bs) (hB : B ≤ w.heap.size) (hbs : ∀ x ∈ bs, 0 ≤ x ∧ x ≤ 255) :
    Calls Tryd.prog 25 #[.slice A n c] w (TabDrawn w) := by
  go_enter Tryd.func25, Tryd.ntmps25
  go_wp2_with fail
  refine (newReader_c w A n c _ bs hS hB hbs).mono ?_
  rintro e w1 ⟨r, A1, n1, c1, bs1, rfl, hw1, hR, hr0, hr1⟩
  have hlt := hR.lt
  have hb1 : Below w.heap.size w w1 := by rw [← hw1]; exact (Below.refl _ _).alloc (Nat.le_refl _) _
  have hz1 := hb1.size
  clear hw1
  go_wp2_with fail
  refine (anyTable_c w1 r n1 c1 0 A1 bs1 hR (by omega)).mono ?_
  rintro e w2 ⟨A2, n2, c2, q, t, rfl, hK2, hn2, -, hb2⟩
  have hT2 := hK2.here
  clear hK2
  go_wp2_with fail
  go_ret
  exact ⟨_, _, _, _, rfl, hT2, hn2, (below_adv hb1 hr0 q).trans (hb2.mono hz1)⟩
theorem drawFewestPhases_c (A : Option Addr) (n c : Nat) (bs : List Int) (w : World) (B : Nat) (hS : Sl w B BLit A n c bs) (hB : B ≤ w.heap.size) (hbs : ∀ x ∈ bs, 0 ≤ x ∧ x ≤ 255) :
    Calls Tryd.prog 11 #[.slice A n c] w (TabDrawn w) := by
  go_enter Tryd.func11, Tryd.ntmps11
  go_wp2_with fail
  refine (newReader_c w A n c _ bs hS hB hbs).mono ?_
  rintro e w1 ⟨r, A1, n1, c1, bs1, rfl, hw1, hR, hr0, hr1⟩
  have hlt := hR.lt
  have hb1 : Below w.heap.size w w1 := by rw [← hw1]; exact (Below.refl _ _).alloc (Nat.le_refl _) _
  have hz1 := hb1.size
  clear hw1
  go_wp2_with fail
  refine (anyTable_c w1 r n1 c1 0 A1 bs1 hR (by omega)).mono ?_
  rintro e w2 ⟨A2, n2, c2, q, t, rfl, hK2, hn2, -, hb2⟩
  have hT2 := hK2.here
  clear hK2
  go_wp2_with fail
  go_ret
  exact ⟨_, _, _, _, rfl, hT2, hn2, (below_adv hb1 hr0 q).trans (hb2.mono hz1)⟩
def PhaseDrawn (w : World) (e : Ending) (w' : World) : Prop :=
  ∃ A n c t A2 n2 c2 ph, e = .returned (.tuple #[.slice A n c, .slice A2 n2 c2]) ∧ Sl2 w' w'.heap.size OLit A n c t ∧ Sl w' w'.heap.size ILit A2 n2 c2 ph ∧ n ≤ 8 ∧ n2 ≤ 10 ∧ Below w.heap.size w w'

set_option maxHeartbeats 4000000 in
theorem drawValidPhase_c (A : Option Addr) (n c : Nat) (bs : List Int) (w : World) (B : Nat) (hS : Sl w B BLit A n c bs) (hB : B ≤ w.heap.size) (hbs : ∀ x ∈ bs, 0 ≤ x ∧ x ≤ 255) :
    Calls Tryd.prog 27 #[.slice A n c] w (PhaseDrawn w) := by
  go_enter Tryd.func27, Tryd.ntmps27
  go_wp2_with fail
  refine (newReader_c w A n c _ bs hS hB hbs).mono ?_
  rintro e w1 ⟨r, A1, n1, c1, bs1, rfl, hw1, hR, hr0, hr1⟩
  have hlt := hR.lt
  have hb1 : Below w.heap.size w w1 := by rw [← hw1]; exact (Below.refl _ _).alloc (Nat.le_refl _) _
  have hz1 := hb1.size
  clear hw1
  go_wp2_with fail
  refine (anyTable_c w1 r n1 c1 0 A1 bs1 hR (by omega)).mono ?_
  rintro e w2 ⟨A2, n2, c2, q, t, rfl, hK2, hn2, hq, hb2⟩
  have hz2 : w1.heap.size ≤ w2.heap.size := by have := hb2.size; rw [size_adv] at this; exact this
  have HK := Lib.hid hK2
  have HB2 := Lib.hid hb2
  clear hK2 hb2 hS hbs
  go_wp2_with fail
  have hP1 : 1 ≤ 2 ^ n2 := Nat.one_le_two_pow
  have hP2 : 2 ^ n2 ≤ 2 ^ 8 := Nat.pow_le_pow_right (by omega) hn2
  have hpw : (2 : Int) ^ n2 = ((2 ^ n2 : Nat) : Int) := by simp
  obtain ⟨P, hP⟩ : ∃ P, 2 ^ n2 = P := ⟨_, rfl⟩
  rw [hP] at hP1 hP2 hpw
  have hpw2 : IntKind.i64.wrap ((P : Nat) : Int) = P := IntWalk.i64_in _ (by omega)
  have hp0 : ((P : Int) == 0) = false := by simp; omega
  have hp1 : ¬ P = 0 := by omega
  clear hP
  go_region_held3 (fun w' => True) (trivial)
    (first | (go_at_call 52; refine (pick_g w1 _ r n1 c1 0 q A1 bs1 256 hR HB2.out.drew (by omega)).mono ?_; rintro e w3 ⟨k, ⟨hk0, hk1, -⟩, rfl, hb3, hg3⟩; have hk2 := hk1 (by decide); obtain ⟨k, rfl⟩ := Int.eq_ofNat_of_zero_le hk0; have hrm : ((k : Int)).tmod (P : Int) = ((k % P : Nat) : Int) := rfl; have hkl := Nat.mod_lt k (show 0 < P by omega); obtain ⟨k', hk'⟩ : ∃ k', k % P = k' := ⟨_, rfl⟩; rw [hk'] at hrm hkl; have hkw : IntKind.i64.wrap ((k' : Nat) : Int) = k' := IntWalk.i64_in _ (by omega); clear hk'; have hz3 : w1.heap.size ≤ w3.heap.size := (by have := hb3.size; rw [size_adv] at this; exact this)) | (go_at_call 36; refine (inMask_c k' n2 _ (by omega) (by omega)).mono ?_; rintro e w4 ⟨A4, k4, c4, rfl, hW4, hk4, -, hb4⟩; have hz4 := hb4.size; have hb14 := hb3.trans (hb4.mono (by omega)); have hR4 := (hR.adv (q + 1)).below hb14 hlt) | (go_at_call 51; refine (spoil_c _ r n1 c1 (q + 1) A1 bs1 hR4 (by omega) A4 k4 c4 _ _ 8 hW4.sl (Nat.le_refl _) (by omega)).mono ?_; rintro e w5 ⟨A5, n5, c5, q5, ys, rfl, hS5, hn5, hq5, hb5, -⟩))
  have hz3' : w2.heap.size ≤ w3.heap.size := by have := hg3.size; rw [size_adv] at this; exact this
  have hz5 : w4.heap.size ≤ w5.heap.size := by have := hb5.size; rw [size_adv] at this; exact this
  have hK5 : Sl2 w5 w5.heap.size OLit A2 n2 c2 t := (HK.out w5 fun b h1 h2 => by
    have hbr : b ≠ r := by omega
    have e1 := (hb5.block b (by omega)).trans (heap_adv w4 r q5 b hbr)
    have e2 := hb4.block b (by omega)
    have e3 : w3.heap[b]? = w2.heap[b]? := (hg3.block b h2).trans (heap_adv _ r (q + 1) b hbr)
    exact e1.trans (e2.trans e3)).more (by omega)
  have hb05 : Below w.heap.size w w5 := (below_adv hb1 hr0 q5).trans (((below_adv2 hb14 q5).trans (hb5.mono (by omega))).mono (by omega))
  clear hW4 hb14 hR4 hb5 hb4 hb3 hg3 HB2
  go_wp2_with fail
  go_ret2
  exact ⟨_, _, _, _, _, _, _, _, rfl, hK5, hS5, hn2, by omega, hb05⟩
end Go.Proofs.YtfdlcphiidfkcaaDoor
