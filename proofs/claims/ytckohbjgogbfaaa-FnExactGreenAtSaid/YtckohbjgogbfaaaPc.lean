/- My words and contracts, laid together: Ca1, Ca2, Cb1, Cb3. -/
import Derived.Test.YtckohbjgogbfaaaPp
import Derived.Test.YtckohbjgogbfaaaBc
import Derived.Test.YtckohbjgogbfaaaBd
set_option linter.unusedVariables false
set_option linter.unusedSimpArgs false
/- Tables of clearance times in plain words. -/
namespace Go.Proofs.Ytckohbjgogbfaaa
open Go.RowKit

/-- t[a][b]. -/
def cAt (t : List (List Int)) (a b : Nat) : Int := (t.getD a []).getD b 0
def okC (t : List (List Int)) (a b : Nat) : Bool := (decide (0 < cAt t a b) == decide (0 < cAt t b a)) && !(a == b && cAt t a b != 0)
def inC (t : List (List Int)) : Bool := t.all fun r => allB r 0 5
def cOk (t : List (List Int)) : Bool := inB t.length 1 8 && sqB t && inC t && (List.range t.length).all fun a => (List.range t.length).all fun b => okC t a b

theorem cAt_of {t : List (List Int)} {a b : Nat} {r : List Int} {x : Int} (ha : t[a]? = some r) (hb : r[b]? = some x) : cAt t a b = x := by
  simp [cAt, List.getD_eq_getElem?_getD, ha, hb]
theorem inC_row {t : List (List Int)} (h : inC t = true) {a : Nat} {r : List Int} (ha : t[a]? = some r) : allB r 0 5 = true := List.all_eq_true.1 h r (List.mem_of_getElem? ha)
theorem inC_bad {t : List (List Int)} {a : Nat} {r : List Int} (ha : t[a]? = some r) (h : allB r 0 5 = false) : inC t = false := by
  rw [inC, List.all_eq_false]
  exact ⟨r, List.mem_of_getElem? ha, by simp [h]⟩
theorem inC_mk {t : List (List Int)} (h : ∀ (a : Nat) (r : List Int), t[a]? = some r → allB r 0 5 = true) : inC t = true := by
  rw [inC, List.all_eq_true]
  intro r hr
  obtain ⟨a, ha⟩ := List.getElem?_of_mem hr
  exact h a r ha
theorem cOk_iff {t : List (List Int)} : cOk t = true ↔ 1 ≤ t.length ∧ t.length ≤ 8 ∧ sqB t = true ∧ inC t = true ∧ ∀ a b, a < t.length → b < t.length → okC t a b = true := by
  simp only [cOk, inB, Bool.and_eq_true, decide_eq_true_eq, List.all_eq_true, List.mem_range]
  constructor
  · rintro ⟨⟨⟨⟨h1, h2⟩, h3⟩, h5⟩, h4⟩
    exact ⟨by omega, by omega, h3, h5, fun a b ha hb => h4 a ha b hb⟩
  · rintro ⟨h1, h2, h3, h5, h4⟩
    exact ⟨⟨⟨⟨by omega, by omega⟩, h3⟩, h5⟩, fun a ha b hb => h4 a b ha hb⟩
theorem cOk_bad {t : List (List Int)} {a b : Nat} (ha : a < t.length) (hb : b < t.length) (h : okC t a b = false) : cOk t = false := by
  cases e : cOk t
  · rfl
  · have := (cOk_iff.1 e).2.2.2.2 a b ha hb
    rw [h] at this; cases this
theorem cOk_range {t : List (List Int)} (h : inB t.length 1 8 = false) : cOk t = false := by simp [cOk, h]
theorem cOk_sq {t : List (List Int)} (h : sqB t = false) : cOk t = false := by simp [cOk, h]
theorem cOk_in {t : List (List Int)} (h : inC t = false) : cOk t = false := by simp [cOk, h]
theorem okC_bad1 {t : List (List Int)} {a b : Nat} (h : decide (0 < cAt t a b) ≠ decide (0 < cAt t b a)) : okC t a b = false := by
  have : (decide (0 < cAt t a b) == decide (0 < cAt t b a)) = false := by simpa using h
  rw [okC, this]; rfl
theorem okC_bad2 {t : List (List Int)} {a : Nat} (h : cAt t a a ≠ 0) : okC t a a = false := by simp [okC, h]
theorem okC_ok {t : List (List Int)} {a b : Nat} (h : decide (0 < cAt t a b) = decide (0 < cAt t b a)) (h2 : a = b → cAt t a b = 0) : okC t a b = true := by
  by_cases he : a = b
  · subst he; simp [okC, h2 rfl]
  · simp [okC, h, he]
theorem okC_sym {t : List (List Int)} {a b : Nat} (h : okC t a b = true) : decide (0 < cAt t a b) = decide (0 < cAt t b a) := by
  simp only [okC, Bool.and_eq_true, beq_iff_eq] at h
  exact h.1
theorem okC_irr {t : List (List Int)} {a : Nat} (h : okC t a a = true) : cAt t a a = 0 := by simpa [okC] using h
theorem cOk_of_half {t : List (List Int)} (h1 : 1 ≤ t.length) (h2 : t.length ≤ 8) (h : ∀ (i : Nat) (r : List Int), t[i]? = some r → r.length = t.length ∧ allB r 0 5 = true ∧ cAt t i i = 0 ∧ ∀ k, k < i → decide (0 < cAt t i k) = decide (0 < cAt t k i)) : cOk t = true := by
  refine cOk_iff.2 ⟨h1, h2, sqB_mk fun a r ha => (h a r ha).1, inC_mk fun a r ha => (h a r ha).2.1, fun a b ha hb => ?_⟩
  have hd := (h a _ (List.getElem?_eq_getElem ha)).2.2.1
  refine okC_ok ?_ fun e => e ▸ hd
  rcases Nat.lt_trichotomy a b with hl | he | hg
  · exact ((h b _ (List.getElem?_eq_getElem hb)).2.2.2 a hl).symm
  · rw [he]
  · exact (h a _ (List.getElem?_eq_getElem ha)).2.2.2 b hg

/-- The table of conflicts of a table of clearance times. -/
def conf (t : List (List Int)) : List (List Bool) := t.map fun r => r.map fun x => decide (0 < x)
def confF (t : List (List Int)) : List (List Bool) := if cOk t = true then conf t else []
theorem conf_len (t : List (List Int)) : (conf t).length = t.length := by simp [conf]
theorem conf_row {t : List (List Int)} {a : Nat} {r : List Int} (h : t[a]? = some r) : (conf t)[a]? = some (r.map fun x => decide (0 < x)) := by simp [conf, h]
theorem conf_sq {t : List (List Int)} (h : sqB t = true) : sqB (conf t) = true := sqB_mk fun a r ha => by
  rw [conf_len]
  have hl : a < t.length := by
    have := (List.getElem?_eq_some_iff.1 ha).1
    rwa [conf_len] at this
  have := conf_row (List.getElem?_eq_getElem hl)
  rw [this] at ha
  injection ha with ha
  rw [← ha, List.length_map]
  exact sqB_all h (List.getElem?_eq_getElem hl)
theorem conf_at {t : List (List Int)} (h : sqB t = true) {a b : Nat} (ha : a < t.length) (hb : b < t.length) : tAt (conf t) a b = decide (0 < cAt t a b) := by
  have hl := sqB_all h (List.getElem?_eq_getElem ha)
  have hx : t[a][b]? = some (t[a][b]'(by omega)) := List.getElem?_eq_getElem (by omega)
  rw [cAt_of (List.getElem?_eq_getElem ha) hx]
  refine tAt_of (conf_row (List.getElem?_eq_getElem ha)) ?_
  rw [List.getElem?_map, hx]; rfl
theorem conf_ok {t : List (List Int)} (h : cOk t = true) : tOk (conf t) = true := by
  obtain ⟨h1, h2, h3, h4, h5⟩ := cOk_iff.1 h
  refine tOk_iff.2 ⟨by rw [conf_len]; exact h1, by rw [conf_len]; exact h2, conf_sq h3, fun a b ha hb => ?_⟩
  rw [conf_len] at ha hb
  have e1 := conf_at h3 ha hb
  have e2 := conf_at h3 hb ha
  refine okAt_ok ?_ fun e => ?_
  · rw [e1, e2]; exact okC_sym (h5 a b ha hb)
  · subst e
    rw [e1, okC_irr (h5 a a ha ha)]; rfl
end Go.Proofs.Ytckohbjgogbfaaa

/- validClearance and ConflictsOf of the reference. -/
namespace Go.Proofs.Ytckohbjgogbfaaa
open Go.RowKit

set_option maxHeartbeats 4000000 in
theorem sValidClearance_c (A : Option Addr) (n c : Nat) (t : List (List Int)) (w : World) (B : Nat) (hS : Sl2 w B ILit A n c t) (hB : B ≤ w.heap.size) :
    Calls Try.prog 55 #[.slice A n c] w fun e w' => e = .returned (.bool (cOk t)) ∧ Below w.heap.size w w' := by
  obtain ⟨hc0, hc1⟩ := hS.cap
  have hl := hS.len
  have cw := fun w => inRange_c n 1 8 w
  have hS0 := hS.more hB
  clear hS
  cases hr : inB n 1 8
  · rw [hr] at cw
    have CW := Lib.hid cw
    have HE : Hid (cOk t = false) := Lib.hid (cOk_range (by rw [hl]; exact hr))
    clear cw hr hl
    go_enter Try.func55, Try.ntmps55
    go_wp2_with fail
    refine (CW.out _).mono ?_
    rintro e w' ⟨rfl, rfl⟩
    go_wp2_with fail
    go_ret
    exact ⟨by rw [HE.out]; rfl, Below.refl _ _⟩
  · obtain ⟨hn1, hn8⟩ := inB_iff hr
    rw [hr] at cw
    have CW := Lib.hid cw
    have HL := Lib.hid hl
    clear cw hr hl
    go_enter Try.func55, Try.ntmps55
    go_wp2_with fail
    refine (CW.out _).mono ?_
    rintro e w' ⟨rfl, rfl⟩
    go_wp2_with fail
    go_loopw [4] (fun i wr => ∃ (k : Nat), k ≤ n ∧ i = .int .i64 k ∧ Hid (∀ (a : Nat) (r : List Int), a < k → t[a]? = some r → r.length = n ∧ allB r 0 5 = true ∧ cAt t a a = 0 ∧ ∀ b, b < a → decide (0 < cAt t a b) = decide (0 < cAt t b a)) ∧ Below w.heap.size w wr) (fun i _ => n - (intOf i).toNat)
    case atStart => exact ⟨0, by omega, rfl, Lib.hid fun a r h => absurd h (by omega), Below.refl _ _⟩
    case round =>
      obtain ⟨k, hk, rfl, hrows, hb⟩ := hrel
      have hzr := hb.size
      by_cases hlt : k < n
      · obtain ⟨b, o, r, A', n', c', rfl, hbl, hx, hcell, hrow⟩ := (hS0.below hb).at_ hlt
        have hcell' : wr.cell? ⟨b, o + k, none⟩ = some (.slice A' n' c') := hcell
        have hrl := hrow.len
        by_cases hnn : n' = n
        · subst hnn
          have hnb : ((n' : Int) != (n' : Int)) = false := by simp
          have hkn : (k : Int) < (n' : Int) := by omega
          have hbw : b < wr.heap.size := by omega
          have ca := allIn_c A' n' c' r 0 5 wr _ hrow hzr (by omega)
          have HX := Lib.hid hx
          have HRL := Lib.hid hrl
          cases hal : allB r 0 5
          · rw [hal] at ca
            have CA := Lib.hid ca
            have HE : Hid (cOk t = false) := Lib.hid (cOk_in (inC_bad hx hal))
            clear hrow hcell hx hrl hrows ca hal
            go_wp2_with fail
            refine CA.out.mono ?_
            rintro e w1 ⟨rfl, hb1⟩
            go_wp2_with fail
            go_ret
            exact ⟨by rw [HE.out]; rfl, hb.trans (hb1.mono hzr)⟩
          · rw [hal] at ca
            have CA := Lib.hid ca
            have HAL := Lib.hid hal
            obtain ⟨b', o', y, rfl, hbl', hy, hyc⟩ := hrow.at_ hlt
            have hdg := cAt_of hx hy
            have hb'w : b' < wr.heap.size := by omega
            have HYC : Hid (wr.cell? ⟨b', o' + k, none⟩ = some (.int .i64 y)) := Lib.hid hyc
            have HCE := Lib.hid hcell'
            have HROW := Lib.hid hrow.2.2.2
            have HDG := Lib.hid hdg
            clear hrow hcell hx hrl ca hal hy hyc hdg
            go_wp2_with fail
            refine CA.out.mono ?_
            rintro e w1 ⟨rfl, hb1⟩
            have hz1 := hb1.size
            have hcell1 : w1.cell? ⟨b, o + k, none⟩ = some (.slice (some ⟨b', o', none⟩) n' c') := (hb1.cell (p := ⟨b, o + k, none⟩) hbw).trans HCE.out
            have hyc1 : w1.cell? ⟨b', o' + k, none⟩ = some (.int .i64 y) := (hb1.cell (p := ⟨b', o' + k, none⟩) hb'w).trans HYC.out
            by_cases hy0 : y = 0
            · subst hy0
              have hb01 := hb.trans (hb1.mono hzr)
              have hS1 := (hS0.below hb01).more (B' := w1.heap.size) (by omega)
              clear CA HYC
              go_wp2_with fail
              clear hcell' hcell1 hyc1
              go_loopw [5] (fun i wr2 => ∃ (j : Nat), j ≤ k ∧ i = .int .i64 j ∧ Hid (∀ b, b < j → decide (0 < cAt t k b) = decide (0 < cAt t b k)) ∧ Below w1.heap.size w1 wr2) (fun i _ => k - (intOf i).toNat)
              case atStart => exact ⟨0, by omega, rfl, Lib.hid fun a h => absurd h (by omega), Below.refl _ _⟩
              case round =>
                obtain ⟨j, hj, rfl, hok, hb2⟩ := hrel
                have hzr2 := hb2.size
                by_cases hjk : j < k
                · obtain ⟨bj, oj, rj, Aj, nj, cj, hA, -, hrj, hcj, hrowj⟩ := (hS1.below hb2).at_ (k := j) (by omega)
                  simp only [Option.some.injEq, Addr.mk.injEq, and_true] at hA
                  obtain ⟨rfl, rfl⟩ := hA
                  have hnj := (hrows.out j rj hjk hrj).1
                  have hnj' : nj = n' := by rw [← hrowj.len]; exact hnj
                  subst hnj'
                  obtain ⟨bj, oj, y, rfl, hblj, hy, hyc⟩ := hrowj.at_ hlt
                  obtain ⟨bo, oo, hAo, -, hxo⟩ := HROW.out (by omega)
                  simp only [Option.some.injEq, Addr.mk.injEq, and_true] at hAo
                  obtain ⟨rfl, rfl⟩ := hAo
                  obtain ⟨x, hx⟩ : ∃ x, r[j]? = some x := ⟨_, List.getElem?_eq_getElem (by rw [HRL.out]; omega)⟩
                  have e1 := cAt_of HX.out hx
                  have e2 := cAt_of hrj hy
                  have hbw1 : b < w1.heap.size := by omega
                  have hb'w1 : b' < w1.heap.size := by omega
                  have c1' : wr.cell? ⟨b', o' + j, none⟩ = some (.int .i64 x) := (hb2.cell (p := ⟨b', o' + j, none⟩) hb'w1).trans ((hb1.cell (p := ⟨b', o' + j, none⟩) hb'w).trans (hxo j x hx))
                  have c2' : wr.cell? ⟨b, o + j, none⟩ = some (.slice (some ⟨bj, oj, none⟩) nj cj) := hcj
                  have c3' : wr.cell? ⟨bj, oj + k, none⟩ = some (.int .i64 y) := hyc
                  have c4' : wr.cell? ⟨b, o + k, none⟩ = some (.slice (some ⟨b', o', none⟩) nj c') := (hb2.cell (p := ⟨b, o + k, none⟩) hbw1).trans ((hb1.cell (p := ⟨b, o + k, none⟩) hbw).trans HCE.out)
                  have w1' : b < wr.heap.size := by omega
                  have w2' : b' < wr.heap.size := by omega
                  have w3' : bj < wr.heap.size := by omega
                  have j0 : (0 : Int) ≤ (j : Int) := by omega
                  have j1 : (j : Int) < (nj : Int) := by omega
                  by_cases hxy : decide (0 < x) = decide (0 < y)
                  · have hn2 : Hid (∀ b, b < j + 1 → decide (0 < cAt t k b) = decide (0 < cAt t b k)) := Lib.hid fun b h => by
                      rcases Nat.lt_or_ge b j with h1 | h1
                      · exact hok.out b h1
                      · obtain rfl : b = j := by omega
                        rw [e1, e2]; exact hxy
                    clear hcj hrowj hrj hx hy hyc e1 e2 hok hxo hnj
                    cases hdx : decide (0 < x) <;> cases hdy : decide (0 < y) <;> first
                      | (rw [hdx, hdy] at hxy; exact absurd hxy (by decide))
                      | (clear hxy
                         go_wp2_with fail
                         refine wp_region_plus (by kernel_rfl) (by kernel_rfl) ?_; (repeat (go_big_quiet_step (fail))); refine wpQuiet_nil ?_; intro _ hw'; obtain ⟨⟨osq, dq⟩, hw''⟩ := hw'; subst hw''
                         go_wp2_with fail
                         go_roundw
                         case rel => exact ⟨j + 1, by omega, by go_num, hn2, by (repeat' (first | (with_reducible exact Below.refl _ _) | (with_reducible assumption) | (with_reducible refine Below.alloc ?_ ?_ _) | (with_reducible refine below_plus ?_ ?_ _ _) | (with_reducible refine Below.drew ?_) | (with_reducible refine Below.setCell ?_ ?_ _) | (with_reducible refine below_adv ?_ ?_ _) | go_size | (simp; done) | (simp; omega)))⟩
                         case measure => simp [intOf]; omega)
                  · have HE : Hid (cOk t = false) := Lib.hid (cOk_bad (a := k) (b := j) (by rw [HL.out]; omega) (by rw [HL.out]; omega) (okC_bad1 (by rw [e1, e2]; exact hxy)))
                    have hbz := hb01.trans (hb2.mono (by omega))
                    clear hcj hrowj hrj hx hy hyc e1 e2 hok hxo hnj
                    cases hdx : decide (0 < x) <;> cases hdy : decide (0 < y) <;> first
                      | (rw [hdx, hdy] at hxy; exact absurd rfl hxy)
                      | (clear hxy
                         go_wp2_with fail
                         refine wp_region_plus (by kernel_rfl) (by kernel_rfl) ?_; (repeat (go_big_quiet_step (fail))); refine wpQuiet_nil ?_; intro _ hw'; obtain ⟨⟨osq, dq⟩, hw''⟩ := hw'; subst hw''
                         go_wp2_with fail
                         go_ret
                         exact ⟨by rw [HE.out]; rfl, by (repeat' (first | (with_reducible exact Below.refl _ _) | (with_reducible assumption) | (with_reducible refine Below.alloc ?_ ?_ _) | (with_reducible refine below_plus ?_ ?_ _ _) | (with_reducible refine Below.drew ?_) | (with_reducible refine Below.setCell ?_ ?_ _) | (with_reducible refine below_adv ?_ ?_ _) | go_size | (simp; done) | (simp; omega)))⟩)
                · obtain rfl : j = k := by omega
                  have hn2 : Hid (∀ (a : Nat) (r : List Int), a < j + 1 → t[a]? = some r → r.length = n' ∧ allB r 0 5 = true ∧ cAt t a a = 0 ∧ ∀ b, b < a → decide (0 < cAt t a b) = decide (0 < cAt t b a)) := Lib.hid fun a r' ha hr' => by
                    rcases Nat.lt_or_ge a j with h | h
                    · exact hrows.out a r' h hr'
                    · obtain rfl : a = j := by omega
                      rw [HX.out] at hr'
                      injection hr' with hr'
                      exact ⟨by rw [← hr']; exact HRL.out, by rw [← hr']; exact HAL.out, HDG.out, hok.out⟩
                  clear hrows hok
                  go_wp2_with fail
                  go_roundw
                  case rel => exact ⟨j + 1, by omega, by go_num, hn2, hb01.trans (hb2.mono (by omega))⟩
                  case measure => simp [intOf]; omega
            · have HE : Hid (cOk t = false) := Lib.hid (cOk_bad (a := k) (b := k) (by rw [HL.out]; omega) (by rw [HL.out]; omega) (okC_bad2 (by rw [HDG.out]; exact hy0)))
              have hyn : (y != 0) = true := by simpa [bne] using hy0
              clear hrows CA HYC
              go_wp2_with fail
              go_ret
              exact ⟨by rw [HE.out]; rfl, hb.trans (hb1.mono hzr)⟩
        · have HE : Hid (cOk t = false) := Lib.hid (cOk_sq (sqB_bad hx (by rw [hrl, HL.out]; exact hnn)))
          have hne : ((n' : Int) != (n : Int)) = true := by simp [bne]; omega
          clear hrow hcell hx hrl hrows
          go_wp2_with fail
          go_ret
          exact ⟨by rw [HE.out]; rfl, hb⟩
      · obtain rfl : k = n := by omega
        have HE : Hid (cOk t = true) := Lib.hid (cOk_of_half (by rw [HL.out]; omega) (by rw [HL.out]; omega) fun i r hi => by
          have hil := (List.getElem?_eq_some_iff.1 hi).1
          rw [HL.out] at hil ⊢
          exact hrows.out i r hil hi)
        clear hrows
        go_wp2_with fail
        go_ret
        exact ⟨by rw [HE.out]; rfl, hb⟩

theorem bools_snoc (l : List Bool) (g : Bool) : l.map OLit ++ [.bool g] = (l ++ [g]).map OLit := by simp [OLit]
theorem confF_no {t : List (List Int)} (h : cOk t = false) : confF t = [] := by simp [confF, h]
theorem confF_yes {t : List (List Int)} (h : cOk t = true) : confF t = conf t := by simp [confF, h]

set_option maxHeartbeats 4000000 in
theorem sConflictsOf_c (A : Option Addr) (n c : Nat) (t : List (List Int)) (w : World) (B : Nat) (hS : Sl2 w B ILit A n c t) (hB : B ≤ w.heap.size) :
    Calls Try.prog 74 #[.slice A n c] w (OwBoolSS w (confF t)) := by
  obtain ⟨hc0, hc1⟩ := hS.cap
  have hl := hS.len
  have cw := fun w' (hb : Below w.heap.size w w') => sValidClearance_c A n c t w' _ ((hS.more hB).below hb) hb.size
  have hS0 := hS.more hB
  clear hS
  cases hr : cOk t
  · rw [hr] at cw
    have CW := Lib.hid cw
    have HE := Lib.hid (confF_no hr)
    clear cw hr hl
    go_enter Try.func74, Try.ntmps74
    go_wp2_with fail
    refine (CW.out _ (by (repeat' (first | (with_reducible exact Below.refl _ _) | (with_reducible assumption) | (with_reducible refine Below.alloc ?_ ?_ _) | (with_reducible refine below_plus ?_ ?_ _ _) | (with_reducible refine Below.drew ?_) | (with_reducible refine Below.setCell ?_ ?_ _) | (with_reducible refine below_adv ?_ ?_ _) | go_size | (simp; done) | (simp; omega))))).mono ?_
    rintro e w1 ⟨rfl, hb1⟩
    simp only [World.size_alloc] at hb1
    have hb01 : Below w.heap.size w w1 := ((Below.refl _ _).alloc (Nat.le_refl _) _).trans (hb1.mono (by omega))
    go_wp2_with fail
    go_ret
    exact ⟨_, _, _, rfl, by rw [HE.out]; exact Ow2.nil _ _ _ _ _ _, hb01⟩
  · rw [hr] at cw
    have CW := Lib.hid cw
    have HE := Lib.hid (confF_yes hr)
    obtain ⟨hn1, hn8, hsq, -, -⟩ := cOk_iff.1 hr
    rw [hl] at hn1 hn8
    have HSQ := Lib.hid hsq
    have HL := Lib.hid hl
    obtain ⟨i0, hi, hi0, hi1, hi2⟩ := info_parts info_bool
    obtain ⟨i1, hj, hj0, hj1, hj2⟩ := info_parts info_rowBoolS
    clear cw hr hl hsq
    go_enter Try.func74, Try.ntmps74
    go_wp2_with fail
    refine (CW.out _ (by (repeat' (first | (with_reducible exact Below.refl _ _) | (with_reducible assumption) | (with_reducible refine Below.alloc ?_ ?_ _) | (with_reducible refine below_plus ?_ ?_ _ _) | (with_reducible refine Below.drew ?_) | (with_reducible refine Below.setCell ?_ ?_ _) | (with_reducible refine below_adv ?_ ?_ _) | go_size | (simp; done) | (simp; omega))))).mono ?_
    rintro e w1 ⟨rfl, hb1⟩
    simp only [World.size_alloc] at hb1
    have hz1 := hb1.size
    have hb01 : Below w.heap.size w w1 := ((Below.refl _ _).alloc (Nat.le_refl _) _).trans (hb1.mono (by omega))
    have hown : w1.ownsRow w.heap.size 62 1 (.slice (some ⟨w.heap.size, 0, none⟩) 0 0) 0 [] :=
      (World.ownsRow_made (base := w.heap.size) (e := 62) (size := 1) w #[] 0 (Nat.le_refl _) (by decide) rfl).kept (row := none) ⟨hb1.os, hb1.tape, hb1.output, by simpa using hb1.size, fun b hb2 _ => hb1.block b (by simpa using hb2)⟩ (by right; simp [Value.ownBlock])
    have hB0 : Bld w1 w.heap.size 62 4 OLit (.slice (some ⟨w.heap.size, 0, none⟩) 0 0) 0 ([] : List (List Bool)) := Bld.nil _ _ _ _ _ _ hown
    clear CW hb1 hown
    go_wp2_with fail
    go_loopw [3, 4] (fun v i wr => ∃ (k : Nat), k ≤ n ∧ i = .int .i64 k ∧ Bld wr w.heap.size 62 4 OLit v k ((conf t).take k) ∧ Below w.heap.size w wr) (fun _ i _ => n - (intOf i).toNat)
    case atStart => exact ⟨0, by omega, rfl, hB0, hb01⟩
    case round =>
      clear hB0 hb01
      obtain ⟨k, hk, rfl, hBl, hb⟩ := hrel
      have hzr := hb.size
      by_cases hlt : k < n
      · obtain ⟨b, o, b1, o1, c1, ra, rfl, hbl, hbl1, hra, hral, hrac, hcell, hrow⟩ := (hS0.below hb).entry HSQ.out hlt
        have HRA := Lib.hid hra
        have HRL := Lib.hid hral
        have HCE : Hid (wr.cell? ⟨b, o + k, none⟩ = some (.slice (some ⟨b1, o1, none⟩) n c1)) := Lib.hid hcell
        have HROW := Lib.hid hrow
        have hbw : b < wr.heap.size := by omega
        have hb1w : b1 < wr.heap.size := by omega
        clear hra hral hcell hrow
        go_wp2_with fail
        obtain ⟨wo, rfl⟩ : ∃ wo : World, wo = wr := ⟨_, rfl⟩
        go_loopw [5, 6] (fun v2 i wr => ∃ (j : Nat), j ≤ n ∧ i = .int .i64 j ∧ wr.ownsRow wo.heap.size 4 1 v2 j (((ra.map fun x => decide (0 < x)).take j).map OLit) ∧ Below wo.heap.size wo wr) (fun _ i _ => n - (intOf i).toNat)
        case atStart => exact ⟨0, by omega, rfl, World.ownsRow_made _ #[] 0 (Nat.le_refl _) (by decide) rfl, by (repeat' (first | (with_reducible exact Below.refl _ _) | (with_reducible assumption) | (with_reducible refine Below.alloc ?_ ?_ _) | (with_reducible refine below_plus ?_ ?_ _ _) | (with_reducible refine Below.drew ?_) | (with_reducible refine Below.setCell ?_ ?_ _) | (with_reducible refine below_adv ?_ ?_ _) | go_size | (simp; done) | (simp; omega)))⟩
        case round =>
          obtain ⟨j, hj', rfl, hO, hb2⟩ := hrel
          have hzr2 := hb2.size
          by_cases hjn : j < n
          · obtain ⟨x, hx⟩ : ∃ x, ra[j]? = some x := ⟨_, List.getElem?_eq_getElem (by rw [HRL.out]; exact hjn)⟩
            have e1 : wr.cell? ⟨b, o + k, none⟩ = some (.slice (some ⟨b1, o1, none⟩) n c1) := (hb2.cell (p := ⟨b, o + k, none⟩) hbw).trans HCE.out
            have e2 : wr.cell? ⟨b1, o1 + j, none⟩ = some (.int .i64 x) := (hb2.cell (p := ⟨b1, o1 + j, none⟩) hb1w).trans (HROW.out j x hx)
            have hsn := Lib.hid (take_snoc (k := j) (xs := ra.map fun x => decide (0 < x)) (x := decide (0 < x)) (by rw [List.getElem?_map, hx]; rfl))
            clear hx
            go_wp2_with (at_builtin; refine wpList_app1 wo wr rfl _ _ 62 rfl 4 i0 (.bool false) 1 Try.underlying62 hi hi0 hi1 hi2 rfl (by decide) wo.heap.size _ j _ (by rfl) hO _ rfl _ (by rfl) rfl (by omega) hb2 hzr2 ?_; intro v8 w8 hO8 hb8 hg8)
            rw [bools_snoc, ← hsn.out] at hO8
            go_roundw
            case rel => exact ⟨j + 1, by omega, by go_num, hO8, hb8⟩
            case measure => simp [intOf]; omega
          · obtain rfl : j = n := by omega
            rw [List.take_of_length_le (by rw [List.length_map, HRL.out]; exact Nat.le_refl _)] at hO
            have hlt5 := hO.lt
            obtain ⟨A5, c5, rfl, hW5⟩ := Ow.of_own hO
            obtain ⟨vs, hv1, hv2, hv3⟩ := hBl
            have hv0 := fun b hb => (hv1.lt b hb).2
            have hown2 := own_below hv1 hb2
            have hR2 := hv2.below (Nat.le_refl _) hb2
            have hbb := hb.trans (hb2.mono hzr)
            have hsn := Lib.hid (take_snoc (conf_row HRA.out))
            clear hO hb2 hv1 hv2
            go_wp2_with (at_builtin; refine wpList_app1_at w wr rfl _ _ 38 rfl 62 i1 (.slice none 0 0) 24 Try.underlying38 hj hj0 hj1 hj2 rfl (by decide) w.heap.size _ k _ (by rfl) hown2 _ rfl _ (by rfl) rfl (by omega) hbb (by omega) ?_; intro v8 w8 hO8 hb8 hg8 hv8)
            have hN := Bld.app (f := OLit) (E := 4) hown2 hR2 hv3 hv0 hzr2 hzr hW5 hlt5 hO8 hg8 hv8
            rw [← hsn.out] at hN
            clear hW5 hv3 hown2 hR2 hO8 hg8 hv8 hv0 hlt5
            go_roundw
            case rel => exact ⟨k + 1, by omega, by go_num, hN, hb8⟩
            case measure => simp [intOf]; omega
      · obtain rfl : k = n := by omega
        rw [List.take_of_length_le (by rw [conf_len, HL.out]; exact Nat.le_refl _)] at hBl
        obtain ⟨A5, c5, rfl, hW5⟩ := hBl.ow2
        clear hBl
        go_wp2_with fail
        go_ret
        exact ⟨_, _, _, rfl, by rw [HE.out]; exact hW5, hb⟩
end Go.Proofs.Ytckohbjgogbfaaa

/- ValidClearance of the program. -/
namespace Go.Proofs.Ytckohbjgogbfaaa
open Go.RowKit

set_option maxHeartbeats 2000000 in
theorem validClearance_c (A : Option Addr) (n c : Nat) (t : List (List Int)) (w : World) (B : Nat) (hS : Sl2 w B ILit A n c t) (hB : B ≤ w.heap.size) :
    Calls Try.prog 33 #[.slice A n c] w fun e w' => e = .returned (.bool (cOk t)) ∧ Below w.heap.size w w' := by
  obtain ⟨hc0, hc1⟩ := hS.cap
  have hl := hS.len
  have cw := fun w => within_c n 1 8 w
  have hS0 := hS.more hB
  clear hS
  cases hr : inB n 1 8
  · rw [hr] at cw
    have CW := Lib.hid cw
    have HE : Hid (cOk t = false) := Lib.hid (cOk_range (by rw [hl]; exact hr))
    clear cw hr hl
    go_enter Try.func33, Try.ntmps33
    go_wp2_with fail
    refine (CW.out _).mono ?_
    rintro e w' ⟨rfl, rfl⟩
    go_wp2_with fail
    go_ret
    exact ⟨by rw [HE.out]; rfl, Below.refl _ _⟩
  · obtain ⟨hn1, hn8⟩ := inB_iff hr
    rw [hr] at cw
    have CW := Lib.hid cw
    have HL := Lib.hid hl
    clear cw hr hl
    go_enter Try.func33, Try.ntmps33
    go_wp2_with fail
    refine (CW.out _).mono ?_
    rintro e w' ⟨rfl, rfl⟩
    go_wp2_with fail
    go_loopw [15] (fun i wr => ∃ (k : Nat), k ≤ n ∧ i = .int .i64 k ∧ Hid (∀ (a : Nat) (r : List Int), a < k → t[a]? = some r → r.length = n ∧ allB r 0 5 = true) ∧ Below w.heap.size w wr) (fun i _ => n - (intOf i).toNat)
    case atStart => exact ⟨0, by omega, rfl, Lib.hid fun a r h => absurd h (by omega), Below.refl _ _⟩
    case round =>
      obtain ⟨k, hk, rfl, hrows, hb⟩ := hrel
      have hzr := hb.size
      by_cases hlt : k < n
      · obtain ⟨b, o, r, A', n', c', rfl, hbl, hx, hcell, hrow⟩ := (hS0.below hb).at_ hlt
        have hcell' : wr.cell? ⟨b, o + k, none⟩ = some (.slice A' n' c') := hcell
        have hrl := hrow.len
        by_cases hnn : n' = n
        · subst hnn
          have hnb : ((n' : Int) != (n' : Int)) = false := by simp
          have ca := allWithin_c A' n' c' r 0 5 wr _ hrow hzr (by omega)
          cases hal : allB r 0 5
          · rw [hal] at ca
            have CA := Lib.hid ca
            have HE : Hid (cOk t = false) := Lib.hid (cOk_in (inC_bad hx hal))
            clear hrow hcell hx hrl hrows ca hal
            go_wp2_with fail
            refine CA.out.mono ?_
            rintro e w1 ⟨rfl, hb1⟩
            go_wp2_with fail
            go_ret
            exact ⟨by rw [HE.out]; rfl, hb.trans (hb1.mono hzr)⟩
          · rw [hal] at ca
            have CA := Lib.hid ca
            have hn2 : Hid (∀ (a : Nat) (r : List Int), a < k + 1 → t[a]? = some r → r.length = n' ∧ allB r 0 5 = true) := Lib.hid fun a r' ha hr' => by
              rcases Nat.lt_or_ge a k with h | h
              · exact hrows.out a r' h hr'
              · obtain rfl : a = k := by omega
                rw [hx] at hr'
                injection hr' with hr'
                rw [← hr']; exact ⟨hrl, hal⟩
            clear hrow hcell hx hrl hrows ca hal
            go_wp2_with fail
            refine CA.out.mono ?_
            rintro e w1 ⟨rfl, hb1⟩
            go_wp2_with fail
            go_roundw
            case rel => exact ⟨k + 1, by omega, by go_num, hn2, hb.trans (hb1.mono hzr)⟩
            case measure => simp [intOf]; omega
        · have HE : Hid (cOk t = false) := Lib.hid (cOk_sq (sqB_bad hx (by rw [hrl, HL.out]; exact hnn)))
          have hne : ((n' : Int) != (n : Int)) = true := by simp [bne]; omega
          clear hrow hcell hx hrl hrows
          go_wp2_with fail
          go_ret
          exact ⟨by rw [HE.out]; rfl, hb⟩
      · have hsq : sqB t = true := sqB_mk fun a r ha => by
          rw [HL.out]
          have := (List.getElem?_eq_some_iff.1 ha).1
          rw [HL.out] at this
          exact (hrows.out a r (by omega) ha).1
        have HSQ := Lib.hid hsq
        have HIN : Hid (inC t = true) := Lib.hid (inC_mk fun a r ha => by
          have := (List.getElem?_eq_some_iff.1 ha).1
          rw [HL.out] at this
          exact (hrows.out a r (by omega) ha).2)
        obtain rfl : k = n := by omega
        clear hrows hsq
        obtain ⟨wo, rfl⟩ : ∃ wo : World, wo = wr := ⟨_, rfl⟩
        go_wp2_with fail
        go_loopw [32] (fun i wr => ∃ (a : Nat), a ≤ k ∧ i = .int .i64 a ∧ Hid (∀ a' b', a' < a → b' < k → okC t a' b' = true) ∧ Below w.heap.size w wr) (fun i _ => k - (intOf i).toNat)
        case atStart => exact ⟨0, by omega, rfl, Lib.hid fun a r h => absurd h (by omega), hb⟩
        case round =>
          clear hb hzr
          obtain ⟨a, ha, rfl, hok, hb⟩ := hrel
          have hzr := hb.size
          by_cases hlt2 : a < k
          · obtain ⟨b, o, b1, o1, c1, ra, rfl, hbl, hbl1, hra, hral, hrac, hcell, hrow⟩ := (hS0.below hb).entry HSQ.out hlt2
            have hk0 : (0 : Int) < (k : Int) := by omega
            have hcell' : wr.cell? ⟨b, o + a, none⟩ = some (.slice (some ⟨b1, o1, none⟩) k c1) := hcell
            have HRA := Lib.hid hra
            have HRL := Lib.hid hral
            have HROW := Lib.hid hrow
            have hS1 := (hS0.below hb).more hzr
            have hb1w : b1 < wr.heap.size := by omega
            clear hrow hcell hra hral
            go_wp2_with fail
            obtain ⟨wo, rfl⟩ : ∃ wo : World, wo = wr := ⟨_, rfl⟩
            clear hcell'
            go_loopw [39] (fun i wr => ∃ (b' : Nat), b' ≤ k ∧ i = .int .i64 b' ∧ Hid (∀ b'', b'' < b' → okC t a b'' = true) ∧ Below wo.heap.size wo wr) (fun i _ => k - (intOf i).toNat)
            case atStart => exact ⟨0, by omega, rfl, Lib.hid fun a h => absurd h (by omega), Below.refl _ _⟩
            case round =>
              obtain ⟨j, hj, rfl, hok2, hb2⟩ := hrel
              have hzr2 := hb2.size
              by_cases hlt3 : j < k
              · obtain ⟨b2, o2, b3, o3, c3, rb, hA, -, hbl3, hrb, hrbl, hrbc, hcellb, hrowb⟩ := (hS1.below hb2).entry HSQ.out hlt3
                simp only [Option.some.injEq, Addr.mk.injEq, and_true] at hA
                obtain ⟨rfl, rfl⟩ := hA
                obtain ⟨x, hx⟩ : ∃ x, ra[j]? = some x := ⟨_, List.getElem?_eq_getElem (by rw [HRL.out]; exact hlt3)⟩
                obtain ⟨y, hy⟩ : ∃ y, rb[a]? = some y := ⟨_, List.getElem?_eq_getElem (by rw [hrbl]; exact hlt2)⟩
                have e1 := cAt_of HRA.out hx
                have e2 := cAt_of hrb hy
                have c1' : wr.cell? ⟨b1, o1 + j, none⟩ = some (.int .i64 x) := (hb2.cell (p := ⟨b1, o1 + j, none⟩) hb1w).trans (HROW.out j x hx)
                have c2' : wr.cell? ⟨b, o + j, none⟩ = some (.slice (some ⟨b3, o3, none⟩) k c3) := hcellb
                have c3' : wr.cell? ⟨b3, o3 + a, none⟩ = some (.int .i64 y) := hrowb a y hy
                have hal : a < t.length := by rw [HL.out]; exact hlt2
                have hjl : j < t.length := by rw [HL.out]; exact hlt3
                by_cases haj : a = j
                · subst haj
                  have hxy : x = y := e1.symm.trans e2
                  subst hxy
                  by_cases hx0 : x = 0
                  · have hn2 : Hid (∀ b'', b'' < a + 1 → okC t a b'' = true) := Lib.hid fun b'' h => by
                      rcases Nat.lt_or_ge b'' a with h1 | h1
                      · exact hok2.out b'' h1
                      · obtain rfl : b'' = a := by omega
                        exact okC_ok rfl fun _ => e1.trans hx0
                    have q0 : (x != 0) = false := by simpa [bne] using hx0
                    have q1 : decide (0 < x) = false := by simp; omega
                    clear hcellb hrowb hrb hx hy e1 e2 hok2
                    go_wp2_with fail
                    go_roundw
                    case rel => exact ⟨a + 1, by omega, by go_num, hn2, hb2⟩
                    case measure => simp [intOf]; omega
                  · have HE : Hid (cOk t = false) := Lib.hid (cOk_bad hal hal (okC_bad2 (by rw [e1]; exact hx0)))
                    have q0 : (x != 0) = true := by simpa [bne] using hx0
                    clear hcellb hrowb hrb hx hy e1 e2 hok2
                    cases q1 : decide (0 < x)
                    all_goals
                      go_wp2_with fail
                      go_ret
                      exact ⟨by rw [HE.out]; rfl, hb.trans (hb2.mono hzr)⟩
                · have hne : ((a : Int) == (j : Int)) = false := by simp; omega
                  by_cases hxy : decide (0 < x) = decide (0 < y)
                  · have hn2 : Hid (∀ b'', b'' < j + 1 → okC t a b'' = true) := Lib.hid fun b'' h => by
                      rcases Nat.lt_or_ge b'' j with h1 | h1
                      · exact hok2.out b'' h1
                      · obtain rfl : b'' = j := by omega
                        exact okC_ok (by rw [e1, e2]; exact hxy) fun h => absurd h haj
                    clear hcellb hrowb hrb hx hy e1 e2 hok2
                    cases q1 : decide (0 < x) <;> cases q2 : decide (0 < y) <;> first
                      | (rw [q1, q2] at hxy; exact absurd hxy (by decide))
                      | (clear hxy
                         go_wp2_with fail
                         go_roundw
                         case rel => exact ⟨j + 1, by omega, by go_num, hn2, hb2⟩
                         case measure => simp [intOf]; omega)
                  · have HE : Hid (cOk t = false) := Lib.hid (cOk_bad hal hjl (okC_bad1 (by rw [e1, e2]; exact hxy)))
                    clear hcellb hrowb hrb hx hy e1 e2 hok2
                    cases q1 : decide (0 < x) <;> cases q2 : decide (0 < y) <;> first
                      | (rw [q1, q2] at hxy; exact absurd rfl hxy)
                      | (clear hxy
                         go_wp2_with fail
                         go_ret
                         exact ⟨by rw [HE.out]; rfl, hb.trans (hb2.mono hzr)⟩)
              · have hn2 : Hid (∀ a' b', a' < a + 1 → b' < k → okC t a' b' = true) := Lib.hid fun a' b' h1 h2 => by
                  rcases Nat.lt_or_ge a' a with h | h
                  · exact hok.out a' b' h h2
                  · obtain rfl : a' = a := by omega
                    exact hok2.out b' (by omega)
                clear hok hok2
                go_wp2_with fail
                go_roundw
                case rel => exact ⟨a + 1, by omega, by go_num, hn2, hb.trans (hb2.mono hzr)⟩
                case measure => simp [intOf]; omega
          · obtain rfl : a = k := by omega
            have HE : Hid (cOk t = true) := Lib.hid (cOk_iff.2 ⟨by rw [HL.out]; omega, by rw [HL.out]; omega, HSQ.out, HIN.out, fun x y hx hy => hok.out x y (by rw [HL.out] at hx; exact hx) (by rw [HL.out] at hy; exact hy)⟩)
            clear hok
            go_wp2_with fail
            go_ret
            exact ⟨by rw [HE.out]; rfl, hb⟩
end Go.Proofs.Ytckohbjgogbfaaa

/- ConflictsOf of the program. -/
namespace Go.Proofs.Ytckohbjgogbfaaa
open Go.RowKit

theorem made_repB (m : Nat) : madeCells #[.bool false] m = ((List.replicate m false).map OLit).toArray := by
  have h1 := part_zero OLit (.bool false) (List.replicate m false)
  rw [List.length_replicate] at h1
  rw [← h1]
  simp [part, OLit]
/-- The table with k rows done, the others empty. -/
def confUp (t : List (List Int)) (k : Nat) : List (List Bool) := (conf t).take k ++ List.replicate (t.length - k) []
theorem confUp_len (t : List (List Int)) {k : Nat} (h : k ≤ t.length) : (confUp t k).length = t.length := by
  simp [confUp, conf_len]; omega
theorem confUp_all (t : List (List Int)) : confUp t t.length = conf t := by
  simp [confUp, ← conf_len t]
theorem confUp_set (t : List (List Int)) {k : Nat} {r : List Int} (h : t[k]? = some r) : (confUp t k).set k (r.map fun x => decide (0 < x)) = confUp t (k + 1) := by
  have hk := (List.getElem?_eq_some_iff.1 h).1
  have hl : ((conf t).take k).length = k := by rw [List.length_take, conf_len]; omega
  unfold confUp
  rw [take_snoc (conf_row h), List.set_append_right _ _ (by omega), hl, Nat.sub_self, show t.length - k = t.length - (k + 1) + 1 by omega, List.replicate_succ, List.set_cons_zero, List.append_assoc, List.singleton_append]
/-- A row with j elements laid. -/
def upL (l : List Bool) (j : Nat) : List Bool := l.take j ++ List.replicate (l.length - j) false
theorem upL_len (l : List Bool) {j : Nat} (h : j ≤ l.length) : (upL l j).length = l.length := by simp [upL]; omega
theorem upL_all (l : List Bool) : upL l l.length = l := by simp [upL]
theorem upL_zero (l : List Bool) : upL l 0 = List.replicate l.length false := by simp [upL]
theorem upL_set {l : List Bool} {j : Nat} {x : Bool} (h : l[j]? = some x) : (upL l j).set j x = upL l (j + 1) := by
  have hj := (List.getElem?_eq_some_iff.1 h).1
  have hl : (l.take j).length = j := by rw [List.length_take]; omega
  unfold upL
  rw [take_snoc h, List.set_append_right _ _ (by omega), hl, Nat.sub_self, show l.length - j = l.length - (j + 1) + 1 by omega, List.replicate_succ, List.set_cons_zero, List.append_assoc, List.singleton_append]
theorem set_set' {α : Type} (l : List α) (k : Nat) (a b : α) : (l.set k a).set k b = l.set k b := by simp

set_option maxHeartbeats 4000000 in
theorem conflictsOf_c (A : Option Addr) (n c : Nat) (t : List (List Int)) (w : World) (B : Nat) (hS : Sl2 w B ILit A n c t) (hB : B ≤ w.heap.size) :
    Calls Try.prog 14 #[.slice A n c] w (OwBoolSS w (confF t)) := by
  obtain ⟨hc0, hc1⟩ := hS.cap
  have hl := hS.len
  have cw := validClearance_c A n c t w B hS hB
  have hS0 := hS.more hB
  clear hS
  cases hr : cOk t
  · rw [hr] at cw
    have CW := Lib.hid cw
    have HE := Lib.hid (confF_no hr)
    clear cw hr hl
    go_enter Try.func14, Try.ntmps14
    go_wp2_with fail
    refine CW.out.mono ?_
    rintro e w1 ⟨rfl, hb1⟩
    go_wp2_with fail
    go_ret
    exact ⟨_, _, _, rfl, by rw [HE.out]; exact Ow2.nil _ _ _ _ _ _, hb1⟩
  · rw [hr] at cw
    have CW := Lib.hid cw
    have HE := Lib.hid (confF_yes hr)
    obtain ⟨hn1, hn8, hsq, -, -⟩ := cOk_iff.1 hr
    rw [hl] at hn1 hn8
    have HSQ := Lib.hid hsq
    have HL := Lib.hid hl
    have hmo := run_make_row' (P := Try.prog) 38 62 (.slice none 0 0) 24 Try.underlying38 info_rowBoolS rfl .i64 .i64 n (by omega) (by omega)
    have hmr := run_make_row' (P := Try.prog) 62 4 (.bool false) 1 Try.underlying62 info_bool rfl .i64 .i64 n (by omega) (by omega)
    rw [made_repB] at hmr
    obtain ⟨co, hco⟩ : ∃ co, madeCells #[.slice none 0 0] n = co := ⟨_, rfl⟩
    obtain ⟨cr, hcr⟩ : ∃ cr, ((List.replicate n false).map OLit).toArray = cr := ⟨_, rfl⟩
    rw [hco] at hmo
    rw [hcr] at hmr
    have HCO := Lib.hid hco
    have HCR := Lib.hid hcr
    clear cw hr hl hsq hco hcr
    go_enter Try.func14, Try.ntmps14
    go_wp2_with fail
    refine CW.out.mono ?_
    rintro e w1 ⟨rfl, hb1⟩
    have hz1 := hb1.size
    have hM := Ow2.make w1 62 4 n OLit (by omega)
    rw [HCO.out] at hM
    have HM := Lib.hid hM
    clear CW hM
    go_wp2_with fail
    go_loopw [16] (fun i wr => ∃ (k : Nat), k ≤ n ∧ i = .int .i64 k ∧ Ow2 wr w1.heap.size wr.heap.size 62 4 OLit (some ⟨w1.heap.size, 0, none⟩) n n (confUp t k) ∧ Below w1.heap.size w1 wr) (fun i _ => n - (intOf i).toNat)
    case atStart => exact ⟨0, by omega, rfl, by simpa [confUp, HL.out] using HM.out, by (repeat' (first | (with_reducible exact Below.refl _ _) | (with_reducible assumption) | (with_reducible refine Below.alloc ?_ ?_ _) | (with_reducible refine below_plus ?_ ?_ _ _) | (with_reducible refine Below.drew ?_) | (with_reducible refine Below.setCell ?_ ?_ _) | (with_reducible refine below_adv ?_ ?_ _) | go_size | (simp; done) | (simp; omega)))⟩
    case round =>
      obtain ⟨k, hk, rfl, hO, hb⟩ := hrel
      have hzr := hb.size
      by_cases hlt : k < n
      · obtain ⟨b, o, b1, o1, c1, ra, rfl, hbl, hbl1, hra, hral, hrac, hcell, hrow⟩ := (hS0.below (hb1.trans (hb.mono hz1))).entry HSQ.out hlt
        have HRA := Lib.hid hra
        have HRL := Lib.hid hral
        have HROW := Lib.hid hrow
        have hcell' : wr.cell? ⟨b, o + k, none⟩ = some (.slice (some ⟨b1, o1, none⟩) n c1) := hcell
        have hb1w : b1 < wr.heap.size := by omega
        have hbw : b < w1.heap.size := by omega
        have hb1w1 : b1 < w1.heap.size := by omega
        -- the outer cell that is written
        have hcu : (confUp t k)[k]? = some [] := by
          have hl2 : ((conf t).take k).length = k := by rw [List.length_take, conf_len, HL.out]; omega
          rw [confUp, List.getElem?_append_right (by omega), hl2, Nat.sub_self, List.getElem?_replicate, if_pos (by rw [HL.out]; omega)]
        obtain ⟨vs, v1, v2, v3⟩ := hO
        obtain ⟨g, cs, hA, hg1, hg2, hg3⟩ := v1.2.2.2 (by omega)
        injection hA with hA
        injection hA with hA
        subst hA
        obtain ⟨v, hv⟩ : ∃ v, vs[k]? = some v := ⟨_, List.getElem?_eq_getElem (by rw [v1.len]; exact hlt)⟩
        have cout : wr.cell? ⟨w1.heap.size, k, none⟩ = some v := by rw [cell_of_row wr _ k cs _ _ hg2]; exact hg3 k v hv
        have fout : wr.frozen? ⟨w1.heap.size, k, none⟩ = false := by simp [World.frozen?, hg2]
        have hgl := lt_of_heap hg2
        have hO' : Ow2 wr w1.heap.size wr.heap.size 62 4 OLit (some ⟨w1.heap.size, 0, none⟩) n n (confUp t k) := ⟨vs, v1, v2, v3⟩
        have hO2 := hO'.below (w' := wr.alloc (.cells cr 4)) ((Below.refl _ _).alloc (Nat.le_refl _) _)
        have hrowNew := Ow.new wr OLit (List.replicate n false) 4 (by simp; omega)
        rw [HCR.out, List.length_replicate] at hrowNew
        have hP := hO2.put (by decide) hlt hrowNew (Nat.le_refl _) (by simp) hzr
        have HP := Lib.hid hP
        clear hra hral hrow hcell hcu v1 v2 v3 hg2 hg3 hv hO' hO2 hrowNew hP
        go_wp2_with fail
        have hsw : (wr.alloc (.cells cr 4)).setCell ⟨w1.heap.size, k, none⟩ (.slice (some ⟨wr.heap.size, 0, none⟩) n n) = (wr.setCell ⟨w1.heap.size, k, none⟩ (.slice (some ⟨wr.heap.size, 0, none⟩) n n)).alloc (.cells cr 4) := World.setCell_alloc_past _ _ _ _ hgl
        obtain ⟨wo, hwo⟩ : ∃ wo, (wr.setCell ⟨w1.heap.size, k, none⟩ (.slice (some ⟨wr.heap.size, 0, none⟩) n n)).alloc (.cells cr 4) = wo := ⟨_, rfl⟩
        have hO1 := HP.out
        have hbo : Below w1.heap.size w1 ((wr.alloc (.cells cr 4)).setCell ⟨w1.heap.size, k, none⟩ (.slice (some ⟨wr.heap.size, 0, none⟩) n n)) := (hb.alloc hzr _).setCell (Nat.le_refl _) _
        have hzo : (wr.alloc (.cells cr 4)).heap.size ≤ ((wr.alloc (.cells cr 4)).setCell ⟨w1.heap.size, k, none⟩ (.slice (some ⟨wr.heap.size, 0, none⟩) n n)).heap.size := by simp [World.setCell]
        rw [hsw, hwo] at hO1 hbo hzo
        rw [hwo]
        have hO3 := hO1.more hzo
        have HB := Lib.hid hb
        have hup0 : List.replicate n false = upL (ra.map fun x => decide (0 < x)) 0 := by rw [upL_zero, List.length_map, HRL.out]
        rw [hup0] at hO3
        clear hwo hsw hO1 hzo HP hcell' cout fout hup0 hb
        go_loopw [29] (fun i wr2 => ∃ (j : Nat), j ≤ n ∧ i = .int .i64 j ∧ Ow2 wr2 w1.heap.size wr2.heap.size 62 4 OLit (some ⟨w1.heap.size, 0, none⟩) n n ((confUp t k).set k (upL (ra.map fun x => decide (0 < x)) j)) ∧ Below w1.heap.size w1 wr2) (fun i _ => n - (intOf i).toNat)
        case atStart => exact ⟨0, by omega, rfl, hO3, hbo⟩
        case round =>
          clear hO3 hbo
          obtain ⟨j, hj, rfl, hO, hb2⟩ := hrel
          have hzr2 := hb2.size
          by_cases hjn : j < n
          · obtain ⟨x, hx⟩ : ∃ x, ra[j]? = some x := ⟨_, List.getElem?_eq_getElem (by rw [HRL.out]; exact hjn)⟩
            have hlx : (ra.map fun x => decide (0 < x))[j]? = some (decide (0 < x)) := by rw [List.getElem?_map, hx]; rfl
            have hul : (upL (ra.map fun x => decide (0 < x)) j).length = n := by rw [upL_len _ (by rw [List.length_map, HRL.out]; omega), List.length_map, HRL.out]
            have hrowk : ((confUp t k).set k (upL (ra.map fun x => decide (0 < x)) j))[k]? = some (upL (ra.map fun x => decide (0 < x)) j) := by
              rw [List.getElem?_set, if_pos rfl, if_pos (by rw [confUp_len t (by rw [HL.out]; omega), HL.out]; exact hlt)]
            obtain ⟨g', gj, cj, hA', -, hgl2, hgj0, hgjl, hne, hcj, cell1, celle, frz, hset⟩ := hO.rowB (by decide) (Nat.le_refl _) hrowk (by rw [hul]; omega)
            injection hA' with hA'
            injection hA' with hA'
            subst hA'
            rw [hul] at cell1 hcj
            obtain ⟨y, hy⟩ : ∃ y, (upL (ra.map fun x => decide (0 < x)) j)[j]? = some y := ⟨_, List.getElem?_eq_getElem (by rw [hul]; exact hjn)⟩
            have cell2 := celle j y hy
            have frz2 := frz j
            have hnew := hset j (decide (0 < x)) (by rw [hul]; exact hjn)
            rw [set_set', upL_set hlx] at hnew
            have HN := Lib.hid hnew
            have e2 := (hb2.cell (p := ⟨b1, o1 + j, none⟩) hb1w1).trans ((HB.out.cell (p := ⟨b1, o1 + j, none⟩) hb1w1).symm.trans (HROW.out j x hx))
            have e2' : (_ : World).cell? ⟨b1, o1 + j, none⟩ = some (.int .i64 x) := e2
            clear hO hx hlx hul hrowk celle frz hset hy hnew e2
            go_wp2_with fail
            go_roundw
            case rel => exact ⟨j + 1, by omega, by go_num, by simpa [World.setCell] using HN.out, hb2.setCell hgj0 _⟩
            case measure => simp [intOf]; omega
          · obtain rfl : j = n := by omega
            have hul := upL_all (ra.map fun x => decide (0 < x))
            rw [List.length_map, HRL.out] at hul
            rw [hul, confUp_set t HRA.out] at hO
            clear hul
            go_wp2_with fail
            go_roundw
            case rel => exact ⟨k + 1, by omega, by go_num, hO, hb2⟩
            case measure => simp [intOf]; omega
      · obtain rfl : k = n := by omega
        have hup := confUp_all t
        rw [HL.out] at hup
        rw [hup] at hO
        have hfin := (hO.less (lo' := w.heap.size) (by omega))
        have hbz := hb1.trans (hb.mono hz1)
        clear hup hO hmo hmr
        go_wp2_with fail
        go_ret
        exact ⟨_, _, _, rfl, by rw [HE.out]; exact hfin, hbz⟩
end Go.Proofs.Ytckohbjgogbfaaa
