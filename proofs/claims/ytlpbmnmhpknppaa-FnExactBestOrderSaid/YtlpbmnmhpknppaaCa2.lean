/- validClearance and ConflictsOf of the reference. -/
import Derived.Test.YtlpbmnmhpknppaaCa1
import Derived.Test.YtlpbmnmhpknppaaG3
import Derived.Test.YtlpbmnmhpknppaaHbb
set_option linter.unusedVariables false
set_option linter.unusedSimpArgs false
namespace Go.Proofs.Ytlpbmnmhpknppaa
open Go.RowKit

set_option maxHeartbeats 4000000 in
theorem sValidClearance_c (A : Option Addr) (n c : Nat) (t : List (List Int)) (w : World) (B : Nat) (hS : Sl2 w B ILit A n c t) (hB : B ≤ w.heap.size) :
    Calls Try.prog 47 #[.slice A n c] w fun e w' => e = .returned (.bool (cOk t)) ∧ Below w.heap.size w w' := by
  obtain ⟨hc0, hc1⟩ := hS.cap
  have hl := hS.len
  have cw := fun w => inRange_c n 1 8 w
  have hS0 := hS.more hB
  clear hS
  cases hr : inB n 1 8
  · rw [hr] at cw
    have CW := Lib.hid cw
    have HE : Hid (cOk t = false) := Lib.hid (cOk_range (by rw [hl]; exact hr))
    clear cw hr hl
    go_enter Try.func47, Try.ntmps47
    go_wp2_with fail
    refine (CW.out _).mono ?_
    rintro e w' ⟨rfl, rfl⟩
    go_wp2_with fail
    go_ret
    exact ⟨by rw [HE.out]; rfl, Below.refl _ _⟩
  · obtain ⟨hn1, hn8⟩ := inB_iff hr
    rw [hr] at cw
    have CW := Lib.hid cw
    have HL := Lib.hid hl
    clear cw hr hl
    go_enter Try.func47, Try.ntmps47
    go_wp2_with fail
    refine (CW.out _).mono ?_
    rintro e w' ⟨rfl, rfl⟩
    go_wp2_with fail
    go_loopw [4] (fun i wr => ∃ (k : Nat), k ≤ n ∧ i = .int .i64 k ∧ Hid (∀ (a : Nat) (r : List Int), a < k → t[a]? = some r → r.length = n ∧ allB r 0 5 = true ∧ cAt t a a = 0 ∧ ∀ b, b < a → decide (0 < cAt t a b) = decide (0 < cAt t b a)) ∧ Below w.heap.size w wr) (fun i _ => n - (intOf i).toNat)
    case atStart => exact ⟨0, by omega, rfl, Lib.hid fun a r h => absurd h (by omega), Below.refl _ _⟩
    case round =>
      obtain ⟨k, hk, rfl, hrows, hb⟩ := hrel
      have hzr := hb.size
      by_cases hlt : k < n
      · obtain ⟨b, o, r, A', n', c', rfl, hbl, hx, hcell, hrow⟩ := (hS0.below hb).at_ hlt
        have hcell' : wr.cell? ⟨b, o + k, none⟩ = some (.slice A' n' c') := hcell
        have hrl := hrow.len
        by_cases hnn : n' = n
        · subst hnn
          have hnb : ((n' : Int) != (n' : Int)) = false := by simp
          have hkn : (k : Int) < (n' : Int) := by omega
          have hbw : b < wr.heap.size := by omega
          have ca := allIn_c A' n' c' r 0 5 wr _ hrow hzr (by omega)
          have HX := Lib.hid hx
          have HRL := Lib.hid hrl
          cases hal : allB r 0 5
          · rw [hal] at ca
            have CA := Lib.hid ca
            have HE : Hid (cOk t = false) := Lib.hid (cOk_in (inC_bad hx hal))
            clear hrow hcell hx hrl hrows ca hal
            go_wp2_with fail
            refine CA.out.mono ?_
            rintro e w1 ⟨rfl, hb1⟩
            go_wp2_with fail
            go_ret
            exact ⟨by rw [HE.out]; rfl, hb.trans (hb1.mono hzr)⟩
          · rw [hal] at ca
            have CA := Lib.hid ca
            have HAL := Lib.hid hal
            obtain ⟨b', o', y, rfl, hbl', hy, hyc⟩ := hrow.at_ hlt
            have hdg := cAt_of hx hy
            have hb'w : b' < wr.heap.size := by omega
            have HYC : Hid (wr.cell? ⟨b', o' + k, none⟩ = some (.int .i64 y)) := Lib.hid hyc
            have HCE := Lib.hid hcell'
            have HROW := Lib.hid hrow.2.2.2
            have HDG := Lib.hid hdg
            clear hrow hcell hx hrl ca hal hy hyc hdg
            go_wp2_with fail
            refine CA.out.mono ?_
            rintro e w1 ⟨rfl, hb1⟩
            have hz1 := hb1.size
            have hcell1 : w1.cell? ⟨b, o + k, none⟩ = some (.slice (some ⟨b', o', none⟩) n' c') := (hb1.cell (p := ⟨b, o + k, none⟩) hbw).trans HCE.out
            have hyc1 : w1.cell? ⟨b', o' + k, none⟩ = some (.int .i64 y) := (hb1.cell (p := ⟨b', o' + k, none⟩) hb'w).trans HYC.out
            by_cases hy0 : y = 0
            · subst hy0
              have hb01 := hb.trans (hb1.mono hzr)
              have hS1 := (hS0.below hb01).more (B' := w1.heap.size) (by omega)
              clear CA HYC
              go_wp2_with fail
              clear hcell' hcell1 hyc1
              go_loopw [5] (fun i wr2 => ∃ (j : Nat), j ≤ k ∧ i = .int .i64 j ∧ Hid (∀ b, b < j → decide (0 < cAt t k b) = decide (0 < cAt t b k)) ∧ Below w1.heap.size w1 wr2) (fun i _ => k - (intOf i).toNat)
              case atStart => exact ⟨0, by omega, rfl, Lib.hid fun a h => absurd h (by omega), Below.refl _ _⟩
              case round =>
                obtain ⟨j, hj, rfl, hok, hb2⟩ := hrel
                have hzr2 := hb2.size
                by_cases hjk : j < k
                · obtain ⟨bj, oj, rj, Aj, nj, cj, hA, -, hrj, hcj, hrowj⟩ := (hS1.below hb2).at_ (k := j) (by omega)
                  simp only [Option.some.injEq, Addr.mk.injEq, and_true] at hA
                  obtain ⟨rfl, rfl⟩ := hA
                  have hnj := (hrows.out j rj hjk hrj).1
                  have hnj' : nj = n' := by rw [← hrowj.len]; exact hnj
                  subst hnj'
                  obtain ⟨bj, oj, y, rfl, hblj, hy, hyc⟩ := hrowj.at_ hlt
                  obtain ⟨bo, oo, hAo, -, hxo⟩ := HROW.out (by omega)
                  simp only [Option.some.injEq, Addr.mk.injEq, and_true] at hAo
                  obtain ⟨rfl, rfl⟩ := hAo
                  obtain ⟨x, hx⟩ : ∃ x, r[j]? = some x := ⟨_, List.getElem?_eq_getElem (by rw [HRL.out]; omega)⟩
                  have e1 := cAt_of HX.out hx
                  have e2 := cAt_of hrj hy
                  have hbw1 : b < w1.heap.size := by omega
                  have hb'w1 : b' < w1.heap.size := by omega
                  have c1' : wr.cell? ⟨b', o' + j, none⟩ = some (.int .i64 x) := (hb2.cell (p := ⟨b', o' + j, none⟩) hb'w1).trans ((hb1.cell (p := ⟨b', o' + j, none⟩) hb'w).trans (hxo j x hx))
                  have c2' : wr.cell? ⟨b, o + j, none⟩ = some (.slice (some ⟨bj, oj, none⟩) nj cj) := hcj
                  have c3' : wr.cell? ⟨bj, oj + k, none⟩ = some (.int .i64 y) := hyc
                  have c4' : wr.cell? ⟨b, o + k, none⟩ = some (.slice (some ⟨b', o', none⟩) nj c') := (hb2.cell (p := ⟨b, o + k, none⟩) hbw1).trans ((hb1.cell (p := ⟨b, o + k, none⟩) hbw).trans HCE.out)
                  have w1' : b < wr.heap.size := by omega
                  have w2' : b' < wr.heap.size := by omega
                  have w3' : bj < wr.heap.size := by omega
                  have j0 : (0 : Int) ≤ (j : Int) := by omega
                  have j1 : (j : Int) < (nj : Int) := by omega
                  by_cases hxy : decide (0 < x) = decide (0 < y)
                  · have hn2 : Hid (∀ b, b < j + 1 → decide (0 < cAt t k b) = decide (0 < cAt t b k)) := Lib.hid fun b h => by
                      rcases Nat.lt_or_ge b j with h1 | h1
                      · exact hok.out b h1
                      · obtain rfl : b = j := by omega
                        rw [e1, e2]; exact hxy
                    clear hcj hrowj hrj hx hy hyc e1 e2 hok hxo hnj
                    cases hdx : decide (0 < x) <;> cases hdy : decide (0 < y) <;> first
                      | (rw [hdx, hdy] at hxy; exact absurd hxy (by decide))
                      | (clear hxy
                         go_wp2_with fail
                         refine wp_region_plus (by kernel_rfl) (by kernel_rfl) ?_; (repeat (go_big_quiet_step (fail))); refine wpQuiet_nil ?_; intro _ hw'; obtain ⟨⟨osq, dq⟩, hw''⟩ := hw'; subst hw''
                         go_wp2_with fail
                         go_roundw
                         case rel => exact ⟨j + 1, by omega, by go_num, hn2, by (repeat' (first | (with_reducible exact Below.refl _ _) | (with_reducible assumption) | (with_reducible refine Below.alloc ?_ ?_ _) | (with_reducible refine below_plus ?_ ?_ _ _) | (with_reducible refine Below.drew ?_) | (with_reducible refine Below.setCell ?_ ?_ _) | (with_reducible refine below_adv ?_ ?_ _) | go_size | (simp; done) | (simp; omega)))⟩
                         case measure => simp [intOf]; omega)
                  · have HE : Hid (cOk t = false) := Lib.hid (cOk_bad (a := k) (b := j) (by rw [HL.out]; omega) (by rw [HL.out]; omega) (okC_bad1 (by rw [e1, e2]; exact hxy)))
                    have hbz := hb01.trans (hb2.mono (by omega))
                    clear hcj hrowj hrj hx hy hyc e1 e2 hok hxo hnj
                    cases hdx : decide (0 < x) <;> cases hdy : decide (0 < y) <;> first
                      | (rw [hdx, hdy] at hxy; exact absurd rfl hxy)
                      | (clear hxy
                         go_wp2_with fail
                         refine wp_region_plus (by kernel_rfl) (by kernel_rfl) ?_; (repeat (go_big_quiet_step (fail))); refine wpQuiet_nil ?_; intro _ hw'; obtain ⟨⟨osq, dq⟩, hw''⟩ := hw'; subst hw''
                         go_wp2_with fail
                         go_ret
                         exact ⟨by rw [HE.out]; rfl, by (repeat' (first | (with_reducible exact Below.refl _ _) | (with_reducible assumption) | (with_reducible refine Below.alloc ?_ ?_ _) | (with_reducible refine below_plus ?_ ?_ _ _) | (with_reducible refine Below.drew ?_) | (with_reducible refine Below.setCell ?_ ?_ _) | (with_reducible refine below_adv ?_ ?_ _) | go_size | (simp; done) | (simp; omega)))⟩)
                · obtain rfl : j = k := by omega
                  have hn2 : Hid (∀ (a : Nat) (r : List Int), a < j + 1 → t[a]? = some r → r.length = n' ∧ allB r 0 5 = true ∧ cAt t a a = 0 ∧ ∀ b, b < a → decide (0 < cAt t a b) = decide (0 < cAt t b a)) := Lib.hid fun a r' ha hr' => by
                    rcases Nat.lt_or_ge a j with h | h
                    · exact hrows.out a r' h hr'
                    · obtain rfl : a = j := by omega
                      rw [HX.out] at hr'
                      injection hr' with hr'
                      exact ⟨by rw [← hr']; exact HRL.out, by rw [← hr']; exact HAL.out, HDG.out, hok.out⟩
                  clear hrows hok
                  go_wp2_with fail
                  go_roundw
                  case rel => exact ⟨j + 1, by omega, by go_num, hn2, hb01.trans (hb2.mono (by omega))⟩
                  case measure => simp [intOf]; omega
            · have HE : Hid (cOk t = false) := Lib.hid (cOk_bad (a := k) (b := k) (by rw [HL.out]; omega) (by rw [HL.out]; omega) (okC_bad2 (by rw [HDG.out]; exact hy0)))
              have hyn : (y != 0) = true := by simpa [bne] using hy0
              clear hrows CA HYC
              go_wp2_with fail
              go_ret
              exact ⟨by rw [HE.out]; rfl, hb.trans (hb1.mono hzr)⟩
        · have HE : Hid (cOk t = false) := Lib.hid (cOk_sq (sqB_bad hx (by rw [hrl, HL.out]; exact hnn)))
          have hne : ((n' : Int) != (n : Int)) = true := by simp [bne]; omega
          clear hrow hcell hx hrl hrows
          go_wp2_with fail
          go_ret
          exact ⟨by rw [HE.out]; rfl, hb⟩
      · obtain rfl : k = n := by omega
        have HE : Hid (cOk t = true) := Lib.hid (cOk_of_half (by rw [HL.out]; omega) (by rw [HL.out]; omega) fun i r hi => by
          have hil := (List.getElem?_eq_some_iff.1 hi).1
          rw [HL.out] at hil ⊢
          exact hrows.out i r hil hi)
        clear hrows
        go_wp2_with fail
        go_ret
        exact ⟨by rw [HE.out]; rfl, hb⟩

theorem sValidClearance1_c (A : Option Addr) (n c : Nat) (t : List (List Int)) (w : World) (B : Nat) (hS : Sl2 w B ILit A n c t) (hB : B ≤ w.heap.size) :
    Calls Try.prog 17 #[.slice A n c] w fun e w' => e = .returned (.bool (cOk t)) ∧ Below w.heap.size w w' := by
  have CV := Lib.hid (sValidClearance_c A n c t w B hS hB)
  clear hS
  go_enter Try.func17, Try.ntmps17
  go_wp2_with fail
  refine CV.out.mono ?_
  rintro e w1 ⟨rfl, hb1⟩
  go_wp2_with fail
  go_ret
  exact ⟨rfl, hb1⟩
theorem bools_snoc (l : List Bool) (g : Bool) : l.map OLit ++ [.bool g] = (l ++ [g]).map OLit := by simp [OLit]
theorem confF_no {t : List (List Int)} (h : cOk t = false) : confF t = [] := by simp [confF, h]
theorem confF_yes {t : List (List Int)} (h : cOk t = true) : confF t = conf t := by simp [confF, h]

set_option maxHeartbeats 4000000 in
theorem sConflictsOf_c (A : Option Addr) (n c : Nat) (t : List (List Int)) (w : World) (B : Nat) (hS : Sl2 w B ILit A n c t) (hB : B ≤ w.heap.size) :
    Calls Try.prog 26 #[.slice A n c] w (OwBoolSS w (confF t)) := by
  obtain ⟨hc0, hc1⟩ := hS.cap
  have hl := hS.len
  have cw := fun w' (hb : Below w.heap.size w w') => sValidClearance_c A n c t w' _ ((hS.more hB).below hb) hb.size
  have hS0 := hS.more hB
  clear hS
  cases hr : cOk t
  · rw [hr] at cw
    have CW := Lib.hid cw
    have HE := Lib.hid (confF_no hr)
    clear cw hr hl
    go_enter Try.func26, Try.ntmps26
    go_wp2_with fail
    refine (CW.out _ (by (repeat' (first | (with_reducible exact Below.refl _ _) | (with_reducible assumption) | (with_reducible refine Below.alloc ?_ ?_ _) | (with_reducible refine below_plus ?_ ?_ _ _) | (with_reducible refine Below.drew ?_) | (with_reducible refine Below.setCell ?_ ?_ _) | (with_reducible refine below_adv ?_ ?_ _) | go_size | (simp; done) | (simp; omega))))).mono ?_
    rintro e w1 ⟨rfl, hb1⟩
    simp only [World.size_alloc] at hb1
    have hb01 : Below w.heap.size w w1 := ((Below.refl _ _).alloc (Nat.le_refl _) _).trans (hb1.mono (by omega))
    go_wp2_with fail
    go_ret
    exact ⟨_, _, _, rfl, by rw [HE.out]; exact Ow2.nil _ _ _ _ _ _, hb01⟩
  · rw [hr] at cw
    have CW := Lib.hid cw
    have HE := Lib.hid (confF_yes hr)
    obtain ⟨hn1, hn8, hsq, -, -⟩ := cOk_iff.1 hr
    rw [hl] at hn1 hn8
    have HSQ := Lib.hid hsq
    have HL := Lib.hid hl
    obtain ⟨i0, hi, hi0, hi1, hi2⟩ := info_parts info_bool
    obtain ⟨i1, hj, hj0, hj1, hj2⟩ := info_parts info_rowBoolS
    clear cw hr hl hsq
    go_enter Try.func26, Try.ntmps26
    go_wp2_with fail
    refine (CW.out _ (by (repeat' (first | (with_reducible exact Below.refl _ _) | (with_reducible assumption) | (with_reducible refine Below.alloc ?_ ?_ _) | (with_reducible refine below_plus ?_ ?_ _ _) | (with_reducible refine Below.drew ?_) | (with_reducible refine Below.setCell ?_ ?_ _) | (with_reducible refine below_adv ?_ ?_ _) | go_size | (simp; done) | (simp; omega))))).mono ?_
    rintro e w1 ⟨rfl, hb1⟩
    simp only [World.size_alloc] at hb1
    have hz1 := hb1.size
    have hb01 : Below w.heap.size w w1 := ((Below.refl _ _).alloc (Nat.le_refl _) _).trans (hb1.mono (by omega))
    have hown : w1.ownsRow w.heap.size 34 1 (.slice (some ⟨w.heap.size, 0, none⟩) 0 0) 0 [] :=
      (World.ownsRow_made (base := w.heap.size) (e := 34) (size := 1) w #[] 0 (Nat.le_refl _) (by decide) rfl).kept (row := none) ⟨hb1.os, hb1.tape, hb1.output, by simpa using hb1.size, fun b hb2 _ => hb1.block b (by simpa using hb2)⟩ (by right; simp [Value.ownBlock])
    have hB0 : Bld w1 w.heap.size 34 4 OLit (.slice (some ⟨w.heap.size, 0, none⟩) 0 0) 0 ([] : List (List Bool)) := Bld.nil _ _ _ _ _ _ hown
    clear CW hb1 hown
    go_wp2_with fail
    go_loopw [3, 4] (fun v i wr => ∃ (k : Nat), k ≤ n ∧ i = .int .i64 k ∧ Bld wr w.heap.size 34 4 OLit v k ((conf t).take k) ∧ Below w.heap.size w wr) (fun _ i _ => n - (intOf i).toNat)
    case atStart => exact ⟨0, by omega, rfl, hB0, hb01⟩
    case round =>
      clear hB0 hb01
      obtain ⟨k, hk, rfl, hBl, hb⟩ := hrel
      have hzr := hb.size
      by_cases hlt : k < n
      · obtain ⟨b, o, b1, o1, c1, ra, rfl, hbl, hbl1, hra, hral, hrac, hcell, hrow⟩ := (hS0.below hb).entry HSQ.out hlt
        have HRA := Lib.hid hra
        have HRL := Lib.hid hral
        have HCE : Hid (wr.cell? ⟨b, o + k, none⟩ = some (.slice (some ⟨b1, o1, none⟩) n c1)) := Lib.hid hcell
        have HROW := Lib.hid hrow
        have hbw : b < wr.heap.size := by omega
        have hb1w : b1 < wr.heap.size := by omega
        clear hra hral hcell hrow
        go_wp2_with fail
        obtain ⟨wo, rfl⟩ : ∃ wo : World, wo = wr := ⟨_, rfl⟩
        go_loopw [5, 6] (fun v2 i wr => ∃ (j : Nat), j ≤ n ∧ i = .int .i64 j ∧ wr.ownsRow wo.heap.size 4 1 v2 j (((ra.map fun x => decide (0 < x)).take j).map OLit) ∧ Below wo.heap.size wo wr) (fun _ i _ => n - (intOf i).toNat)
        case atStart => exact ⟨0, by omega, rfl, World.ownsRow_made _ #[] 0 (Nat.le_refl _) (by decide) rfl, by (repeat' (first | (with_reducible exact Below.refl _ _) | (with_reducible assumption) | (with_reducible refine Below.alloc ?_ ?_ _) | (with_reducible refine below_plus ?_ ?_ _ _) | (with_reducible refine Below.drew ?_) | (with_reducible refine Below.setCell ?_ ?_ _) | (with_reducible refine below_adv ?_ ?_ _) | go_size | (simp; done) | (simp; omega)))⟩
        case round =>
          obtain ⟨j, hj', rfl, hO, hb2⟩ := hrel
          have hzr2 := hb2.size
          by_cases hjn : j < n
          · obtain ⟨x, hx⟩ : ∃ x, ra[j]? = some x := ⟨_, List.getElem?_eq_getElem (by rw [HRL.out]; exact hjn)⟩
            have e1 : wr.cell? ⟨b, o + k, none⟩ = some (.slice (some ⟨b1, o1, none⟩) n c1) := (hb2.cell (p := ⟨b, o + k, none⟩) hbw).trans HCE.out
            have e2 : wr.cell? ⟨b1, o1 + j, none⟩ = some (.int .i64 x) := (hb2.cell (p := ⟨b1, o1 + j, none⟩) hb1w).trans (HROW.out j x hx)
            have hsn := Lib.hid (take_snoc (k := j) (xs := ra.map fun x => decide (0 < x)) (x := decide (0 < x)) (by rw [List.getElem?_map, hx]; rfl))
            clear hx
            go_wp2_with (at_builtin; refine wpList_app1 wo wr rfl _ _ 34 rfl 4 i0 (.bool false) 1 Try.underlying34 hi hi0 hi1 hi2 rfl (by decide) wo.heap.size _ j _ (by rfl) hO _ rfl _ (by rfl) rfl (by omega) hb2 hzr2 ?_; intro v8 w8 hO8 hb8 hg8)
            rw [bools_snoc, ← hsn.out] at hO8
            go_roundw
            case rel => exact ⟨j + 1, by omega, by go_num, hO8, hb8⟩
            case measure => simp [intOf]; omega
          · obtain rfl : j = n := by omega
            rw [List.take_of_length_le (by rw [List.length_map, HRL.out]; exact Nat.le_refl _)] at hO
            have hlt5 := hO.lt
            obtain ⟨A5, c5, rfl, hW5⟩ := Ow.of_own hO
            obtain ⟨vs, hv1, hv2, hv3⟩ := hBl
            have hv0 := fun b hb => (hv1.lt b hb).2
            have hown2 := own_below hv1 hb2
            have hR2 := hv2.below (Nat.le_refl _) hb2
            have hbb := hb.trans (hb2.mono hzr)
            have hsn := Lib.hid (take_snoc (conf_row HRA.out))
            clear hO hb2 hv1 hv2
            go_wp2_with (at_builtin; refine wpList_app1_at w wr rfl _ _ 30 rfl 34 i1 (.slice none 0 0) 24 Try.underlying30 hj hj0 hj1 hj2 rfl (by decide) w.heap.size _ k _ (by rfl) hown2 _ rfl _ (by rfl) rfl (by omega) hbb (by omega) ?_; intro v8 w8 hO8 hb8 hg8 hv8)
            have hN := Bld.app (f := OLit) (E := 4) hown2 hR2 hv3 hv0 hzr2 hzr hW5 hlt5 hO8 hg8 hv8
            rw [← hsn.out] at hN
            clear hW5 hv3 hown2 hR2 hO8 hg8 hv8 hv0 hlt5
            go_roundw
            case rel => exact ⟨k + 1, by omega, by go_num, hN, hb8⟩
            case measure => simp [intOf]; omega
      · obtain rfl : k = n := by omega
        rw [List.take_of_length_le (by rw [conf_len, HL.out]; exact Nat.le_refl _)] at hBl
        obtain ⟨A5, c5, rfl, hW5⟩ := hBl.ow2
        clear hBl
        go_wp2_with fail
        go_ret
        exact ⟨_, _, _, rfl, by rw [HE.out]; exact hW5, hb⟩
end Go.Proofs.Ytlpbmnmhpknppaa
