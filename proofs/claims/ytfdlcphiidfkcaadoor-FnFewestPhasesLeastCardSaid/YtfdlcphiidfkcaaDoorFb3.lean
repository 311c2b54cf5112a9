/- The reference's fullPhases and FullPhases, walked. -/
import Derived.Test.YtfdlcphiidfkcaaDoorFb1
import Derived.Test.YtfdlcphiidfkcaaDoorFb2
import Derived.Test.YtfdlcphiidfkcaaDoorPg
import Derived.Test.YtfdlcphiidfkcaaDoorBd
import Derived.Test.YtfdlcphiidfkcaaDoorPp
set_option linter.unusedVariables false
set_option linter.unusedSimpArgs false
namespace Go.Proofs.YtfdlcphiidfkcaaDoor
open Go.RowKit

theorem info_rowL : (Tryd.prog.info? 28).map (fun i => (i.zero, i.size, i.bytes)) = some (some (.slice none 0 0), 1, 24) := by kernel_rfl
theorem leL_trans (a b c : List Int) (h1 : leL a b) (h2 : leL b c) : leL a c := lessL_trans h1 h2
theorem fullUp_skip {t : List (List Bool)} {m : Nat} (h : fullB t (movesN t.length m) = false) : fullUp t (m + 1) = fullUp t m := by
  rw [fullUp_succ, if_neg (by rw [h]; decide), List.append_nil]
theorem fullUp_take {t : List (List Bool)} {m : Nat} (h : fullB t (movesN t.length m) = true) : fullUp t (m + 1) = fullUp t m ++ [movesN t.length m] := by
  rw [fullUp_succ, if_pos h]
theorem fullUp_len (t : List (List Bool)) (m : Nat) : (fullUp t m).length ≤ m := by
  unfold fullUp
  exact Nat.le_trans (List.length_filter_le _ _) (by simp)

set_option maxRecDepth 4000 in
set_option maxHeartbeats 8000000 in
theorem sFullPhases0_c (At : Option Addr) (m ct : Nat) (t : List (List Bool)) (w : World) (B : Nat) (hT : Sl2 w B OLit At m ct t) (hB : B ≤ w.heap.size) (hok : tOk t = true) :
    Calls Tryd.prog 35 #[.slice At m ct] w (OwIntSS w (sortL (fullUp t (2 ^ m)))) := by
  obtain ⟨i1, hj, hj0, hj1, hj2⟩ := info_parts info_rowL
  obtain ⟨hc0, hc1⟩ := hT.cap
  obtain ⟨hk1, hk8, hsq, -⟩ := tOk_iff.1 hok
  have htl := hT.len
  rw [htl] at hk1 hk8
  have HT := Lib.hid (hT.more hB)
  have HSQ := Lib.hid hsq
  have HTL := Lib.hid htl
  have hP1 : 1 ≤ 2 ^ m := Nat.one_le_two_pow
  have hP2 : 2 ^ m ≤ 2 ^ 8 := Nat.pow_le_pow_right (by omega) hk8
  have hpw : (2 : Int) ^ m = ((2 ^ m : Nat) : Int) := by simp
  have h10 := fullUp_one (t := t) (by omega)
  obtain ⟨P, hP⟩ : ∃ P, 2 ^ m = P := ⟨_, rfl⟩
  rw [hP] at hP1 hP2 hpw ⊢
  have hpw2 : IntKind.i64.wrap ((P : Nat) : Int) = P := IntWalk.i64_in _ (by omega)
  have HP := Lib.hid hP
  have H0 : Hid (sortL (fullUp t 1) = []) := Lib.hid (by rw [h10]; simp [sortL])
  clear hT hsq htl hP h10 hok
  go_enter Tryd.func35, Tryd.ntmps35
  go_wp2_with fail
  go_loopw [3, 4] (fun v i wr => ∃ (M K : Nat), 1 ≤ M ∧ M ≤ P ∧ i = .int .i64 M ∧ K ≤ M ∧ Bld wr w.heap.size 28 3 ILit v K (sortL (fullUp t M)) ∧ Below w.heap.size w wr) (fun _ i _ => P - (intOf i).toNat)
  case atStart => exact ⟨1, 0, by omega, hP1, rfl, by omega, by rw [H0.out]; exact Bld.nil _ _ _ _ _ _ (World.ownsRow_made _ #[] 0 (Nat.le_refl _) (by decide) rfl), by (repeat' (first | (with_reducible exact Below.refl _ _) | (with_reducible assumption) | (with_reducible refine Below.alloc ?_ ?_ _) | (with_reducible refine below_plus ?_ ?_ _ _) | (with_reducible refine Below.drew ?_) | (with_reducible refine Below.setCell ?_ ?_ _) | (with_reducible refine below_adv ?_ ?_ _) | go_size | (simp; done) | (simp; omega)))⟩
  case round =>
    obtain ⟨M, K, hM1, hMP, rfl, hKM, hBl, hb⟩ := hrel
    have hzr := hb.size
    by_cases hlt : M < P
    · have CM := Lib.hid (inMask_c M m wr (by omega) (by omega))
      have HB := Lib.hid hb
      have HBL := Lib.hid hBl
      clear hb hBl
      go_wp2_with fail
      refine CM.out.mono ?_
      rintro e wa ⟨A5, k5, c5, rfl, hO5, hk5, hub5, hba⟩
      have hza := hba.size
      have hbba := HB.out.trans (hba.mono hzr)
      have hin : ∀ x ∈ movesN m M, 0 ≤ x ∧ x < m := fun x hx => movesN_range hx
      have cc := clear_c At m ct t A5 k5 c5 (movesN m M) wa _ ((HT.out.below hbba).more hbba.size) hO5.sl (Nat.le_refl _) HSQ.out hin (by omega)
      have hfp := fullB_parts t (movesN m M)
      rw [HTL.out] at hfp
      have HIN := Lib.hid hin
      have HO5 := Lib.hid hO5
      have HU5 := Lib.hid hub5
      have HBA := Lib.hid hba
      have HBBA := Lib.hid hbba
      clear hin hO5 hub5 hba hbba CM
      cases hcl : clearB t (movesN m M)
      · rw [hcl] at cc
        rw [hcl, Bool.false_and] at hfp
        have CC := Lib.hid cc
        have HE : Hid (fullUp t (M + 1) = fullUp t M) := Lib.hid (fullUp_skip (by rw [HTL.out]; exact hfp))
        clear cc hcl hfp
        go_wp2_with fail
        refine CC.out.mono ?_
        rintro e wb ⟨rfl, hbb⟩
        have hbn := HBBA.out.trans (hbb.mono HBBA.out.size)
        have hBn := (HBL.out.below HBA.out).below hbb
        rw [← HE.out] at hBn
        clear hbb
        go_wp2_with fail
        go_roundw
        case rel => exact ⟨M + 1, K, by omega, by omega, by go_num, by omega, hBn, hbn⟩
        case measure => simp [intOf]; omega
      · have cf := fun wb (hb' : Below wa.heap.size wa wb) => isFull_c At m ct t A5 k5 c5 (movesN m M) wb _ ((HT.out.below (HBBA.out.trans (hb'.mono HBBA.out.size))).more (HBBA.out.trans (hb'.mono HBBA.out.size)).size) ((HO5.out.sl.below hb').more hb'.size) (Nat.le_refl _) HSQ.out HIN.out (by omega) (by omega) hcl
        rw [hcl] at cc
        rw [hcl, Bool.true_and] at hfp
        have CC := Lib.hid cc
        cases hst : stuckB t (movesN m M) m
        · rw [hst] at cf hfp
          have CF := Lib.hid cf
          have HE : Hid (fullUp t (M + 1) = fullUp t M) := Lib.hid (fullUp_skip (by rw [HTL.out]; exact hfp))
          clear cc cf hcl hfp hst
          go_wp2_with fail
          refine CC.out.mono ?_
          rintro e wb ⟨rfl, hbb⟩
          have hzb := hbb.size
          go_wp2_with fail
          refine (CF.out wb hbb).mono ?_
          rintro e wc ⟨rfl, hbc⟩
          have hac := hbb.trans (hbc.mono hzb)
          have hbn := HBBA.out.trans (hac.mono HBBA.out.size)
          have hBn := (HBL.out.below HBA.out).below hac
          rw [← HE.out] at hBn
          clear hbb hbc hac
          go_wp2_with fail
          go_roundw
          case rel => exact ⟨M + 1, K, by omega, by omega, by go_num, by omega, hBn, hbn⟩
          case measure => simp [intOf]; omega
        · rw [hst] at cf hfp
          have CF := Lib.hid cf
          have HE : Hid (fullUp t (M + 1) = fullUp t M ++ [movesN m M]) := Lib.hid (by have := fullUp_take (t := t) (m := M) (by rw [HTL.out]; exact hfp); rw [HTL.out] at this; exact this)
          clear cc cf hcl hfp hst
          obtain ⟨Av, cv, rfl, -⟩ := HBL.out.ow2
          obtain ⟨q, hq⟩ : ∃ q, K + 1 = q := ⟨_, rfl⟩
          go_wp2_with fail
          refine CC.out.mono ?_
          rintro e wb ⟨rfl, hbb⟩
          have hzb := hbb.size
          go_wp2_with fail
          refine (CF.out wb hbb).mono ?_
          rintro e wc ⟨rfl, hbc⟩
          have hac := hbb.trans (hbc.mono hzb)
          have hzc := hac.size
          have hbn := HBBA.out.trans (hac.mono HBBA.out.size)
          have hrc := HBA.out.trans (hac.mono hza)
          obtain ⟨vs, hv1, hv2, hv3⟩ := HBL.out
          have hv0 := fun b hb => (hv1.lt b hb).2
          have hown2 := own_below hv1 hrc
          have hR2 := hv2.below (Nat.le_refl _) hrc
          have HO5c := Lib.hid (HO5.out.below hac)
          have HU5c := Lib.hid (fun b (hb : (Value.slice A5 k5 c5).ownBlock = some b) => (show wr.heap.size ≤ b ∧ b < wc.heap.size from ⟨(HU5.out b hb).1, Nat.lt_of_lt_of_le (HU5.out b hb).2 hzc⟩))
          have HV0 := Lib.hid hv0
          have HV3 := Lib.hid hv3
          have hzn := hbn.size
          have hzrc : wr.heap.size ≤ wc.heap.size := by omega
          clear hv1 hv2 hv0 hv3 hbb hbc hac hrc CC CF
          go_wp2_with (at_builtin; refine wpList_app1_at w wc rfl _ _ 25 rfl 28 i1 (.slice none 0 0) 24 Tryd.underlying25 hj hj0 hj1 hj2 rfl (by decide) w.heap.size _ K _ (by rfl) hown2 _ rfl _ (by rfl) rfl (by omega) hbn (by omega) ?_; intro v8 w8 hO8 hb8 hg8 hv8)
          have hN := Bld.app (f := ILit) (E := 3) hown2 hR2 HV3.out HV0.out hzrc hzr HO5c.out HU5c.out hO8 hg8 hv8
          rw [hq] at hN
          have hS0 : Hid ((sortL (fullUp t M) ++ [movesN m M]).Perm (fullUp t (M + 1)) ∧ Sinks leL K K (sortL (fullUp t M) ++ [movesN m M])) := Lib.hid ⟨by
              rw [HE.out]; exact (sortL_perm _).append_right _, Sinks.start (by
              have hll : (sortL (fullUp t M)).length = K := HBL.out.len
              rw [List.take_append_of_le_length (by omega), List.take_of_length_le (by omega)]
              exact sortL_sorted _) (by
              have hll : (sortL (fullUp t M)).length = K := HBL.out.len
              simp; omega)⟩
          obtain ⟨zs0, hz0⟩ : ∃ zs0, sortL (fullUp t M) ++ [movesN m M] = zs0 := ⟨_, rfl⟩
          rw [hz0] at hS0 hN
          have HN := Lib.hid hN
          obtain ⟨A8, c8, rfl, -⟩ := hN.ow2
          have hq256 : q ≤ 256 := by omega
          have HFIN := Lib.hid (fun (zs : List (List Int)) (h : zs.Perm (fullUp t (M + 1)) ∧ (zs.take (K + 1)).Pairwise leL) (hl : zs.length = q) => (sortL_of h.1 (by have := h.2; rwa [List.take_of_length_le (by omega)] at this) : zs = sortL (fullUp t (M + 1))))
          clear hN hz0 hown2 hR2 HV3 HV0 HO5c HU5c hO8 hg8 hv8 HBL HB hbn
          go_loopw [6] (fun kk wr => ∃ (k : Nat) (zs : List (List Int)), k ≤ K ∧ kk = .int .i64 k ∧ Bld wr w.heap.size 28 3 ILit (.slice A8 q c8) q zs ∧ Below w.heap.size w wr ∧ Hid (zs.Perm (fullUp t (M + 1)) ∧ Sinks leL K k zs)) (fun kk _ => (intOf kk).toNat)
          case atStart => exact ⟨K, zs0, Nat.le_refl _, rfl, HN.out, hb8, hS0⟩
          case round =>
            clear hb8 HN hS0
            obtain ⟨k, zs, hkK, rfl, hBl, hb, hP⟩ := hrel
            have hzr := hb.size
            by_cases hk : k = 0
            · subst hk
              have hd := HFIN.out zs ⟨hP.out.1, hP.out.2.stop leL_trans (.inl rfl)⟩ hBl.len
              have hBn := hBl
              rw [hd] at hBn
              have HBN := Lib.hid hBn
              have HBR := Lib.hid hb
              clear hd hBn hBl hb hP
              go_wp2_with fail
              refine wp_region_plus (by kernel_rfl) (by kernel_rfl) ?_; (repeat (go_big_quiet_step (fail))); refine wpQuiet_nil ?_; intro _ hw'; obtain ⟨⟨osq, dq⟩, hw''⟩ := hw'; subst hw''
              go_wp2_with fail
              go_roundw
              case rel => exact ⟨M + 1, q, by omega, by omega, by go_num, by omega, HBN.out.below (by (repeat' (first | (with_reducible exact Below.refl _ _) | (with_reducible assumption) | (with_reducible refine Below.alloc ?_ ?_ _) | (with_reducible refine below_plus ?_ ?_ _ _) | (with_reducible refine Below.drew ?_) | (with_reducible refine Below.setCell ?_ ?_ _) | (with_reducible refine below_adv ?_ ?_ _) | go_size | (simp; done) | (simp; omega)))), by have hb := HBR.out; (repeat' (first | (with_reducible exact Below.refl _ _) | (with_reducible assumption) | (with_reducible refine Below.alloc ?_ ?_ _) | (with_reducible refine below_plus ?_ ?_ _ _) | (with_reducible refine Below.drew ?_) | (with_reducible refine Below.setCell ?_ ?_ _) | (with_reducible refine below_adv ?_ ?_ _) | go_size | (simp; done) | (simp; omega)))⟩
              case measure => simp [intOf]; omega
            · obtain ⟨k, rfl⟩ : ∃ k', k = k' + 1 := ⟨k - 1, by omega⟩
              obtain ⟨g, cap, A1, n1, c1, A2, n2, c2, xs1, xs2, hvv, hqc, hcap, hlg, hgl, hx1, hx2, cu, cv', hs1, hs2, -, -⟩ := hBl.swap (j := k) (by omega)
              injection hvv with hvv1 hvv2 hvv3
              subst hvv1 hvv3
              have cl := fun (os : Array Obj) (d : Nat) => lessInts_c A2 n2 c2 xs2 A1 n1 c1 xs1 (plus wr os d) _ (hs2.plus (Nat.le_refl _) os d) (hs1.plus (Nat.le_refl _) os d) (by simp)
              have j1 : (k : Int) + 1 < (q : Int) := by omega
              have j2 : (0 : Int) ≤ (k : Int) := by omega
              have j3 : (k : Int) < (q : Int) := by omega
              have HX := Lib.hid (And.intro hx1 hx2)
              have HBL2 := Lib.hid hBl
              have HBR := Lib.hid hb
              clear hs1 hs2 hx1 hx2 hBl hb
              cases hu : lessL xs2 xs1
              · rw [hu] at cl
                have CL := Lib.hid cl
                have hd := HFIN.out zs ⟨hP.out.1, hP.out.2.stop leL_trans (.inr ⟨xs1, xs2, HX.out.1, HX.out.2, hu⟩)⟩ HBL2.out.len
                have hBn := HBL2.out
                rw [hd] at hBn
                have HBN := Lib.hid hBn
                clear hd hBn hP cl hu
                go_wp2_with fail
                refine wp_region_plus (by kernel_rfl) (by kernel_rfl) ?_; (repeat (go_big_quiet_step ((go_at_call 38; exact quiet_plus (CL.out _ _))))); refine wpQuiet_nil ?_; intro _ hw'; obtain ⟨⟨osq, dq⟩, hw''⟩ := hw'; subst hw''
                go_wp2_with fail
                go_roundw
                case rel => exact ⟨M + 1, q, by omega, by omega, by go_num, by omega, HBN.out.below (by (repeat' (first | (with_reducible exact Below.refl _ _) | (with_reducible assumption) | (with_reducible refine Below.alloc ?_ ?_ _) | (with_reducible refine below_plus ?_ ?_ _ _) | (with_reducible refine Below.drew ?_) | (with_reducible refine Below.setCell ?_ ?_ _) | (with_reducible refine below_adv ?_ ?_ _) | go_size | (simp; done) | (simp; omega)))), by have hb := HBR.out; (repeat' (first | (with_reducible exact Below.refl _ _) | (with_reducible assumption) | (with_reducible refine Below.alloc ?_ ?_ _) | (with_reducible refine below_plus ?_ ?_ _ _) | (with_reducible refine Below.drew ?_) | (with_reducible refine Below.setCell ?_ ?_ _) | (with_reducible refine below_adv ?_ ?_ _) | go_size | (simp; done) | (simp; omega)))⟩
                case measure => simp [intOf]; omega
              · rw [hu] at cl
                have CL := Lib.hid cl
                have hle : leL xs2 xs1 := lessL_asym hu
                have hSn := Lib.hid (And.intro ((perm_swap HX.out.1 HX.out.2).trans hP.out.1) (hP.out.2.swap HX.out.1 HX.out.2 hle))
                clear hP cl hu hle
                go_wp2_with fail
                refine wp_region_plus (by kernel_rfl) (by kernel_rfl) ?_; (repeat (go_big_quiet_step ((go_at_call 38; exact quiet_plus (CL.out _ _))))); refine wpQuiet_nil ?_; intro _ hw'; obtain ⟨⟨osq, dq⟩, hw''⟩ := hw'; subst hw''
                obtain ⟨wp, hwp⟩ : ∃ wp, plus wr osq dq = wp := ⟨_, rfl⟩
                rw [hwp]
                have hbp : Below wr.heap.size wr wp := by rw [← hwp]; (repeat' (first | (with_reducible exact Below.refl _ _) | (with_reducible assumption) | (with_reducible refine Below.alloc ?_ ?_ _) | (with_reducible refine below_plus ?_ ?_ _ _) | (with_reducible refine Below.drew ?_) | (with_reducible refine Below.setCell ?_ ?_ _) | (with_reducible refine below_adv ?_ ?_ _) | go_size | (simp; done) | (simp; omega)))
                have hBp := HBL2.out.below hbp
                have hbpw := HBR.out.trans (hbp.mono hzr)
                obtain ⟨g', cap', A1', n1', c1', A2', n2', c2', xs1', xs2', hvv, -, -, hlg', hgl', hx1', hx2', cu2, cv2, -, -, frz, hBs⟩ := hBp.swap (j := k) (by omega)
                injection hvv with hvv1 hvv2 hvv3
                injection hvv1 with hvv1
                injection hvv1 with hvv1
                subst hvv1 hvv3
                rw [HX.out.1] at hx1'
                rw [HX.out.2] at hx2'
                injection hx1' with hx1'
                injection hx2' with hx2'
                subst hx1' hx2'
                have f1 := frz (k + 1)
                have f2 := frz k
                have HBS := Lib.hid hBs
                have hbs : Below w.heap.size w ((wp.setCell ⟨g, k + 1, none⟩ (.slice A1' n1' c1')).setCell ⟨g, k, none⟩ (.slice A2' n2' c2')) := (hbpw.setCell (show w.heap.size ≤ g from hlg) _).setCell (show w.heap.size ≤ g from hlg) _
                have HBSS := Lib.hid hbs
                clear hBs hBp hbp hwp cu cv' CL hbs frz hbpw
                go_wp2_with fail
                go_roundw
                case rel => exact ⟨k, _, by omega, by go_num, HBS.out, HBSS.out, hSn⟩
                case measure => simp [intOf]
    · obtain rfl : M = P := by omega
      obtain ⟨A9, c9, rfl, hO9⟩ := hBl.ow2
      rw [← HP.out] at hO9
      have HO9 := Lib.hid hO9
      clear hO9 hBl
      go_wp2_with fail
      go_ret
      exact ⟨A9, K, c9, rfl, by rw [← HP.out]; exact HO9.out, hb⟩

set_option maxHeartbeats 1000000 in
theorem sFullPhases_c (At : Option Addr) (m ct : Nat) (t : List (List Bool)) (w : World) (B : Nat) (hT : Sl2 w B OLit At m ct t) (hB : B ≤ w.heap.size) :
    Calls Tryd.prog 26 #[.slice At m ct] w (OwIntSS w (fullL t)) := by
  have hl := hT.len
  have cv := validTable_c At m ct t w B hT hB
  cases hok : tOk t
  · rw [hok] at cv
    have CV := Lib.hid cv
    have HE : Hid (fullL t = []) := Lib.hid (by simp [fullL, hok])
    clear cv hok hT
    go_enter Tryd.func26, Tryd.ntmps26
    go_wp2_with fail
    refine CV.out.mono ?_
    rintro e w1 ⟨rfl, hb1⟩
    go_wp2_with fail
    go_ret
    exact ⟨none, 0, 0, rfl, by rw [HE.out]; exact Ow2.nil _ _ _ _ _ _, hb1⟩
  · rw [hok] at cv
    have CV := Lib.hid cv
    have HE : Hid (fullL t = sortL (fullUp t (2 ^ m))) := Lib.hid (by rw [fullL, if_pos hok, hl])
    have CF := Lib.hid (fun w' (hb : Below w.heap.size w w') => sFullPhases0_c At m ct t w' _ ((hT.more hB).below hb) hb.size hok)
    clear cv hok hT
    go_enter Tryd.func26, Tryd.ntmps26
    go_wp2_with fail
    refine CV.out.mono ?_
    rintro e w1 ⟨rfl, hb1⟩
    go_wp2_with fail
    refine (CF.out w1 hb1).mono ?_
    rintro e w2 ⟨A2, n2, c2, rfl, hO, hb2⟩
    have hO2 := hO.less (lo' := w.heap.size) hb1.size
    have HO2 := Lib.hid hO2
    have hb02 := hb1.trans (hb2.mono hb1.size)
    clear hO hO2 hb2
    go_wp2_with fail
    go_ret
    exact ⟨A2, n2, c2, rfl, by rw [HE.out]; exact HO2.out, hb02⟩
end Go.Proofs.YtfdlcphiidfkcaaDoor
