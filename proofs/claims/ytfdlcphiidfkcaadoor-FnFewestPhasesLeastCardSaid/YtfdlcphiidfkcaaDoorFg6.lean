/- FewestPhases of the reference, walked. -/
import Derived.Test.YtfdlcphiidfkcaaDoorFg5
import Derived.Test.YtfdlcphiidfkcaaDoorFb3
set_option linter.unusedVariables false
set_option linter.unusedSimpArgs false
namespace Go.Proofs.YtfdlcphiidfkcaaDoor
open Go.RowKit

set_option maxRecDepth 4000 in
set_option maxHeartbeats 8000000 in
theorem sFewestPhases_c (At : Option Addr) (m ct : Nat) (t : List (List Bool)) (w : World) (B : Nat) (hT : Sl2 w B OLit At m ct t) (hB : B ≤ w.heap.size) :
    Calls Tryd.prog 14 #[.slice At m ct] w (RdRows w (fewL t)) := by
  have htl := hT.len
  obtain ⟨hct0, hct1⟩ := hT.cap
  have cv := validTable_c At m ct t w B hT hB
  cases hok : tOk t
  · rw [hok] at cv
    have CV := Lib.hid cv
    have HE : Hid (fewL t = []) := Lib.hid (by rw [fewL, if_pos (.inl (by simp [fullL, hok]))])
    clear cv hok hT
    go_enter Tryd.func14, Tryd.ntmps14
    go_wp2_with fail
    refine CV.out.mono ?_
    rintro e w1 ⟨rfl, hb1⟩
    go_wp2_with fail
    go_ret
    exact ⟨none, 0, 0, rfl, by rw [HE.out]; exact (Ow2.nil w1 0 0 0 0 ILit).sl2, hb1⟩
  · rw [hok] at cv
    obtain ⟨i1, hj, hj0, hj1, hj2⟩ := info_parts info_rowL
    have cf := fun w' (hb : Below w.heap.size w w') => sFullPhases0_c At m ct t w' _ ((hT.more hB).below hb) hb.size hok
    have hLe : fullL t = sortL (fullUp t (2 ^ m)) := by rw [fullL, if_pos hok, htl]
    rw [← hLe] at cf
    have hm8 := (tOk_iff.1 hok).2.1
    rw [htl] at hm8
    have hbf := best_few hok
    have hfl := fun p (h : p ∈ fullL t) => full_len hok h
    have h12 : 12 < (fullL t).length → fewL t = [] := fun h => by rw [fewL, if_pos (.inr h)]
    rw [htl] at hfl hbf
    obtain ⟨L, hL⟩ : ∃ L, fullL t = L := ⟨_, rfl⟩
    rw [hL] at cf hbf hfl h12
    have HLN := Lib.hid hfl
    have HBF := Lib.hid hbf
    have H12 := Lib.hid h12
    have CV := Lib.hid cv
    have CF := Lib.hid cf
    clear cv hok hT cf hLe hbf hfl h12 hL
    go_enter Tryd.func14, Tryd.ntmps14
    go_wp2_with fail
    refine CV.out.mono ?_
    rintro e w1 ⟨rfl, hb1⟩
    have hz1 := hb1.size
    go_wp2_with fail
    refine (CF.out w1 hb1).mono ?_
    rintro e w2 ⟨A3, n3, c3, rfl, hO3, hb2⟩
    have hb02 := hb1.trans (hb2.mono hz1)
    have hz2 := hb02.size
    have hl3 := hO3.len
    obtain ⟨hc30, hc31⟩ := hO3.cap
    have HF := Lib.hid hO3.sl2
    have HB02 := Lib.hid hb02
    have hemp : ∀ (w' : World) (A : Option Addr), Sl w' w'.heap.size ILit A 0 0 [] := fun w' A => ⟨rfl, Nat.le_refl _, by omega, fun h => absurd h (by omega)⟩
    have HEMP := Lib.hid hemp
    clear hO3 hb1 hb2 hb02 CV CF hemp
    by_cases h12 : 12 < n3
    · have HE := Lib.hid (H12.out (by omega))
      have g2 : (12 : Int) < (n3 : Int) := by omega
      go_wp2_with fail
      go_ret
      exact ⟨none, 0, 0, rfl, by rw [HE.out]; exact (Ow2.nil _ 0 0 0 0 ILit).sl2, by have hb := HB02.out; (repeat' (first | (with_reducible exact Below.refl _ _) | (with_reducible assumption) | (with_reducible refine Below.alloc ?_ ?_ _) | (with_reducible refine below_plus ?_ ?_ _ _) | (with_reducible refine Below.drew ?_) | (with_reducible refine Below.setCell ?_ ?_ _) | (with_reducible refine below_adv ?_ ?_ _) | go_size | (simp; done) | (simp; omega)))⟩
    have g2 : ¬ (12 : Int) < (n3 : Int) := by omega
    have g3 : (n3 : Int) ≤ 12 := by omega
    have hP1 : 1 ≤ 2 ^ n3 := Nat.one_le_two_pow
    have hP2 : 2 ^ n3 ≤ 2 ^ 12 := Nat.pow_le_pow_right (by omega) (by omega)
    have hpw : (2 : Int) ^ n3 = ((2 ^ n3 : Nat) : Int) := by simp
    have hbf := HBF.out (by omega)
    rw [hl3] at hbf
    have HIN := Lib.hid (best_in m L)
    have HL3 := Lib.hid hl3
    obtain ⟨P, hP⟩ : ∃ P, 2 ^ n3 = P := ⟨_, rfl⟩
    rw [hP] at hP1 hP2 hpw hbf
    have hpw2 : IntKind.i64.wrap ((P : Nat) : Int) = P := IntWalk.i64_in _ (by omega)
    have HBB := Lib.hid hbf
    clear hP hbf HBF H12 hl3
    go_wp2_with fail
    go_loopw [4, 5] (fun b i wr => ∃ (M : Nat) (Ab : Option Addr) (nb cb : Nat), 1 ≤ M ∧ M ≤ P ∧ i = .int .i64 M ∧ b = .slice Ab nb cb ∧ Sl wr wr.heap.size ILit Ab nb cb (bestF m L M) ∧ Below w2.heap.size w2 wr) (fun _ i _ => P - (intOf i).toNat)
    case atStart => exact ⟨1, _, 0, 0, by omega, hP1, rfl, rfl, HEMP.out _ _, by (repeat' (first | (with_reducible exact Below.refl _ _) | (with_reducible assumption) | (with_reducible refine Below.alloc ?_ ?_ _) | (with_reducible refine below_plus ?_ ?_ _ _) | (with_reducible refine Below.drew ?_) | (with_reducible refine Below.setCell ?_ ?_ _) | (with_reducible refine below_adv ?_ ?_ _) | go_size | (simp; done) | (simp; omega)))⟩
    case round =>
      obtain ⟨M, Ab, nb, cb, hM1, hMP, rfl, rfl, hSb, hb⟩ := hrel
      have hzr := hb.size
      obtain ⟨hcb0, hcb1⟩ := hSb.cap
      by_cases hlt : M < P
      · have CM := Lib.hid (inMask_c M n3 wr (by omega) (by omega))
        have HB := Lib.hid hb
        have HSb := Lib.hid hSb
        clear hb hSb
        go_wp2_with fail
        refine CM.out.mono ?_
        rintro e wa ⟨A5, k5, c5, rfl, hO5, hk5, -, hba⟩
        have hza := hba.size
        have hl5 := hO5.len
        obtain ⟨hc50, hc51⟩ := hO5.sl.cap
        have HS5 := Lib.hid hO5.sl
        have HBA := Lib.hid hba
        have HB2A := Lib.hid (HB.out.trans (hba.mono hzr))
        obtain ⟨mv, hmv⟩ : ∃ mv, movesN n3 M = mv := ⟨_, rfl⟩
        rw [hmv] at hl5 HS5
        have HMV := Lib.hid hmv
        have HL5 := Lib.hid hl5
        have HIN5 : Hid (∀ x ∈ mv, 0 ≤ x ∧ x < n3) := Lib.hid (fun x hx => by rw [← hmv] at hx; exact movesN_range hx)
        clear hO5 hba CM hl5 hmv
        go_wp2_with fail
        go_loopw [7, 8] (fun v i wr => ∃ j : Nat, j ≤ k5 ∧ i = .int .i64 j ∧ Shr wr wa.heap.size w2.heap.size 28 ILit v j (rowsAt L (mv.take j)) ∧ Below wa.heap.size wa wr) (fun _ i _ => k5 - (intOf i).toNat)
        case atStart => exact ⟨0, by omega, rfl, Shr.nil (World.ownsRow_made _ #[] 0 (Nat.le_refl _) (by decide) rfl), by (repeat' (first | (with_reducible exact Below.refl _ _) | (with_reducible assumption) | (with_reducible refine Below.alloc ?_ ?_ _) | (with_reducible refine below_plus ?_ ?_ _ _) | (with_reducible refine Below.drew ?_) | (with_reducible refine Below.setCell ?_ ?_ _) | (with_reducible refine below_adv ?_ ?_ _) | go_size | (simp; done) | (simp; omega)))⟩
        case round =>
          obtain ⟨j, hjl, rfl, hSh, hb⟩ := hrel
          have hzr2 := hb.size
          have h2a := HB2A.out.size
          by_cases hjk : j < k5
          · obtain ⟨b1, o1, x, rfl, hb1, hx, hcx⟩ := (HS5.out.below hb).at_ hjk
            obtain ⟨hx0, hx1⟩ := HIN5.out x (List.mem_of_getElem? hx)
            obtain ⟨a, rfl⟩ := Int.eq_ofNat_of_zero_le hx0
            have han : a < n3 := by omega
            obtain ⟨b2, o2, row, Ar, nr, cr, rfl, hb2l, hrw, hcr, hrr⟩ := HF.out.at_ han
            have hbw := HB2A.out.trans (hb.mono HB2A.out.size)
            have r1 : wr.cell? ⟨b1, o1 + j, none⟩ = some (.int .i64 a) := hcx
            have r2 : wr.cell? ⟨b2, o2 + a, none⟩ = some (.slice Ar nr cr) := (hbw.cell (p := ⟨b2, o2 + a, none⟩) hb2l).trans hcr
            have u1 : b1 < wr.heap.size := by omega
            have u2 : b2 < wr.heap.size := by omega
            have j0 : (0 : Int) ≤ (a : Int) := by omega
            have j1 : (a : Int) < (n3 : Int) := by omega
            have j2 : (0 : Int) ≤ (j : Int) := by omega
            have j3 : (j : Int) < (k5 : Int) := by omega
            have hne := rowsAt_take (L := L) hx (by simpa using hrw)
            have HNE := Lib.hid hne
            have hrr2 := hrr.below hbw
            obtain ⟨vs, hv1, hv2⟩ := hSh
            have hbm := hb
            clear hcx hcr hx hrw hrr hne hbw
            go_wp2_with (at_builtin; refine wpList_app1 wa wr rfl _ _ 25 rfl 28 i1 (.slice none 0 0) 24 Tryd.underlying25 hj hj0 hj1 hj2 rfl (by decide) wa.heap.size _ j _ (by rfl) hv1 (.slice Ar nr cr) rfl _ (by rfl) rfl (by omega) hbm hzr2 ?_; intro v8 w8 hO8 hb8 hg8)
            have hN := Shr.app (f := ILit) hv1 hv2 h2a hzr2 (Rsl.one hrr2) hO8 hg8
            rw [← HNE.out] at hN
            clear hv1 hv2 hrr2 hO8 hg8 r1 r2 hbm
            go_wp2_with fail
            go_roundw
            case rel => exact ⟨j + 1, by omega, by go_num, hN, hb8⟩
            case measure => simp [intOf]; omega
          · obtain rfl : j = k5 := by omega
            have htk : mv.take j = mv := List.take_of_length_le (by rw [HL5.out]; exact Nat.le_refl _)
            rw [htk] at hSh
            obtain ⟨A7, c7, rfl, hS7⟩ := hSh.sl2 (by omega)
            have CC := Lib.hid (covers_c A7 j c7 m (rowsAt L mv) wr _ hS7 (Nat.le_refl _) (fun ph hp => by
              obtain ⟨x, -, rfl⟩ := List.mem_map.1 hp
              rw [List.getD_eq_getElem?_getD]
              cases hx : L[x.toNat]? with
              | none => simp
              | some r =>
                have := HLN.out r (List.mem_of_getElem? hx)
                simp; omega) (by omega))
            have hbA := HBA.out.trans (hb.mono hza)
            have hbR := HB.out.trans (hbA.mono hzr)
            have HSB := Lib.hid (HSb.out.below hbA)
            have HS6 := Lib.hid (HS5.out.below hb)
            have HBR := Lib.hid hbR
            have hlb := HSB.out.len
            have hzx := hbA.size
            obtain ⟨X, hX⟩ : ∃ X, coverB m (rowsAt L mv) = X := ⟨_, rfl⟩
            rw [hX] at CC
            have hX2 : coverB m (rowsAt L (movesN L.length M)) = X := by rw [HL3.out, HMV.out]; exact hX
            clear hSh hS7 htk hb hbA hbR hX
            cases X
            · have HE := Lib.hid (best_no (.inl hX2))
              clear hX2
              go_wp2_with fail
              refine CC.out.mono ?_
              rintro e wc ⟨rfl, hbc⟩
              have hbn := HBR.out.trans (hbc.mono HBR.out.size)
              have hzc := hbc.size
              have hSn := (HSB.out.below (hbc.mono (by omega))).more (B' := wc.heap.size) (by omega)
              rw [← HE.out] at hSn
              clear hbc
              go_wp2_with fail
              go_roundw
              case rel => exact ⟨M + 1, Ab, nb, cb, by omega, by omega, by go_num, rfl, hSn, hbn⟩
              case measure => simp [intOf]; omega
            · have hbt : ∀ (u : Bool), betterB mv (bestF m L M) = u → betterB (movesN L.length M) (bestF m L M) = u := fun u h => by rw [HL3.out, HMV.out]; exact h
              have hyes := fun (h : betterB mv (bestF m L M) = true) => (best_yes hM1 hX2 (hbt _ h)).trans (by rw [HL3.out, HMV.out] : movesN L.length M = mv)
              have hno := fun (h : betterB mv (bestF m L M) = false) => best_no (m := m) (.inr (hbt _ h))
              have HYES := Lib.hid hyes
              have HNO := Lib.hid hno
              clear hX2 hbt hyes hno
              by_cases h0 : nb = 0
              · have g0 : ((nb : Int) == 0) = true := by simp; omega
                have g00 : (nb : Int) = 0 := by omega
                have HE := Lib.hid (HYES.out (better_zero (by rw [hlb]; exact h0)))
                go_wp2_with fail
                refine CC.out.mono ?_
                rintro e wc ⟨rfl, hbc⟩
                have hbn := HBR.out.trans (hbc.mono HBR.out.size)
                have hzc := hbc.size
                have hSn := (HS6.out.below (hbc.mono (by omega))).more (B' := wc.heap.size) (by omega)
                rw [← HE.out] at hSn
                clear hbc
                go_wp2_with fail
                go_roundw
                case rel => exact ⟨M + 1, A5, j, c5, by omega, by omega, by go_num, rfl, hSn, hbn⟩
                case measure => simp [intOf]; omega
              have g0 : ((nb : Int) == 0) = false := by simp; omega
              have g00 : ¬ (nb : Int) = 0 := by omega
              by_cases h1 : j < nb
              · have g1 : (j : Int) < (nb : Int) := by omega
                have HE := Lib.hid (HYES.out (better_lt (by rw [hlb, HL5.out]; exact h1)))
                go_wp2_with fail
                refine CC.out.mono ?_
                rintro e wc ⟨rfl, hbc⟩
                have hbn := HBR.out.trans (hbc.mono HBR.out.size)
                have hzc := hbc.size
                have hSn := (HS6.out.below (hbc.mono (by omega))).more (B' := wc.heap.size) (by omega)
                rw [← HE.out] at hSn
                clear hbc
                go_wp2_with fail
                go_roundw
                case rel => exact ⟨M + 1, A5, j, c5, by omega, by omega, by go_num, rfl, hSn, hbn⟩
                case measure => simp [intOf]; omega
              have g1 : ¬ (j : Int) < (nb : Int) := by omega
              by_cases h2 : j = nb
              · subst h2
                clear g1 h1
                have cl := fun wc (hbc : Below wr.heap.size wr wc) => lessInts_c A5 j c5 mv Ab j cb (bestF m L M) wc wc.heap.size ((HS6.out.below (hbc.mono (by omega))).more (B' := wc.heap.size) (by have := hbc.size; omega)) ((HSB.out.below (hbc.mono (by omega))).more (B' := wc.heap.size) (by have := hbc.size; omega)) (Nat.le_refl _)
                have hbe := better_eq (p := mv) (b := bestF m L M) (by rw [hlb]; exact h0) (by rw [hlb, HL5.out])
                obtain ⟨u, hu⟩ : ∃ u, lessL mv (bestF m L M) = u := ⟨_, rfl⟩
                rw [hu] at cl hbe
                have CL := Lib.hid cl
                clear cl hu
                cases u
                · have HE := Lib.hid (HNO.out hbe)
                  go_wp2_with fail
                  refine CC.out.mono ?_
                  rintro e wc ⟨rfl, hbc⟩
                  have hzc := hbc.size
                  go_wp2_with fail
                  refine (CL.out wc hbc).mono ?_
                  rintro e wd ⟨rfl, hbd⟩
                  have hbcd := hbc.trans (hbd.mono hzc)
                  have hzd := hbcd.size
                  have hbn := HBR.out.trans (hbcd.mono HBR.out.size)
                  have hSn := (HSB.out.below (hbcd.mono (by omega))).more (B' := wd.heap.size) (by omega)
                  rw [← HE.out] at hSn
                  clear hbc hbd hbcd
                  go_wp2_with fail
                  go_roundw
                  case rel => exact ⟨M + 1, Ab, j, cb, by omega, by omega, by go_num, rfl, hSn, hbn⟩
                  case measure => simp [intOf]; omega
                · have HE := Lib.hid (HYES.out hbe)
                  go_wp2_with fail
                  refine CC.out.mono ?_
                  rintro e wc ⟨rfl, hbc⟩
                  have hzc := hbc.size
                  go_wp2_with fail
                  refine (CL.out wc hbc).mono ?_
                  rintro e wd ⟨rfl, hbd⟩
                  have hbcd := hbc.trans (hbd.mono hzc)
                  have hzd := hbcd.size
                  have hbn := HBR.out.trans (hbcd.mono HBR.out.size)
                  have hSn := (HS6.out.below (hbcd.mono (by omega))).more (B' := wd.heap.size) (by omega)
                  rw [← HE.out] at hSn
                  clear hbc hbd hbcd
                  go_wp2_with fail
                  go_roundw
                  case rel => exact ⟨M + 1, A5, j, c5, by omega, by omega, by go_num, rfl, hSn, hbn⟩
                  case measure => simp [intOf]; omega
              · have g2' : ((j : Int) == (nb : Int)) = false := by simp; omega
                have g22 : ¬ (j : Int) = (nb : Int) := by omega
                have HE := Lib.hid (HNO.out (better_gt (by rw [hlb]; exact h0) (by rw [hlb, HL5.out]; omega)))
                go_wp2_with fail
                refine CC.out.mono ?_
                rintro e wc ⟨rfl, hbc⟩
                have hbn := HBR.out.trans (hbc.mono HBR.out.size)
                have hzc := hbc.size
                have hSn := (HSB.out.below (hbc.mono (by omega))).more (B' := wc.heap.size) (by omega)
                rw [← HE.out] at hSn
                clear hbc
                go_wp2_with fail
                go_roundw
                case rel => exact ⟨M + 1, Ab, nb, cb, by omega, by omega, by go_num, rfl, hSn, hbn⟩
                case measure => simp [intOf]; omega
      · obtain rfl : M = P := by omega
        have hrng := HIN.out M
        rw [HL3.out] at hrng
        have HBM := Lib.hid HBB.out
        obtain ⟨mv, hmv⟩ : ∃ mv, bestF m L M = mv := ⟨_, rfl⟩
        rw [hmv] at hSb hrng HBM
        have HS5 := Lib.hid hSb
        have HL5 := Lib.hid hSb.len
        have HNB : Hid (nb ≤ 1048576) := Lib.hid (by have h1 := hSb.len; have h2 := best_len m L M; have h3 := HL3.out; rw [hmv] at h2; omega)
        have HIN5 := Lib.hid hrng
        have HB2A := Lib.hid hb
        clear hSb hrng hb hmv
        obtain ⟨wz, rfl⟩ : ∃ wz, wz = wr := ⟨_, rfl⟩
        have hzz := HB2A.out.size
        go_wp2_with fail
        go_loopw [9, 10] (fun v i wr => ∃ j : Nat, j ≤ nb ∧ i = .int .i64 j ∧ Shr wr wz.heap.size w2.heap.size 28 ILit v j (rowsAt L (mv.take j)) ∧ Below wz.heap.size wz wr) (fun _ i _ => nb - (intOf i).toNat)
        case atStart => exact ⟨0, by omega, rfl, Shr.nil (World.ownsRow_made _ #[] 0 (Nat.le_refl _) (by decide) rfl), by (repeat' (first | (with_reducible exact Below.refl _ _) | (with_reducible assumption) | (with_reducible refine Below.alloc ?_ ?_ _) | (with_reducible refine below_plus ?_ ?_ _ _) | (with_reducible refine Below.drew ?_) | (with_reducible refine Below.setCell ?_ ?_ _) | (with_reducible refine below_adv ?_ ?_ _) | go_size | (simp; done) | (simp; omega)))⟩
        case round =>
          obtain ⟨j, hjl, rfl, hSh, hb⟩ := hrel
          have hzr2 := hb.size
          by_cases hjk : j < nb
          · obtain ⟨b1, o1, x, rfl, hb1, hx, hcx⟩ := (HS5.out.below hb).at_ hjk
            obtain ⟨hx0, hx1⟩ := HIN5.out x (List.mem_of_getElem? hx)
            obtain ⟨a, rfl⟩ := Int.eq_ofNat_of_zero_le hx0
            have han : a < n3 := by omega
            obtain ⟨b2, o2, row, Ar, nr, cr, rfl, hb2l, hrw, hcr, hrr⟩ := HF.out.at_ han
            have hbw := HB2A.out.trans (hb.mono HB2A.out.size)
            have r1 : wr.cell? ⟨b1, o1 + j, none⟩ = some (.int .i64 a) := hcx
            have r2 : wr.cell? ⟨b2, o2 + a, none⟩ = some (.slice Ar nr cr) := (hbw.cell (p := ⟨b2, o2 + a, none⟩) hb2l).trans hcr
            have u1 : b1 < wr.heap.size := by omega
            have u2 : b2 < wr.heap.size := by omega
            have j0 : (0 : Int) ≤ (a : Int) := by omega
            have j1 : (a : Int) < (n3 : Int) := by omega
            have j2 : (0 : Int) ≤ (j : Int) := by omega
            have j3 : (j : Int) < (nb : Int) := by omega
            have hne := rowsAt_take (L := L) hx (by simpa using hrw)
            have HNE := Lib.hid hne
            have hrr2 := hrr.below hbw
            have hbl : nb ≤ 1048576 := HNB.out
            obtain ⟨vs, hv1, hv2⟩ := hSh
            have hbm := hb
            clear hcx hcr hx hrw hrr hne hbw
            go_wp2_with (at_builtin; refine wpList_app1 wz wr rfl _ _ 25 rfl 28 i1 (.slice none 0 0) 24 Tryd.underlying25 hj hj0 hj1 hj2 rfl (by decide) wz.heap.size _ j _ (by rfl) hv1 (.slice Ar nr cr) rfl _ (by rfl) rfl (by omega) hbm hzr2 ?_; intro v8 w8 hO8 hb8 hg8)
            have hN := Shr.app (f := ILit) hv1 hv2 hzz hzr2 (Rsl.one hrr2) hO8 hg8
            rw [← HNE.out] at hN
            clear hv1 hv2 hrr2 hO8 hg8 r1 r2 hbm
            go_wp2_with fail
            go_roundw
            case rel => exact ⟨j + 1, by omega, by go_num, hN, hb8⟩
            case measure => simp [intOf]; omega
          · obtain rfl : j = nb := by omega
            have htk : mv.take j = mv := List.take_of_length_le (by rw [HL5.out]; exact Nat.le_refl _)
            rw [htk, HBM.out] at hSh
            obtain ⟨A7, c7, rfl, hS7⟩ := hSh.sl2 (by omega)
            have HS7 := Lib.hid hS7
            have hbf := HB02.out.trans ((HB2A.out.trans (hb.mono HB2A.out.size)).mono hz2)
            clear hSh hS7 htk hb
            go_wp2_with fail
            go_ret
            exact ⟨A7, j, c7, rfl, HS7.out, hbf⟩
end Go.Proofs.YtfdlcphiidfkcaaDoor
