/- FewestPhases of the program, walked. -/
import Derived.Test.YtfdlcphiidfkcaaDoorFg2
import Derived.Test.YtfdlcphiidfkcaaDoorFg3
import Derived.Test.YtfdlcphiidfkcaaDoorFc3
set_option linter.unusedVariables false
set_option linter.unusedSimpArgs false
namespace Go.Proofs.YtfdlcphiidfkcaaDoor
open Go.RowKit

section
variable {w : World} {lo hi E2 E n c : Nat} {A : Option Addr} {xss : List (List Int)}
theorem Ow2.zof (h : Ow2 w lo hi E2 E ILit A n c xss) : ∃ Z : List (T3 × List Int), Z.map Prod.snd = xss ∧ ZSl w w.heap.size A n c Z ∧ Rws w lo hi E ILit ((Z.map Prod.fst).map SLit) (Z.map Prod.snd) := by
  obtain ⟨vs, h1, h2, -⟩ := h
  have hR : Rsl w w.heap.size ILit vs xss := ⟨h2.1, fun j u xs hu hx => by
    obtain ⟨A', n', c', e, o, -⟩ := h2.2.1 j u xs hu hx
    exact ⟨A', n', c', e, o.sl⟩⟩
  have hm := hR.tripled
  have hl : (vs.map triple).length = xss.length := by simp [h2.1]
  obtain ⟨ts, hts⟩ : ∃ ts, vs.map triple = ts := ⟨_, rfl⟩
  rw [hts] at hm hl
  have e1 : (ts.zip xss).map Prod.fst = ts := List.map_fst_zip (by omega)
  have e2 : (ts.zip xss).map Prod.snd = xss := List.map_snd_zip (by omega)
  refine ⟨ts.zip xss, e2, ⟨?_, fun p hp => ?_⟩, by rw [e1, e2, hm]; exact h2⟩
  · rw [e1]
    have hs := h1.sl
    refine ⟨by rw [hl, ← h2.1]; exact hs.len, hs.cap.1, hs.cap.2, fun hn => ?_⟩
    obtain ⟨b, o, hA, hb, hc⟩ := hs.2.2.2 hn
    refine ⟨b, o, hA, hb, fun j x hx => ?_⟩
    have hx2 : (ts.map SLit)[j]? = some (SLit x) := by rw [List.getElem?_map, hx]; rfl
    rw [hm] at hx2
    exact hc j _ hx2
  · obtain ⟨i, hi⟩ := List.getElem?_of_mem hp
    have f1 : ts[i]? = some p.1 := by rw [← e1, List.getElem?_map, hi]; rfl
    have f2 : xss[i]? = some p.2 := by rw [← e2, List.getElem?_map, hi]; rfl
    have f3 : vs[i]? = some (SLit p.1) := by rw [← hm, List.getElem?_map, f1]; rfl
    obtain ⟨A', n', c', e, o⟩ := hR.2 i _ _ f3 f2
    injection e with e e' e''
    subst e e' e''
    exact o
theorem Rws.sub {Z O : List (T3 × List Int)} (h : Rws w lo hi E ILit ((Z.map Prod.fst).map SLit) (Z.map Prod.snd)) (hs : O.Sublist Z) : Rws w lo hi E ILit ((O.map Prod.fst).map SLit) (O.map Prod.snd) := by
  refine ⟨by simp, fun j v xs hv hx => ?_, h.2.2.sublist ((hs.map _).map _)⟩
  rw [List.map_map, List.getElem?_map] at hv
  rw [List.getElem?_map] at hx
  cases hO : O[j]? with
  | none => rw [hO] at hx; cases hx
  | some p =>
    rw [hO] at hv hx
    injection hv with hv
    injection hx with hx
    subst hv hx
    obtain ⟨i, hi⟩ := List.getElem?_of_mem (hs.subset (List.mem_of_getElem? hO))
    exact h.2.1 i _ _ (by rw [List.map_map, List.getElem?_map, hi]; rfl) (by rw [List.getElem?_map, hi]; rfl)
end

set_option maxRecDepth 4000 in
set_option maxHeartbeats 8000000 in
theorem fewestPhases_c (At : Option Addr) (n ct : Nat) (t : List (List Bool)) (w : World) (B : Nat) (hT : Sl2 w B OLit At n ct t) (hB : B ≤ w.heap.size) (hTab : TabB w) :
    Calls Tryd.prog 12 #[.slice At n ct] w (OwIntSS w (fewL t)) := by
  have htl := hT.len
  obtain ⟨hc0, hc1⟩ := hT.cap
  have CF := Lib.hid (fullPhases_c At n ct t w B hT hB hTab)
  have hnq := fun w' a l c => Go.run_neq_slice_nil_any (P := Tryd.prog) w' 25 28 a l c 0 0 Tryd.underlying25
  clear hT hTab
  go_enter Tryd.func12, Tryd.ntmps12
  go_wp2_with fail
  refine CF.out.mono ?_
  rintro e w1 ⟨A3, n3, c3, rfl, hO3, hb1⟩
  have hz1 := hb1.size
  have hl3 := hO3.len
  obtain ⟨Z, hZ2, hZ, hR⟩ := hO3.zof
  obtain ⟨hc30, hc31⟩ := hO3.cap
  have HB1 := Lib.hid hb1
  clear hO3 CF hb1
  by_cases h0 : n3 = 0
  · have HE : Hid (fewL t = []) := Lib.hid (by rw [fewL, if_pos (.inl (by omega))])
    have g0 : (n3 : Int) = 0 := by omega
    have g1 : ((n3 : Int) == 0) = true := by simp [g0]
    clear hZ hR hZ2
    go_wp2_with fail
    go_ret
    exact ⟨none, 0, 0, rfl, by rw [HE.out]; exact Ow2.nil _ _ _ _ _ _, HB1.out⟩
  have g1 : ((n3 : Int) == 0) = false := by simp; omega
  by_cases h12 : 12 < n3
  · have HE : Hid (fewL t = []) := Lib.hid (by rw [fewL, if_pos (.inr (by omega))])
    have g2 : (12 : Int) < (n3 : Int) := by omega
    clear hZ hR hZ2
    go_wp2_with fail
    go_ret
    exact ⟨none, 0, 0, rfl, by rw [HE.out]; exact Ow2.nil _ _ _ _ _ _, HB1.out⟩
  have g2 : ¬ (12 : Int) < (n3 : Int) := by omega
  have g3 : (n3 : Int) ≤ 12 := by omega
  have hok : tOk t = true := fullL_ok (by omega)
  obtain ⟨hk1, hk8, hsq, -⟩ := tOk_iff.1 hok
  rw [htl] at hk1 hk8
  have hP1 : 2 ≤ 2 ^ n := by
    have : 2 ^ 1 ≤ 2 ^ n := Nat.pow_le_pow_right (by omega) hk1
    omega
  have hP2 : 2 ^ n ≤ 2 ^ 8 := Nat.pow_le_pow_right (by omega) hk8
  have hpw : (2 : Int) ^ n = ((2 ^ n : Nat) : Int) := by simp
  obtain ⟨P, hP⟩ : ∃ P, 2 ^ n = P := ⟨_, rfl⟩
  rw [hP] at hP1 hP2 hpw
  obtain ⟨Q, hQ⟩ : ∃ Q, P - 1 = Q := ⟨_, rfl⟩
  have hpw2 : IntKind.u64.wrap ((P : Nat) : Int) = P := by rw [IntKind.wrap_u64]; omega
  have hpw3 : IntKind.u64.wrap ((P : Int) - 1) = (Q : Int) := by rw [IntKind.wrap_u64]; omega
  have hf := fewL_of hZ2 (by omega)
  rw [htl, hP, hQ, hl3] at hf
  have HF := Lib.hid hf
  have HZ := Lib.hid hZ
  have HR := Lib.hid hR
  have HIN : Hid (∀ p ∈ Z, ∀ x ∈ p.2, 0 ≤ x ∧ x < ((8 : Nat) : Int)) := Lib.hid (fun p hp x hx => by
    have hm : p.2 ∈ fullL t := by rw [← hZ2]; exact List.mem_map.2 ⟨p, hp, rfl⟩
    have := full_in hok hm x hx
    omega)
  have hCW := fun k (hk : k ≤ n3) w' (hb : Below w1.heap.size w1 w') => coverWith_c k A3 n3 c3 Z Q w' w1.heap.size (HZ.out.below hb) hb.size HIN.out (by omega) (by omega) (by omega)
  have HCW := Lib.hid hCW
  clear hf hZ hR hZ2 hsq hok hP hCW hl3
  go_wp2_with fail
  clear hpw hpw2 hpw3
  go_loopw [5] (fun i wr => ∃ k : Nat, k ≤ n3 ∧ i = .int .i64 ((k + 1 : Nat) : Int) ∧ Hid (fewC Z Q k = none) ∧ Below w1.heap.size w1 wr) (fun i _ => n3 + 1 - (intOf i).toNat)
  case atStart => exact ⟨0, by omega, rfl, Lib.hid rfl, Below.refl _ _⟩
  case round =>
    obtain ⟨k, hk, rfl, hno, hb⟩ := hrel
    have hzr := hb.size
    obtain ⟨q, hq⟩ : ∃ q, k + 1 = q := ⟨_, rfl⟩
    rw [hq]
    by_cases hlt : k < n3
    · have hq3 : (q : Int) ≤ (n3 : Int) := by omega
      have hcw := HCW.out q (by omega) wr hb
      have hst : fewC Z Q q = cwP Z Q q := by rw [← hq, fewC, hno.out]
      obtain ⟨r, hr⟩ : ∃ r, cwP Z Q q = r := ⟨_, rfl⟩
      rw [hr] at hcw hst
      have CW := Lib.hid hcw
      have HB := Lib.hid hb
      clear hcw hb hno
      go_wp2_with fail
      refine CW.out.mono ?_
      rintro e wa hch
      cases r with
      | none =>
        obtain ⟨rfl, hba⟩ := hch
        have hbn := HB.out.trans (hba.mono hzr)
        have HST := Lib.hid hst
        clear hba hst hr
        go_wp2_with fail
        go_roundw
        case rel => exact ⟨q, by omega, by go_num, HST, hbn⟩
        case measure => simp [intOf]; omega
      | some O =>
        obtain ⟨g, cap, rfl, hO, hba⟩ := hch
        have hbn := HB.out.trans (hba.mono hzr)
        have hfin := fewC_stay hst (show q ≤ n3 by omega)
        have HE : Hid (fewL t = O.map Prod.snd) := Lib.hid (by rw [HF.out, hfin])
        have hs := (cwP_sound hr).1
        have hR := ((HR.out.sub hs).below (Nat.le_refl _) hbn).more hbn.size
        have hO' : wa.ownsRow wr.heap.size 28 1 (.slice (some ⟨g, 0, none⟩) O.length cap) O.length ((((O.map Prod.fst).map SLit)).map id) := by simpa using hO
        obtain ⟨A9, c9, e9, hO9⟩ := Ow.of_own hO'
        injection e9 with e9 e9' e9''
        subst e9 e9''
        have hblk : ∀ b o, (some ⟨g, 0, none⟩ : Option Addr) = some ⟨b, o, none⟩ → b < wa.heap.size := fun b o hA => by
          injection hA with hA
          injection hA with hA
          subst hA
          exact (hO.lt g rfl).2
        have HFIN : Hid (Ow2 wa w.heap.size wa.heap.size 28 3 ILit (some ⟨g, 0, none⟩) O.length cap (O.map Prod.snd)) := Lib.hid ⟨_, hO9.mono (by omega), hR, hblk⟩
        have hbw := HB1.out.trans (hbn.mono hz1)
        clear hO hO' hO9 hR hba hfin hst hr hs hblk
        go_wp2_with fail
        go_ret
        exact ⟨some ⟨g, 0, none⟩, O.length, cap, rfl, by rw [HE.out]; exact HFIN.out, hbw⟩
    · obtain rfl : k = n3 := by omega
      have hq3 : ¬ (q : Int) ≤ (k : Int) := by omega
      have HE : Hid (fewL t = []) := Lib.hid (by rw [HF.out, hno.out])
      have hbw := HB1.out.trans (hb.mono hz1)
      clear hno hb
      go_wp2_with fail
      go_ret
      exact ⟨none, 0, 0, rfl, by rw [HE.out]; exact Ow2.nil _ _ _ _ _ _, hbw⟩
end Go.Proofs.YtfdlcphiidfkcaaDoor
