/- ValidPhase: what it computes, in the program and in the reference. -/
import Derived.Test.YtlpbmnmhpknppaaPa4
set_option linter.unusedVariables false
set_option linter.unusedSimpArgs false
namespace Go.Proofs.Ytlpbmnmhpknppaa
open Go.RowKit

theorem ascB_all {ph : List Int} {m : Nat} (h : ascB ph 0 ((m : Int) - 1) = true) : ∀ x ∈ ph, 0 ≤ x ∧ x < m := fun x hx => by
  simp only [ascB, Bool.and_eq_true] at h
  have := allB_all h.2 x hx
  omega

theorem phaseF_no {t : List (List Bool)} {ph : List Int} (h : tOk t = false) : phaseF t ph = false := by simp [phaseF, h]
theorem phaseF_yes {t : List (List Bool)} {ph : List Int} (h : tOk t = true) : phaseF t ph = phOk t ph := by simp [phaseF, h]
set_option maxHeartbeats 2000000 in
theorem validPhase_c (At : Option Addr) (m ct : Nat) (t : List (List Bool)) (A : Option Addr) (n c : Nat) (ph : List Int) (w : World) (B : Nat) (hT : Sl2 w B OLit At m ct t) (hS : Sl w B ILit A n c ph) (hB : B ≤ w.heap.size) (hn : n ≤ 1099511627776) :
    Calls Try.prog 79 #[.slice At m ct, .slice A n c] w fun e w' => e = .returned (.bool (phaseF t ph)) ∧ Below w.heap.size w w' := by
  have hl := hT.len
  obtain ⟨hc0, hc1⟩ := hS.cap
  obtain ⟨hd0, hd1⟩ := hT.cap
  have ca := validConflicts_c At m ct t w B hT hB
  have HL := Lib.hid hS.len
  have hS0 := hS.more hB
  have hT0 := hT.more hB
  clear hS hT
  cases hp : tOk t
  · have HE : Hid (phaseF t ph = false) := Lib.hid (phaseF_no hp)
    rw [hp] at ca
    have CA := Lib.hid ca
    clear ca hp hl hS0 hT0
    go_enter Try.func79, Try.ntmps79
    go_wp2_with fail
    refine CA.out.mono ?_
    rintro e w1 ⟨rfl, hb1⟩
    go_wp2_with fail
    go_ret
    exact ⟨by rw [HE.out]; rfl, hb1⟩
  · have h8 := (tOk_iff.1 hp).2.1
    have hsq := (tOk_iff.1 hp).2.2.1
    rw [hl] at h8
    have HSQ := Lib.hid hsq
    have cm := fun w' (hb : Below w.heap.size w w') => validMoves_c A n c ph m w' _ (hS0.below hb) hb.size hn (by omega) (by omega)
    rw [hp] at ca
    have CA := Lib.hid ca
    cases hq : ascB ph 0 ((m : Int) - 1)
    · have HE : Hid (phaseF t ph = false) := Lib.hid (by rw [phaseF_yes hp, phOk, hl, hq]; rfl)
      rw [hq] at cm
      have CM := Lib.hid cm
      clear ca cm hp hq hl hS0 hT0 hsq
      go_enter Try.func79, Try.ntmps79
      go_wp2_with fail
      refine CA.out.mono ?_
      rintro e w1 ⟨rfl, hb1⟩
      have hz1 := hb1.size
      go_wp2_with fail
      refine (CM.out w1 hb1).mono ?_
      rintro e w2 ⟨rfl, hb2⟩
      go_wp2_with fail
      go_ret
      exact ⟨by rw [HE.out]; rfl, hb1.trans (hb2.mono hz1)⟩
    · have HF : Hid (phaseF t ph = clearB t ph) := Lib.hid (by rw [phaseF_yes hp, phOk, hl, hq]; rfl)
      have HIN := Lib.hid (ascB_all hq)
      rw [hq] at cm
      have CM := Lib.hid cm
      clear ca cm hp hq hl hsq
      go_enter Try.func79, Try.ntmps79
      go_wp2_with fail
      refine CA.out.mono ?_
      rintro e w1 ⟨rfl, hb1⟩
      have hz1 := hb1.size
      go_wp2_with fail
      refine (CM.out w1 hb1).mono ?_
      rintro e w2 ⟨rfl, hb2⟩
      have hb02 := hb1.trans (hb2.mono hz1)
      clear CA CM hb1 hb2 hz1
      go_wp2_with fail
      go_loopw [21] (fun i wr => ∃ (k : Nat), k ≤ n ∧ i = .int .i64 k ∧ Hid ((ph.take k).Pairwise (fun a b => tAt t b.toNat a.toNat = false)) ∧ Below w.heap.size w wr) (fun i _ => n - (intOf i).toNat)
      case atStart => exact ⟨0, by omega, rfl, Lib.hid List.Pairwise.nil, hb02⟩
      case round =>
        clear hb02
        obtain ⟨i, hi, rfl, hpw, hb⟩ := hrel
        have hzr := hb.size
        by_cases hlt : i < n
        · obtain ⟨b, o, x, rfl, hbl, hx, hcx⟩ := (hS0.below hb).at_ hlt
          obtain ⟨hx0, hxm⟩ := HIN.out x (List.mem_of_getElem? hx)
          obtain ⟨x, rfl⟩ := Int.eq_ofNat_of_zero_le hx0
          obtain ⟨bt, ot, b1, o1, c1, rx, rfl, hbt, hb1, hrx, hrxl, hrxc, hcr, hrow⟩ := (hT0.below hb).entry HSQ.out (a := x) (by omega)
          have HX := Lib.hid hx
          have HRX := Lib.hid hrx
          have HRL := Lib.hid hrxl
          have HROW := Lib.hid hrow
          have hcx' : wr.cell? ⟨b, o + i, none⟩ = some (.int .i64 (x : Int)) := hcx
          have HCR : Hid (wr.cell? ⟨bt, ot + x, none⟩ = some (.slice (some ⟨b1, o1, none⟩) m c1)) := Lib.hid hcr
          have hS1 := (hS0.below hb).more hzr
          have hbtw : bt < wr.heap.size := by omega
          have hb1w : b1 < wr.heap.size := by omega
          clear hx hrx hrow hcx hcr hrxl
          go_wp2_with fail
          obtain ⟨wo, rfl⟩ : ∃ wo : World, wo = wr := ⟨_, rfl⟩
          clear hcx'
          go_loopw [30] (fun kk wr => ∃ (k : Nat), k ≤ i ∧ kk = .int .i64 k ∧ Hid (∀ j (y : Int), j < k → ph[j]? = some y → tAt t x y.toNat = false) ∧ Below wo.heap.size wo wr) (fun kk _ => i - (intOf kk).toNat)
          case atStart => exact ⟨0, by omega, rfl, Lib.hid fun j y h => absurd h (by omega), Below.refl _ _⟩
          case round =>
            obtain ⟨k, hk, rfl, hcl, hb2⟩ := hrel
            have hzr2 := hb2.size
            by_cases hki : k < i
            · obtain ⟨b', o', y, hA, -, hy, hcy⟩ := (hS1.below hb2).at_ (k := k) (by omega)
              simp only [Option.some.injEq, Addr.mk.injEq, and_true] at hA
              obtain ⟨rfl, rfl⟩ := hA
              obtain ⟨hy0, hym⟩ := HIN.out y (List.mem_of_getElem? hy)
              obtain ⟨y, rfl⟩ := Int.eq_ofNat_of_zero_le hy0
              obtain ⟨z, hz⟩ : ∃ z, rx[y]? = some z := ⟨_, List.getElem?_eq_getElem (by rw [HRL.out]; omega)⟩
              have ht := tAt_of HRX.out hz
              have e2 : wr.cell? ⟨bt, ot + x, none⟩ = some (.slice (some ⟨b1, o1, none⟩) m c1) := (hb2.cell (p := ⟨bt, ot + x, none⟩) hbtw).trans HCR.out
              have e3 : wr.cell? ⟨b1, o1 + y, none⟩ = some (.bool z) := (hb2.cell (p := ⟨b1, o1 + y, none⟩) hb1w).trans (HROW.out y z hz)
              have e4 : wr.cell? ⟨b, o + k, none⟩ = some (.int .i64 (y : Int)) := hcy
              cases z
              · have hn2 : Hid (∀ j (y : Int), j < k + 1 → ph[j]? = some y → tAt t x y.toNat = false) := Lib.hid fun j y' h hy' => by
                  rcases Nat.lt_or_ge j k with h1 | h1
                  · exact hcl.out j y' h1 hy'
                  · obtain rfl : j = k := by omega
                    rw [hy] at hy'
                    injection hy' with hy'
                    rw [← hy']; simpa using ht
                clear hcy hy hz ht hcl
                go_wp2_with fail
                go_roundw
                case rel => exact ⟨k + 1, by omega, by go_num, hn2, hb2⟩
                case measure => simp [intOf]; omega
              · have HE := Lib.hid (clearB_bad (t := t) hki HX.out hy ht)
                have hbz := hb.trans (hb2.mono hzr)
                clear hcy hy hz ht hcl
                go_wp2_with fail
                go_ret
                exact ⟨by rw [HF.out, HE.out]; rfl, hbz⟩
            · obtain rfl : k = i := by omega
              have hn2 := Lib.hid (clear_row HX.out hpw.out (fun j y h hy => hcl.out j y h hy))
              clear hcl hpw
              go_wp2_with fail
              go_roundw
              case rel => exact ⟨k + 1, by omega, by go_num, hn2.out, hb.trans (hb2.mono hzr)⟩
              case measure => simp [intOf]; omega
        · have HE := Lib.hid (clearB_yes (by
            have := hpw.out
            rwa [List.take_of_length_le (by rw [HL.out]; omega)] at this))
          clear hpw
          go_wp2_with fail
          go_ret
          exact ⟨by rw [HF.out, HE.out]; rfl, hb⟩
end Go.Proofs.Ytlpbmnmhpknppaa
