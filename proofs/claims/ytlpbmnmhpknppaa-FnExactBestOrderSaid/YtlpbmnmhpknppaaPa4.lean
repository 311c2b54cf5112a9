/- ValidPhase: what it computes, in the program and in the reference. -/
import Derived.Test.YtlpbmnmhpknppaaPa2
import Derived.IntWalk
set_option linter.unusedVariables false
set_option linter.unusedSimpArgs false
namespace Go.Proofs.Ytlpbmnmhpknppaa
open Go.RowKit

theorem ascB_asc {ph : List Int} {lo hi : Int} (h : ¬ ph.Pairwise (fun a b => a < b)) : ascB ph lo hi = false := by simp [ascB, h]
theorem ascB_yes {ph : List Int} {lo hi : Int} (h : ph.Pairwise (fun a b => a < b)) : ascB ph lo hi = allB ph lo hi := by simp [ascB, h]
theorem ascB_out {ph : List Int} {lo hi : Int} (h : allB ph lo hi = false) : ascB ph lo hi = false := by simp [ascB, h]
theorem ascB_in {ph : List Int} {lo hi : Int} (h : allB ph lo hi = true) (h2 : ph.Pairwise (fun a b => a < b)) : ascB ph lo hi = true := by simp [ascB, h, h2]

set_option maxHeartbeats 1000000 in
theorem validMoves_c (A : Option Addr) (n c : Nat) (ph : List Int) (m : Int) (w : World) (B : Nat) (hS : Sl w B ILit A n c ph) (hB : B ≤ w.heap.size) (hn : n ≤ 1099511627776) (hm0 : 0 ≤ m) (hm : m ≤ 1048576) :
    Calls Try.prog 84 #[.slice A n c, .int .i64 m] w fun e w' => e = .returned (.bool (ascB ph 0 (m - 1))) ∧ Below w.heap.size w w' := by
  obtain ⟨hc0, hc1⟩ := hS.cap
  have HL := Lib.hid hS.len
  have hS0 := hS.more hB
  have ca := allWithin_c A n c ph 0 (m - 1) w B hS hB hn
  cases hp : allB ph 0 (m - 1)
  · rw [hp] at ca
    have CA := Lib.hid ca
    have HE := Lib.hid (ascB_out hp)
    clear ca hp hS hS0
    go_enter Try.func84, Try.ntmps84
    go_wp2_with fail
    refine CA.out.mono ?_
    rintro e w1 ⟨rfl, hb1⟩
    go_wp2_with fail
    go_ret
    exact ⟨by rw [HE.out]; rfl, hb1⟩
  · rw [hp] at ca
    have CA := Lib.hid ca
    have HP := Lib.hid hp
    clear ca hp hS
    go_enter Try.func84, Try.ntmps84
    go_wp2_with fail
    refine CA.out.mono ?_
    rintro e w1 ⟨rfl, hb1⟩
    have hz1 := hb1.size
    go_wp2_with fail
    go_loopw [5] (fun i wr => ∃ (k : Nat), (k + 1 ≤ n ∨ k = 0) ∧ i = .int .i64 ((k : Int) + 1) ∧ Hid ((ph.take (k + 1)).Pairwise (fun a b => a < b)) ∧ Below w.heap.size w wr) (fun i _ => n - (intOf i).toNat)
    case atStart =>
      refine ⟨0, .inr rfl, rfl, Lib.hid ?_, hb1⟩
      cases ph with
      | nil => exact List.Pairwise.nil
      | cons x r => exact List.pairwise_singleton _ _
    case round =>
      clear hb1 hz1
      obtain ⟨k, hk, rfl, hasc, hb⟩ := hrel
      have hzr := hb.size
      by_cases hlt : k + 1 < n
      · obtain ⟨b, o, x, rfl, hbl, hx, hcx⟩ := (hS0.below hb).at_ (k := k) (by omega)
        obtain ⟨b2, o2, y, hA, -, hy, hcy⟩ := (hS0.below hb).at_ (k := k + 1) hlt
        simp only [Option.some.injEq, Addr.mk.injEq, and_true] at hA
        obtain ⟨rfl, rfl⟩ := hA
        have cx : wr.cell? ⟨b, o + k, none⟩ = some (.int .i64 x) := hcx
        have cy : wr.cell? ⟨b, o + (k + 1), none⟩ = some (.int .i64 y) := hcy
        have hbw : b < wr.heap.size := by omega
        have k0 : (0 : Int) ≤ (k : Int) + 1 := by omega
        have k1 : (k : Int) + 1 < (n : Int) := by omega
        have k2 : (0 : Int) ≤ (k : Int) := by omega
        have k3 : (k : Int) < (n : Int) := by omega
        by_cases hxy : x < y
        · have hn2 := Lib.hid (asc_snoc hx hy hasc.out hxy)
          have hd : decide (x ≥ y) = false := by simp; omega
          have hd2 : decide (y ≤ x) = false := by simp; omega
          clear hcx hcy hx hy hasc
          go_wp2_with fail
          refine wp_region_plus (by kernel_rfl) (by kernel_rfl) ?_; (repeat (go_big_quiet_step (fail))); refine wpQuiet_nil ?_; intro _ hw'; obtain ⟨⟨osq, dq⟩, hw''⟩ := hw'; subst hw''
          go_wp2_with fail
          go_roundw
          case rel => exact ⟨k + 1, .inl (by omega), by go_num, hn2.out, by (repeat' (first | (with_reducible exact Below.refl _ _) | (with_reducible assumption) | (with_reducible refine Below.alloc ?_ ?_ _) | (with_reducible refine below_plus ?_ ?_ _ _) | (with_reducible refine Below.drew ?_) | (with_reducible refine Below.setCell ?_ ?_ _) | (with_reducible refine below_adv ?_ ?_ _) | go_size | (simp; done) | (simp; omega)))⟩
          case measure => simp [intOf]; omega
        · have HE := Lib.hid (ascB_asc (lo := 0) (hi := m - 1) (pw_bad (i := k + 1) (k := k) (by omega) hx hy hxy))
          have hd : decide (x ≥ y) = true := by simp; omega
          have hd2 : decide (y ≤ x) = true := by simp; omega
          clear hcx hcy hx hy hasc
          go_wp2_with fail
          refine wp_region_plus (by kernel_rfl) (by kernel_rfl) ?_; (repeat (go_big_quiet_step (fail))); refine wpQuiet_nil ?_; intro _ hw'; obtain ⟨⟨osq, dq⟩, hw''⟩ := hw'; subst hw''
          go_wp2_with fail
          go_ret
          exact ⟨by rw [HE.out]; rfl, by (repeat' (first | (with_reducible exact Below.refl _ _) | (with_reducible assumption) | (with_reducible refine Below.alloc ?_ ?_ _) | (with_reducible refine below_plus ?_ ?_ _ _) | (with_reducible refine Below.drew ?_) | (with_reducible refine Below.setCell ?_ ?_ _) | (with_reducible refine below_adv ?_ ?_ _) | go_size | (simp; done) | (simp; omega)))⟩
      · have HE := Lib.hid (ascB_in HP.out (by
          have := hasc.out
          rwa [List.take_of_length_le (by rw [HL.out]; omega)] at this))
        clear hasc
        go_wp2_with fail
        go_ret
        exact ⟨by rw [HE.out]; rfl, hb⟩
set_option maxHeartbeats 1000000 in
theorem ascending_c (A : Option Addr) (n c : Nat) (ph : List Int) (lo hi : Int) (w : World) (B : Nat) (hS : Sl w B ILit A n c ph) (hB : B ≤ w.heap.size) (hn : n ≤ 1099511627776) :
    Calls Try.prog 76 #[.slice A n c, .int .i64 lo, .int .i64 hi] w fun e w' => e = .returned (.bool (ascB ph lo hi)) ∧ Below w.heap.size w w' := by
  obtain ⟨hc0, hc1⟩ := hS.cap
  have HL := Lib.hid hS.len
  have hS0 := hS.more hB
  clear hS
  go_enter Try.func76, Try.ntmps76
  go_wp2_with fail
  go_loopw [7] (fun i wr => ∃ (k : Nat), (k + 1 ≤ n ∨ k = 0) ∧ i = .int .i64 ((k : Int) + 1) ∧ Hid ((ph.take (k + 1)).Pairwise (fun a b => a < b)) ∧ Below w.heap.size w wr) (fun i _ => n - (intOf i).toNat)
  case atStart =>
    refine ⟨0, .inr rfl, rfl, Lib.hid ?_, Below.refl _ _⟩
    cases ph with
    | nil => exact List.Pairwise.nil
    | cons x r => exact List.pairwise_singleton _ _
  case round =>
    obtain ⟨k, hk, rfl, hasc, hb⟩ := hrel
    have hzr := hb.size
    by_cases hlt : k + 1 < n
    · obtain ⟨b, o, x, rfl, hbl, hx, hcx⟩ := (hS0.below hb).at_ (k := k) (by omega)
      obtain ⟨b2, o2, y, hA, -, hy, hcy⟩ := (hS0.below hb).at_ (k := k + 1) hlt
      simp only [Option.some.injEq, Addr.mk.injEq, and_true] at hA
      obtain ⟨rfl, rfl⟩ := hA
      have cx : wr.cell? ⟨b, o + k, none⟩ = some (.int .i64 x) := hcx
      have cy : wr.cell? ⟨b, o + (k + 1), none⟩ = some (.int .i64 y) := hcy
      have hbw : b < wr.heap.size := by omega
      have k0 : (0 : Int) ≤ (k : Int) + 1 := by omega
      have k1 : (k : Int) + 1 < (n : Int) := by omega
      have k2 : (0 : Int) ≤ (k : Int) := by omega
      have k3 : (k : Int) < (n : Int) := by omega
      by_cases hxy : x < y
      · have hn2 := Lib.hid (asc_snoc hx hy hasc.out hxy)
        have hd2 : decide (y ≤ x) = false := by simp; omega
        clear hcx hcy hx hy hasc
        go_wp2_with fail
        refine wp_region_plus (by kernel_rfl) (by kernel_rfl) ?_; (repeat (go_big_quiet_step (fail))); refine wpQuiet_nil ?_; intro _ hw'; obtain ⟨⟨osq, dq⟩, hw''⟩ := hw'; subst hw''
        go_wp2_with fail
        go_roundw
        case rel => exact ⟨k + 1, .inl (by omega), by go_num, hn2.out, by (repeat' (first | (with_reducible exact Below.refl _ _) | (with_reducible assumption) | (with_reducible refine Below.alloc ?_ ?_ _) | (with_reducible refine below_plus ?_ ?_ _ _) | (with_reducible refine Below.drew ?_) | (with_reducible refine Below.setCell ?_ ?_ _) | (with_reducible refine below_adv ?_ ?_ _) | go_size | (simp; done) | (simp; omega)))⟩
        case measure => simp [intOf]; omega
      · have HE := Lib.hid (ascB_asc (lo := lo) (hi := hi) (pw_bad (i := k + 1) (k := k) (by omega) hx hy hxy))
        have hd2 : decide (y ≤ x) = true := by simp; omega
        clear hcx hcy hx hy hasc
        go_wp2_with fail
        refine wp_region_plus (by kernel_rfl) (by kernel_rfl) ?_; (repeat (go_big_quiet_step (fail))); refine wpQuiet_nil ?_; intro _ hw'; obtain ⟨⟨osq, dq⟩, hw''⟩ := hw'; subst hw''
        go_wp2_with fail
        go_ret
        exact ⟨by rw [HE.out]; rfl, by (repeat' (first | (with_reducible exact Below.refl _ _) | (with_reducible assumption) | (with_reducible refine Below.alloc ?_ ?_ _) | (with_reducible refine below_plus ?_ ?_ _ _) | (with_reducible refine Below.drew ?_) | (with_reducible refine Below.setCell ?_ ?_ _) | (with_reducible refine below_adv ?_ ?_ _) | go_size | (simp; done) | (simp; omega)))⟩
    · have ca := allIn_c A n c ph lo hi wr _ (hS0.below hb) hzr hn
      have HE := Lib.hid (ascB_yes (lo := lo) (hi := hi) (ph := ph) (by
        have := hasc.out
        rwa [List.take_of_length_le (by rw [HL.out]; omega)] at this))
      have CA := Lib.hid ca
      clear hasc ca
      go_wp2_with fail
      refine CA.out.mono ?_
      rintro e w1 ⟨rfl, hb1⟩
      go_wp2_with fail
      go_ret
      exact ⟨by rw [HE.out]; rfl, hb.trans (hb1.mono hzr)⟩

theorem clearB_bad {t : List (List Bool)} {ph : List Int} {i k x y : Nat} (hk : k < i) (hx : ph[i]? = some (x : Int)) (hy : ph[k]? = some (y : Int)) (h : tAt t x y = true) : clearB t ph = false := by
  rw [clearB, decide_eq_false_iff_not]
  exact pw_bad hk hy hx (by simp [h])
theorem clear_row {t : List (List Bool)} {ph : List Int} {i : Nat} {x : Int} (hx : ph[i]? = some x) (h0 : (ph.take i).Pairwise (fun a b => tAt t b.toNat a.toNat = false)) (h : ∀ k y, k < i → ph[k]? = some y → tAt t x.toNat y.toNat = false) :
    (ph.take (i + 1)).Pairwise (fun a b => tAt t b.toNat a.toNat = false) := by
  rw [pw_snoc hx]
  refine ⟨h0, fun y hy => ?_⟩
  obtain ⟨k, hk, hyk⟩ := mem_take_at hy
  exact h k y hk hyk
theorem clearB_yes {t : List (List Bool)} {ph : List Int} (h : ph.Pairwise (fun a b => tAt t b.toNat a.toNat = false)) : clearB t ph = true := by
  rw [clearB, decide_eq_true_eq]; exact h

set_option maxHeartbeats 2000000 in
theorem clear_c (At : Option Addr) (m ct : Nat) (t : List (List Bool)) (A : Option Addr) (n c : Nat) (ph : List Int) (w : World) (B : Nat) (hT : Sl2 w B OLit At m ct t) (hS : Sl w B ILit A n c ph) (hB : B ≤ w.heap.size) (hsq : sqB t = true) (hin : ∀ x ∈ ph, 0 ≤ x ∧ x < m) (hm : m ≤ 1048576) :
    Calls Try.prog 77 #[.slice At m ct, .slice A n c] w fun e w' => e = .returned (.bool (clearB t ph)) ∧ Below w.heap.size w w' := by
  obtain ⟨hc0, hc1⟩ := hS.cap
  obtain ⟨hd0, hd1⟩ := hT.cap
  have HL := Lib.hid hS.len
  have HT := Lib.hid hT.len
  have HSQ := Lib.hid hsq
  have HIN := Lib.hid hin
  have hS0 := hS.more hB
  have hT0 := hT.more hB
  clear hS hT hsq hin
  go_enter Try.func77, Try.ntmps77
  go_wp2_with fail
  go_loopw [5] (fun i wr => ∃ (k : Nat), k ≤ n ∧ i = .int .i64 k ∧ Hid ((ph.take k).Pairwise (fun a b => tAt t b.toNat a.toNat = false)) ∧ Below w.heap.size w wr) (fun i _ => n - (intOf i).toNat)
  case atStart => exact ⟨0, by omega, rfl, Lib.hid List.Pairwise.nil, Below.refl _ _⟩
  case round =>
    obtain ⟨i, hi, rfl, hpw, hb⟩ := hrel
    have hzr := hb.size
    by_cases hlt : i < n
    · obtain ⟨b, o, x, rfl, hbl, hx, hcx⟩ := (hS0.below hb).at_ hlt
      obtain ⟨hx0, hxm⟩ := HIN.out x (List.mem_of_getElem? hx)
      obtain ⟨x, rfl⟩ := Int.eq_ofNat_of_zero_le hx0
      obtain ⟨bt, ot, b1, o1, c1, rx, rfl, hbt, hb1, hrx, hrxl, hrxc, hcr, hrow⟩ := (hT0.below hb).entry HSQ.out (a := x) (by omega)
      have HX := Lib.hid hx
      have HRX := Lib.hid hrx
      have HRL := Lib.hid hrxl
      have HROW := Lib.hid hrow
      have hcx' : wr.cell? ⟨b, o + i, none⟩ = some (.int .i64 (x : Int)) := hcx
      have hcr' : wr.cell? ⟨bt, ot + x, none⟩ = some (.slice (some ⟨b1, o1, none⟩) m c1) := hcr
      have HCX := Lib.hid hcx'
      have HCR := Lib.hid hcr'
      have hS1 := (hS0.below hb).more hzr
      have hbw : b < wr.heap.size := by omega
      have hbtw : bt < wr.heap.size := by omega
      have hb1w : b1 < wr.heap.size := by omega
      clear hx hrx hrow hcx hcr hrxl hcx' hcr'
      go_wp2_with fail
      obtain ⟨wo, rfl⟩ : ∃ wo : World, wo = wr := ⟨_, rfl⟩
      go_loopw [6] (fun kk wr => ∃ (k : Nat), k ≤ i ∧ kk = .int .i64 k ∧ Hid (∀ j (y : Int), j < k → ph[j]? = some y → tAt t x y.toNat = false) ∧ Below wo.heap.size wo wr) (fun kk _ => i - (intOf kk).toNat)
      case atStart => exact ⟨0, by omega, rfl, Lib.hid fun j y h => absurd h (by omega), Below.refl _ _⟩
      case round =>
        obtain ⟨k, hk, rfl, hcl, hb2⟩ := hrel
        have hzr2 := hb2.size
        by_cases hki : k < i
        · obtain ⟨b', o', y, hA, -, hy, hcy⟩ := (hS1.below hb2).at_ (k := k) (by omega)
          simp only [Option.some.injEq, Addr.mk.injEq, and_true] at hA
          obtain ⟨rfl, rfl⟩ := hA
          obtain ⟨hy0, hym⟩ := HIN.out y (List.mem_of_getElem? hy)
          obtain ⟨y, rfl⟩ := Int.eq_ofNat_of_zero_le hy0
          obtain ⟨z, hz⟩ : ∃ z, rx[y]? = some z := ⟨_, List.getElem?_eq_getElem (by rw [HRL.out]; omega)⟩
          have ht := tAt_of HRX.out hz
          have e1 : wr.cell? ⟨b, o + i, none⟩ = some (.int .i64 (x : Int)) := (hb2.cell (p := ⟨b, o + i, none⟩) hbw).trans HCX.out
          have e2 : wr.cell? ⟨bt, ot + x, none⟩ = some (.slice (some ⟨b1, o1, none⟩) m c1) := (hb2.cell (p := ⟨bt, ot + x, none⟩) hbtw).trans HCR.out
          have e3 : wr.cell? ⟨b1, o1 + y, none⟩ = some (.bool z) := (hb2.cell (p := ⟨b1, o1 + y, none⟩) hb1w).trans (HROW.out y z hz)
          have e4 : wr.cell? ⟨b, o + k, none⟩ = some (.int .i64 (y : Int)) := hcy
          have y1 : b < wr.heap.size := by omega
          have y2 : bt < wr.heap.size := by omega
          have y3 : b1 < wr.heap.size := by omega
          have i0 : (0 : Int) ≤ (i : Int) := by omega
          have i1 : (i : Int) < (n : Int) := by omega
          have k0 : (0 : Int) ≤ (k : Int) := by omega
          have k1 : (k : Int) < (n : Int) := by omega
          cases z
          · have hn2 : Hid (∀ j (y : Int), j < k + 1 → ph[j]? = some y → tAt t x y.toNat = false) := Lib.hid fun j y' h hy' => by
              rcases Nat.lt_or_ge j k with h1 | h1
              · exact hcl.out j y' h1 hy'
              · obtain rfl : j = k := by omega
                rw [hy] at hy'
                injection hy' with hy'
                rw [← hy']; simpa using ht
            clear hcy hy hz ht hcl
            go_wp2_with fail
            refine wp_region_plus (by kernel_rfl) (by kernel_rfl) ?_; (repeat (go_big_quiet_step (fail))); refine wpQuiet_nil ?_; intro _ hw'; obtain ⟨⟨osq, dq⟩, hw''⟩ := hw'; subst hw''
            go_wp2_with fail
            go_roundw
            case rel => exact ⟨k + 1, by omega, by go_num, hn2, by (repeat' (first | (with_reducible exact Below.refl _ _) | (with_reducible assumption) | (with_reducible refine Below.alloc ?_ ?_ _) | (with_reducible refine below_plus ?_ ?_ _ _) | (with_reducible refine Below.drew ?_) | (with_reducible refine Below.setCell ?_ ?_ _) | (with_reducible refine below_adv ?_ ?_ _) | go_size | (simp; done) | (simp; omega)))⟩
            case measure => simp [intOf]; omega
          · have HE := Lib.hid (clearB_bad (t := t) hki HX.out hy ht)
            have hbz := hb.trans (hb2.mono hzr)
            clear hcy hy hz ht hcl
            go_wp2_with fail
            refine wp_region_plus (by kernel_rfl) (by kernel_rfl) ?_; (repeat (go_big_quiet_step (fail))); refine wpQuiet_nil ?_; intro _ hw'; obtain ⟨⟨osq, dq⟩, hw''⟩ := hw'; subst hw''
            go_wp2_with fail
            go_ret
            exact ⟨by rw [HE.out]; rfl, by (repeat' (first | (with_reducible exact Below.refl _ _) | (with_reducible assumption) | (with_reducible refine Below.alloc ?_ ?_ _) | (with_reducible refine below_plus ?_ ?_ _ _) | (with_reducible refine Below.drew ?_) | (with_reducible refine Below.setCell ?_ ?_ _) | (with_reducible refine below_adv ?_ ?_ _) | go_size | (simp; done) | (simp; omega)))⟩
        · obtain rfl : k = i := by omega
          have hn2 := Lib.hid (clear_row HX.out hpw.out (fun j y h hy => hcl.out j y h hy))
          clear hcl hpw
          go_wp2_with fail
          go_roundw
          case rel => exact ⟨k + 1, by omega, by go_num, hn2.out, hb.trans (hb2.mono hzr)⟩
          case measure => simp [intOf]; omega
    · have HE := Lib.hid (clearB_yes (by
        have := hpw.out
        rwa [List.take_of_length_le (by rw [HL.out]; omega)] at this))
      clear hpw
      go_wp2_with fail
      go_ret
      exact ⟨by rw [HE.out]; rfl, hb⟩
end Go.Proofs.Ytlpbmnmhpknppaa
