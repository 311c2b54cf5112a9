/- RescueTime, the program's and the reference's; its laws. -/
import Derived.Test.YtbekpfaghimmeaaW4
import Derived.Test.YtbekpfaghimmeaaW7
import Derived.Test.YtbekpfaghimmeaaPl
import Derived.Test.YtbekpfaghimmeaaQuiet
set_option linter.unusedVariables false
set_option linter.unusedSimpArgs false
namespace Go.Proofs.Ytbekpfaghimmeaa
open Go.RowKit

/-- How many ticks a panel in fire is away from being open at floor 0. -/
def rem (f : Int) (op : Bool) : Int := if op = true ∧ f = 0 then 0 else if op = true then f + 2 else f + 1
def resc (m f : Int) (mv op : Bool) : Int := if Pn.ok ⟨m, f, mv, op⟩ = true ∧ m ≠ 2 then rem f op else -1

theorem rem_bd (f : Int) (op : Bool) (h : 0 ≤ f) (h2 : f ≤ 15) : 0 ≤ rem f op ∧ rem f op ≤ f + 2 := by
  unfold rem
  split
  · omega
  · split <;> omega

theorem rem_step (f : Int) (mv op : Bool) (h : Pn.ok ⟨1, f, mv, op⟩ = true) (hr : ¬ (op = true ∧ f = 0)) :
    ∃ f' mv' op', pressV ⟨1, f, mv, op⟩ 4 = ⟨1, f', mv', op'⟩ ∧ Pn.ok ⟨1, f', mv', op'⟩ = true ∧ rem f' op' = rem f op - 1 := by
  have hk := press_ok 1 f mv op 4 h
  have hb := Pn.ok_iff 1 f mv op |>.1 h
  rw [pressV, if_pos h] at hk ⊢
  simp only [pressP, tickP] at hk ⊢
  obtain ⟨-, -, h3, h4, h5⟩ := hb
  by_cases hf : f = 0
  · subst hf
    cases op
    · refine ⟨0, false, true, by simp, by decide, by simp [rem]⟩
    · simp at hr
  · cases op
    · exact ⟨f - 1, decide (0 < f - 1), false, by simp [hf], by simpa [hf] using hk, by simp [rem]⟩
    · refine ⟨f, mv, false, by simp [hf], by simpa [hf] using hk, ?_⟩
      simp [rem, hf]
      omega

theorem fire_step (m f : Int) (mv op : Bool) (h : Pn.ok ⟨m, f, mv, op⟩ = true) (hm : m ≠ 2) :
    pressV ⟨m, f, mv, op⟩ 1 = ⟨1, f, mv, op⟩ ∧ Pn.ok ⟨1, f, mv, op⟩ = true := by
  have hk := press_ok m f mv op 1 h
  rw [pressV, if_pos h] at hk ⊢
  simp [pressP, hm] at hk ⊢
  exact hk

set_option maxHeartbeats 1000000 in
theorem rescueTime_c (m f : Int) (mv op : Bool) (w : World) :
    Calls Try.prog 20 #[.agg #[.int .i64 m, .int .i64 f, .bool mv, .bool op]] w fun e w' => e = .returned (.int .i64 (resc m f mv op)) ∧ Below w.heap.size w w' := by
  cases hk : Pn.ok ⟨m, f, mv, op⟩
  · go_enter Try.func20, Try.ntmps20
    go_wp2_with (go_at_call 14; refine (validPanel_c _ _ _ _ _).mono ?_; rintro e w1 ⟨rfl, hb1⟩; obtain ⟨os1, d1, rfl⟩ := is_plus hb1; clear hb1)
    go_returns
    exact ⟨by simp [resc, hk], by (repeat' (first | (with_reducible exact Below.refl _ _) | (with_reducible assumption) | (with_reducible refine Below.alloc ?_ ?_ _) | (with_reducible refine below_plus ?_ ?_ _ _) | (with_reducible refine Below.drew ?_) | (with_reducible refine Below.setCell ?_ ?_ _) | (with_reducible refine below_adv ?_ ?_ _) | go_size | (simp; omega)))⟩
  · by_cases hm : m = 2
    · subst hm
      go_enter Try.func20, Try.ntmps20
      go_wp2_with (go_at_call 14; refine (validPanel_c _ _ _ _ _).mono ?_; rintro e w1 ⟨rfl, hb1⟩; obtain ⟨os1, d1, rfl⟩ := is_plus hb1; clear hb1)
      go_returns
      exact ⟨by simp [resc, hk], by (repeat' (first | (with_reducible exact Below.refl _ _) | (with_reducible assumption) | (with_reducible refine Below.alloc ?_ ?_ _) | (with_reducible refine below_plus ?_ ?_ _ _) | (with_reducible refine Below.drew ?_) | (with_reducible refine Below.setCell ?_ ?_ _) | (with_reducible refine below_adv ?_ ?_ _) | go_size | (simp; omega)))⟩
    · obtain ⟨hf1, hf2⟩ := fire_step m f mv op hk hm
      have c1 := fun w => pressPanel_c m f mv op 1 w
      skip
      rw [hf1] at c1
      have C1 := Lib.hid c1
      have hbd := Pn.ok_b hf2
      have hR : resc m f mv op = rem f op := by rw [resc, if_pos ⟨hk, hm⟩]
      have hrb := rem_bd f op hbd.1 hbd.2
      rw [hR]
      obtain ⟨R, hRR⟩ : ∃ R, R = rem f op := ⟨_, rfl⟩
      rw [← hRR] at hrb ⊢
      have HR := Lib.hid hRR
      have HF := Lib.hid hf2
      have em : (m == 2) = false := by simpa using hm
      obtain ⟨hrb0, hrb1⟩ := hrb
      obtain ⟨hbd0, hbd1⟩ := hbd
      clear c1 hf1 hf2 hR hRR
      go_enter Try.func20, Try.ntmps20
      go_wp2_with (first | (go_at_call 14; refine (validPanel_c _ _ _ _ _).mono ?_; rintro e w1 ⟨rfl, hb1⟩; obtain ⟨os1, d1, rfl⟩ := is_plus hb1; clear hb1) | (go_at_call 16; refine (C1.out _).mono ?_; rintro e w1 ⟨rfl, hb1⟩; obtain ⟨os1, d1, rfl⟩ := is_plus hb1; clear hb1))
      clear C1 hk em
      go_loopw [3] (fun t wr => ∃ (k : Int) (f' : Int) (mv' op' : Bool), 0 ≤ k ∧ k ≤ R ∧ t = .int .i64 k ∧ Hid (rem f' op' = R - k ∧ Pn.ok ⟨1, f', mv', op'⟩ = true) ∧ ∃ os d, wr = plus (w.alloc (.cells #[.int .i64 1, .int .i64 f', .bool mv', .bool op'] 25)) os d) (fun t _ => (R - intOf t).toNat)
      case atStart => exact ⟨0, f, mv, op, by omega, hrb0, rfl, ⟨by rw [← HR.out]; omega, HF.out⟩, _, _, rfl⟩
      case round =>
        obtain ⟨k, f', mv', op', hk0, hkR, rfl, hrem, os3, d3, rfl⟩ := hrel
        obtain ⟨hr1, hr2⟩ := hrem.out
        have hb2 := Pn.ok_b hr2
        obtain ⟨hb20, hb21⟩ := hb2
        by_cases hend : op' = true ∧ f' = 0
        · obtain ⟨rfl, rfl⟩ := hend
          have hkR2 : k = R := by simp [rem] at hr1; omega
          subst hkR2
          clear hr1 hr2 hrem
          go_wp2
          go_returns
          exact ⟨rfl, by (repeat' (first | (with_reducible exact Below.refl _ _) | (with_reducible assumption) | (with_reducible refine Below.alloc ?_ ?_ _) | (with_reducible refine below_plus ?_ ?_ _ _) | (with_reducible refine Below.drew ?_) | (with_reducible refine Below.setCell ?_ ?_ _) | (with_reducible refine below_adv ?_ ?_ _) | go_size | (simp; omega)))⟩
        · obtain ⟨f2, mv2, op2, hs1, hs2, hs3⟩ := rem_step f' mv' op' hr2 hend
          have hpos : 1 ≤ rem f' op' := by
            unfold rem
            rw [if_neg hend]
            split <;> omega
          have c2 := fun w => pressPanel_c 1 f' mv' op' 4 w
          skip
          rw [hs1] at c2
          have C2 := Lib.hid c2
          have HN : Hid (rem f2 op2 = R - (k + 1) ∧ Pn.ok ⟨1, f2, mv2, op2⟩ = true) := ⟨by omega, hs2⟩
          have hkR3 : k + 1 ≤ R := by omega
          clear c2 hs1 hs2 hs3 hr1 hr2 hrem hpos
          by_cases hf0 : f' = 0
          · subst hf0
            cases op'
            · go_wp2_with (go_at_call 16; refine (C2.out _).mono ?_; rintro e w1 ⟨rfl, hb1⟩; obtain ⟨os1, d1, rfl⟩ := is_plus hb1; clear hb1)
              go_roundw
              case rel => exact ⟨k + 1, f2, mv2, op2, by omega, hkR3, rfl, HN, _, _, rfl⟩
              case measure => simp [intOf]; omega
            · simp at hend
          · have hne : (f' != 0) = true := by simpa [bne] using hf0
            go_wp2_with (go_at_call 16; refine (C2.out _).mono ?_; rintro e w1 ⟨rfl, hb1⟩; obtain ⟨os1, d1, rfl⟩ := is_plus hb1; clear hb1)
            go_roundw
            case rel => exact ⟨k + 1, f2, mv2, op2, by omega, hkR3, rfl, HN, _, _, rfl⟩
            case measure => simp [intOf]; omega

set_option maxHeartbeats 1000000 in
theorem sRescueTime_c (m f : Int) (mv op : Bool) (w : World) :
    Calls Try.prog 19 #[.agg #[.int .i64 m, .int .i64 f, .bool mv, .bool op]] w fun e w' => e = .returned (.int .i64 (resc m f mv op)) ∧ Below w.heap.size w w' := by
  cases hk : Pn.ok ⟨m, f, mv, op⟩
  · go_enter Try.func19, Try.ntmps19
    go_wp2_with (go_at_call 23; refine (svalidPanel_c _ _ _ _ _).mono ?_; rintro e w1 ⟨rfl, hb1⟩; obtain ⟨os1, d1, rfl⟩ := is_plus hb1; clear hb1)
    go_returns
    exact ⟨by simp [resc, hk], by (repeat' (first | (with_reducible exact Below.refl _ _) | (with_reducible assumption) | (with_reducible refine Below.alloc ?_ ?_ _) | (with_reducible refine below_plus ?_ ?_ _ _) | (with_reducible refine Below.drew ?_) | (with_reducible refine Below.setCell ?_ ?_ _) | (with_reducible refine below_adv ?_ ?_ _) | go_size | (simp; omega)))⟩
  · by_cases hm : m = 2
    · subst hm
      go_enter Try.func19, Try.ntmps19
      go_wp2_with (go_at_call 23; refine (svalidPanel_c _ _ _ _ _).mono ?_; rintro e w1 ⟨rfl, hb1⟩; obtain ⟨os1, d1, rfl⟩ := is_plus hb1; clear hb1)
      go_returns
      exact ⟨by simp [resc, hk], by (repeat' (first | (with_reducible exact Below.refl _ _) | (with_reducible assumption) | (with_reducible refine Below.alloc ?_ ?_ _) | (with_reducible refine below_plus ?_ ?_ _ _) | (with_reducible refine Below.drew ?_) | (with_reducible refine Below.setCell ?_ ?_ _) | (with_reducible refine below_adv ?_ ?_ _) | go_size | (simp; omega)))⟩
    · obtain ⟨hf1, hf2⟩ := fire_step m f mv op hk hm
      have c1 := fun w => press_c m f mv op 1 w hk
      rw [show pressP ⟨m, f, mv, op⟩ 1 = pressV ⟨m, f, mv, op⟩ 1 from by rw [pressV, if_pos hk]] at c1
      rw [hf1] at c1
      have C1 := Lib.hid c1
      have hbd := Pn.ok_b hf2
      have hR : resc m f mv op = rem f op := by rw [resc, if_pos ⟨hk, hm⟩]
      have hrb := rem_bd f op hbd.1 hbd.2
      rw [hR]
      obtain ⟨R, hRR⟩ : ∃ R, R = rem f op := ⟨_, rfl⟩
      rw [← hRR] at hrb ⊢
      have HR := Lib.hid hRR
      have HF := Lib.hid hf2
      have em : (m == 2) = false := by simpa using hm
      obtain ⟨hrb0, hrb1⟩ := hrb
      obtain ⟨hbd0, hbd1⟩ := hbd
      clear c1 hf1 hf2 hR hRR
      go_enter Try.func19, Try.ntmps19
      go_wp2_with (first | (go_at_call 23; refine (svalidPanel_c _ _ _ _ _).mono ?_; rintro e w1 ⟨rfl, hb1⟩; obtain ⟨os1, d1, rfl⟩ := is_plus hb1; clear hb1) | (go_at_call 29; refine (C1.out _).mono ?_; rintro e w1 ⟨rfl, hb1⟩; obtain ⟨os1, d1, rfl⟩ := is_plus hb1; clear hb1))
      clear C1 hk em
      go_loopw [3] (fun t wr => ∃ (k : Int) (f' : Int) (mv' op' : Bool), 0 ≤ k ∧ k ≤ R ∧ t = .int .i64 k ∧ Hid (rem f' op' = R - k ∧ Pn.ok ⟨1, f', mv', op'⟩ = true) ∧ ∃ os d, wr = plus (w.alloc (.cells #[.int .i64 1, .int .i64 f', .bool mv', .bool op'] 25)) os d) (fun t _ => (R - intOf t).toNat)
      case atStart => exact ⟨0, f, mv, op, by omega, hrb0, rfl, ⟨by rw [← HR.out]; omega, HF.out⟩, _, _, rfl⟩
      case round =>
        obtain ⟨k, f', mv', op', hk0, hkR, rfl, hrem, os3, d3, rfl⟩ := hrel
        obtain ⟨hr1, hr2⟩ := hrem.out
        have hb2 := Pn.ok_b hr2
        obtain ⟨hb20, hb21⟩ := hb2
        by_cases hend : op' = true ∧ f' = 0
        · obtain ⟨rfl, rfl⟩ := hend
          have hkR2 : k = R := by simp [rem] at hr1; omega
          subst hkR2
          clear hr1 hr2 hrem
          go_wp2
          go_returns
          exact ⟨rfl, by (repeat' (first | (with_reducible exact Below.refl _ _) | (with_reducible assumption) | (with_reducible refine Below.alloc ?_ ?_ _) | (with_reducible refine below_plus ?_ ?_ _ _) | (with_reducible refine Below.drew ?_) | (with_reducible refine Below.setCell ?_ ?_ _) | (with_reducible refine below_adv ?_ ?_ _) | go_size | (simp; omega)))⟩
        · obtain ⟨f2, mv2, op2, hs1, hs2, hs3⟩ := rem_step f' mv' op' hr2 hend
          have hpos : 1 ≤ rem f' op' := by
            unfold rem
            rw [if_neg hend]
            split <;> omega
          have c2 := fun w => press_c 1 f' mv' op' 4 w hr2
          rw [show pressP ⟨1, f', mv', op'⟩ 4 = pressV ⟨1, f', mv', op'⟩ 4 from by rw [pressV, if_pos hr2]] at c2
          rw [hs1] at c2
          have C2 := Lib.hid c2
          have HN : Hid (rem f2 op2 = R - (k + 1) ∧ Pn.ok ⟨1, f2, mv2, op2⟩ = true) := ⟨by omega, hs2⟩
          have hkR3 : k + 1 ≤ R := by omega
          clear c2 hs1 hs2 hs3 hr1 hr2 hrem hpos
          by_cases hf0 : f' = 0
          · subst hf0
            cases op'
            · go_wp2_with (go_at_call 29; refine (C2.out _).mono ?_; rintro e w1 ⟨rfl, hb1⟩; obtain ⟨os1, d1, rfl⟩ := is_plus hb1; clear hb1)
              go_roundw
              case rel => exact ⟨k + 1, f2, mv2, op2, by omega, hkR3, rfl, HN, _, _, rfl⟩
              case measure => simp [intOf]; omega
            · simp at hend
          · have hne : 0 < f' := by omega
            go_wp2_with (go_at_call 29; refine (C2.out _).mono ?_; rintro e w1 ⟨rfl, hb1⟩; obtain ⟨os1, d1, rfl⟩ := is_plus hb1; clear hb1)
            go_roundw
            case rel => exact ⟨k + 1, f2, mv2, op2, by omega, hkR3, rfl, HN, _, _, rfl⟩
            case measure => simp [intOf]; omega

theorem exactRescueTime_walk (m f : Int) (mv op : Bool) (w : World) :
    Calls Try.prog 6 #[.agg #[.int .i64 m, .int .i64 f, .bool mv, .bool op]] w fun e w' => e = .returned (.bool true) ∧ Below w.heap.size w w' := by
  have c1 := fun w => rescueTime_c m f mv op w
  have c2 := fun w => sRescueTime_c m f mv op w
  obtain ⟨R, hR⟩ : ∃ R, resc m f mv op = R := ⟨_, rfl⟩
  rw [hR] at c1 c2
  have C1 := Lib.hid c1
  have C2 := Lib.hid c2
  clear c1 c2 hR
  go_enter Try.func6, Try.ntmps6
  go_wp2_with (first | (go_at_call 13; refine (toPanel_c _ _ _ _ _).mono ?_; rintro e w1 ⟨rfl, hb1⟩; obtain ⟨os1, d1, rfl⟩ := is_plus hb1; clear hb1) | (go_at_call 20; refine (C1.out _).mono ?_; rintro e w1 ⟨rfl, hb1⟩; obtain ⟨os1, d1, rfl⟩ := is_plus hb1; clear hb1) | (go_at_call 19; refine (C2.out _).mono ?_; rintro e w1 ⟨rfl, hb1⟩; obtain ⟨os1, d1, rfl⟩ := is_plus hb1; clear hb1))
  go_returns
  exact ⟨rfl, by (repeat' (first | (with_reducible exact Below.refl _ _) | (with_reducible assumption) | (with_reducible refine Below.alloc ?_ ?_ _) | (with_reducible refine below_plus ?_ ?_ _ _) | (with_reducible refine Below.drew ?_) | (with_reducible refine Below.setCell ?_ ?_ _) | (with_reducible refine below_adv ?_ ?_ _) | go_size | (simp; omega)))⟩

set_option maxHeartbeats 2000000 in
theorem rescueLaw_walk (A : Option Addr) (n c : Nat) (bs : List Int) (w : World) (h : Sl w w.heap.size BLit A n c bs) (hb : ∀ x ∈ bs, 0 ≤ x ∧ x ≤ 255) :
    Calls Try.prog 11 #[.slice A n c] w fun e w' => e = .returned (.bool true) ∧ Below w.heap.size w w' := by
  have hcap := h.cap
  obtain ⟨hca, hcb⟩ := hcap
  by_cases hn : 1048576 < n
  · go_enter Try.func11, Try.ntmps11
    go_wp2
    go_ret
    exact ⟨rfl, by (repeat' (first | (with_reducible exact Below.refl _ _) | (with_reducible assumption) | (with_reducible refine Below.alloc ?_ ?_ _) | (with_reducible refine below_plus ?_ ?_ _ _) | (with_reducible refine Below.drew ?_) | (with_reducible refine Below.setCell ?_ ?_ _) | (with_reducible refine below_adv ?_ ?_ _) | go_size | (simp; omega)))⟩
  · go_enter Try.func11, Try.ntmps11
    go_wp2_with fail
    refine (drawRescueTime_c _ _ _ _ bs h hb).mono ?_
    rintro e w1 ⟨m, f, mv, op, rfl, hb1⟩
    have hz1 := hb1.size
    clear h hb hca hcb
    have c1 := fun w => rescueTime_c m f mv op w
    have c2 := fun w => sRescueTime_c m f mv op w
    obtain ⟨R, hR⟩ : ∃ R, resc m f mv op = R := ⟨_, rfl⟩
    rw [hR] at c1 c2
    have C1 := Lib.hid c1
    have C2 := Lib.hid c2
    clear c1 c2
    by_cases hok : Pn.ok ⟨m, f, mv, op⟩ = true ∧ m ≠ 2
    · obtain ⟨hk, hm⟩ := hok
      obtain ⟨hf1, hf2⟩ := fire_step m f mv op hk hm
      have hbd := Pn.ok_b hf2
      obtain ⟨hbd0, hbd1⟩ := hbd
      have hrb := rem_bd f op hbd0 hbd1
      have hR2 : R = rem f op := by rw [← hR, resc, if_pos ⟨hk, hm⟩]
      rw [← hR2] at hrb
      obtain ⟨hrb0, hrb1⟩ := hrb
      have HR := Lib.hid hR2
      have HF := Lib.hid hf2
      have c3 := fun w => pressPanel_c m f mv op 1 w
      rw [hf1] at c3
      have C3 := Lib.hid c3
      clear hR hR2 hf1 hf2 hk c3
      go_wp2_with fail
      refine (C1.out _).mono ?_
      rintro e w2 ⟨rfl, hb2⟩
      obtain ⟨os1, d1, rfl⟩ := is_plus hb2
      clear hb2
      go_wp2_with fail
      refine (C2.out _).mono ?_
      rintro e w2 ⟨rfl, hb2⟩
      obtain ⟨os2, d2, rfl⟩ := is_plus hb2
      clear hb2
      go_wp2_with fail
      refine (C3.out _).mono ?_
      rintro e w2 ⟨rfl, hb2⟩
      obtain ⟨os3, d3, rfl⟩ := is_plus hb2
      clear hb2
      go_wp2_with fail
      clear C1 C2 C3
      go_loopw [6] (fun i wr => ∃ (k : Int) (f' : Int) (mv' op' : Bool), 0 ≤ k ∧ k ≤ R ∧ i = .int .i64 k ∧ Hid (rem f' op' = R - k ∧ Pn.ok ⟨1, f', mv', op'⟩ = true) ∧ ∃ os d, wr = plus ((plus (w1.alloc (.cells #[.int .i64 m, .int .i64 f, .bool mv, .bool op] 25)) (os1 ++ (os2 ++ os3)) d3).alloc (.cells #[.int .i64 1, .int .i64 f', .bool mv', .bool op'] 25)) os d) (fun i _ => (R - intOf i).toNat)
      case atStart => exact ⟨0, f, mv, op, by omega, hrb0, rfl, ⟨by rw [← HR.out]; omega, HF.out⟩, _, _, (plus_zero _).symm⟩
      case round =>
        obtain ⟨k, f', mv', op', hk0, hkR, rfl, hrem, os4, d4, rfl⟩ := hrel
        obtain ⟨hr1, hr2⟩ := hrem.out
        have hb2 := Pn.ok_all hr2
        obtain ⟨-, -, hb20, hb21, hb22, -⟩ := hb2
        by_cases hend : k < R
        · have hne : ¬ (op' = true ∧ f' = 0) := by
            rintro ⟨rfl, rfl⟩
            simp [rem] at hr1
            omega
          obtain ⟨f2, mv2, op2, hs1, hs2, hs3⟩ := rem_step f' mv' op' hr2 hne
          have c2 := fun w => pressPanel_c 1 f' mv' op' 4 w
          rw [hs1] at c2
          have C2 := Lib.hid c2
          have HN : Hid (rem f2 op2 = R - (k + 1) ∧ Pn.ok ⟨1, f2, mv2, op2⟩ = true) := ⟨by omega, hs2⟩
          clear c2 hs1 hs2 hs3 hr1 hr2 hrem hne hb22
          go_wp2_with (go_at_call 16; refine (C2.out _).mono ?_; rintro e w1 ⟨rfl, hb1⟩; obtain ⟨os1, d1, rfl⟩ := is_plus hb1; clear hb1)
          go_roundw
          case rel => exact ⟨k + 1, f2, mv2, op2, by omega, by omega, rfl, HN, _, _, rfl⟩
          case measure => simp [intOf]; omega
        · have hz : rem f' op' = 0 := by omega
          have hz2 : op' = true ∧ f' = 0 := by
            unfold rem at hz
            split at hz
            · assumption
            · split at hz <;> omega
          obtain ⟨rfl, rfl⟩ := hz2
          have hmv : mv' = false := by
            cases mv'
            · rfl
            · exact absurd (hb22 rfl) (by decide)
          subst hmv
          have c2 := fun w => pressPanel_c 1 0 false true 4 w
          rw [show pressV ⟨1, 0, false, true⟩ 4 = ⟨1, 0, false, true⟩ from rfl] at c2
          have C2 := Lib.hid c2
          clear c2 hr1 hr2 hrem hz hb22
          go_wp2_with (go_at_call 16; refine (C2.out _).mono ?_; rintro e w1 ⟨rfl, hb1⟩; obtain ⟨os1, d1, rfl⟩ := is_plus hb1; clear hb1)
          go_returns
          exact ⟨by simp; try omega, by (repeat' (first | (with_reducible exact Below.refl _ _) | (with_reducible assumption) | (with_reducible refine Below.alloc ?_ ?_ _) | (with_reducible refine below_plus ?_ ?_ _ _) | (with_reducible refine Below.drew ?_) | (with_reducible refine Below.setCell ?_ ?_ _) | (with_reducible refine below_adv ?_ ?_ _) | go_size | (simp; omega)))⟩
    · have hR2 : R = -1 := by rw [← hR, resc, if_neg hok]
      subst hR2
      clear hR hok
      go_wp2_with (first | (go_at_call 20; refine (C1.out _).mono ?_; rintro e w1 ⟨rfl, hb1⟩; obtain ⟨os1, d1, rfl⟩ := is_plus hb1; clear hb1) | (go_at_call 19; refine (C2.out _).mono ?_; rintro e w1 ⟨rfl, hb1⟩; obtain ⟨os1, d1, rfl⟩ := is_plus hb1; clear hb1))
      go_returns
      exact ⟨rfl, by (repeat' (first | (with_reducible exact Below.refl _ _) | (with_reducible assumption) | (with_reducible refine Below.alloc ?_ ?_ _) | (with_reducible refine below_plus ?_ ?_ _ _) | (with_reducible refine Below.drew ?_) | (with_reducible refine Below.setCell ?_ ?_ _) | (with_reducible refine below_adv ?_ ?_ _) | go_size | (simp; omega)))⟩
end Go.Proofs.Ytbekpfaghimmeaa
