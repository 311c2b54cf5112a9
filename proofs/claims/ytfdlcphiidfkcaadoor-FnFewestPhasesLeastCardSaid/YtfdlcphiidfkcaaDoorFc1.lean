/- slices.Compare at []int, walked. -/
import Derived.Test.YtfdlcphiidfkcaaDoorFb1
set_option linter.unusedVariables false
set_option linter.unusedSimpArgs false
namespace Go.Proofs.YtfdlcphiidfkcaaDoor
open Go.RowKit

theorem isNaN_c (x : Int) (w : World) : Calls Tryd.prog 84 #[.int .i64 x] w fun e w' => e = .returned (.bool false) ∧ w = w' := by
  go_enter Tryd.func84, Tryd.ntmps84
  go_wp2_with fail
  go_ret
  exact ⟨by simp, rfl⟩
def cmpI (x y : Int) : Int := if x < y then -1 else if y < x then 1 else 0
set_option maxHeartbeats 1000000 in
theorem cmpInt_c (x y : Int) (w : World) : Calls Tryd.prog 67 #[.int .i64 x, .int .i64 y] w fun e w' => e = .returned (.int .i64 (cmpI x y)) ∧ w = w' := by
  have C1 := Lib.hid (isNaN_c x w)
  have C2 := Lib.hid (isNaN_c y w)
  by_cases h1 : x < y
  · have HE : Hid (cmpI x y = -1) := Lib.hid (by rw [cmpI, if_pos h1])
    go_enter Tryd.func67, Tryd.ntmps67
    go_wp2_with fail
    refine C1.out.mono ?_
    rintro e w1 ⟨rfl, rfl⟩
    go_wp2_with fail
    refine C2.out.mono ?_
    rintro e w1 ⟨rfl, rfl⟩
    go_wp2_with fail
    go_ret
    exact ⟨by rw [HE.out]; rfl, rfl⟩
  · by_cases h2 : y < x
    · have HE : Hid (cmpI x y = 1) := Lib.hid (by rw [cmpI, if_neg h1, if_pos h2])
      go_enter Tryd.func67, Tryd.ntmps67
      go_wp2_with fail
      refine C1.out.mono ?_
      rintro e w1 ⟨rfl, rfl⟩
      go_wp2_with fail
      refine C2.out.mono ?_
      rintro e w1 ⟨rfl, rfl⟩
      go_wp2_with fail
      go_ret
      exact ⟨by rw [HE.out]; rfl, rfl⟩
    · have HE : Hid (cmpI x y = 0) := Lib.hid (by rw [cmpI, if_neg h1, if_neg h2])
      go_enter Tryd.func67, Tryd.ntmps67
      go_wp2_with fail
      refine C1.out.mono ?_
      rintro e w1 ⟨rfl, rfl⟩
      go_wp2_with fail
      refine C2.out.mono ?_
      rintro e w1 ⟨rfl, rfl⟩
      go_wp2_with fail
      go_ret
      exact ⟨by rw [HE.out]; rfl, rfl⟩

/-- What slices.Compare returns. -/
def cmpL (xs ys : List Int) : Int := if lessL xs ys = true then -1 else if xs = ys then 0 else 1
theorem cmpL_neg {xs ys : List Int} : cmpL xs ys < 0 ↔ lessL xs ys = true := by
  unfold cmpL
  by_cases h : lessL xs ys = true
  · simp [h]
  · rw [if_neg h]
    by_cases h2 : xs = ys
    · subst h2; simp [h]
    · simp [h, h2]
theorem cmpL_at {k : Nat} {xs ys : List Int} {x y : Int} (h : xs.take k = ys.take k) (hx : xs[k]? = some x) (hy : ys[k]? = some y) (hne : x ≠ y) : cmpL xs ys = cmpI x y := by
  have hl := lessL_at h hx hy hne
  have hxy : xs ≠ ys := fun e => by rw [e, hy] at hx; injection hx with hx; exact hne hx.symm
  unfold cmpL cmpI
  rw [hl]
  by_cases h1 : x < y
  · simp [h1]
  · have h2 : y < x := by omega
    simp [h1, h2, hxy]

set_option maxHeartbeats 2000000 in
theorem compare_c (A : Option Addr) (n c : Nat) (xs : List Int) (A2 : Option Addr) (n2 c2 : Nat) (ys : List Int) (w : World) (B : Nat) (hS : Sl w B ILit A n c xs) (hT : Sl w B ILit A2 n2 c2 ys) :
    Calls Tryd.prog 43 #[.slice A n c, .slice A2 n2 c2] w fun e w' => e = .returned (.int .i64 (cmpL xs ys)) ∧ w = w' := by
  have hl1 := hS.len
  have hl2 := hT.len
  obtain ⟨hc0, hc1⟩ := hS.cap
  obtain ⟨hd0, hd1⟩ := hT.cap
  have HL := Lib.hid (And.intro hl1 hl2)
  clear hl1 hl2
  go_enter Tryd.func43, Tryd.ntmps43
  go_wp2_with fail
  go_loopw [11] (fun i wr => ∃ k : Nat, k ≤ n ∧ k ≤ n2 ∧ i = .int .i64 k ∧ Hid (xs.take k = ys.take k) ∧ wr = w) (fun i _ => n - (intOf i).toNat)
  case atStart => exact ⟨0, Nat.zero_le _, Nat.zero_le _, rfl, Lib.hid rfl, rfl⟩
  case round =>
    obtain ⟨k, hk, hk2, rfl, htk, rfl⟩ := hrel
    by_cases hlt : k < n
    · obtain ⟨b, o, x, rfl, hb, hx, hcell⟩ := hS.at_ hlt
      have hcell' : wr.cell? ⟨b, o + k, none⟩ = some (.int .i64 x) := hcell
      by_cases hlt2 : k < n2
      · obtain ⟨b2, o2, y, rfl, hb2, hy, hcell2⟩ := hT.at_ hlt2
        have hcell2' : wr.cell? ⟨b2, o2 + k, none⟩ = some (.int .i64 y) := hcell2
        have hki : (k : Int) < (n : Int) := by omega
        have hki2 : (k : Int) < (n2 : Int) := by omega
        have ci := cmpInt_c x y wr
        by_cases hxy : x = y
        · subst hxy
          have HT : Hid (xs.take (k + 1) = ys.take (k + 1)) := Lib.hid (by rw [take_snoc hx, take_snoc hy, htk.out])
          rw [show cmpI x x = 0 by simp [cmpI]] at ci
          have CI := Lib.hid ci
          clear hx hy hS hT hcell hcell2 ci
          go_wp2_with fail
          refine CI.out.mono ?_
          rintro e w1 ⟨rfl, rfl⟩
          go_wp2_with fail
          go_roundw
          case rel => exact ⟨k + 1, by omega, by omega, by go_num, HT, by first | exact rfl | trivial⟩
          case measure => simp [intOf]; omega
        · have hne := Lib.hid (cmpL_at htk.out hx hy hxy)
          have hc0' : ¬ cmpI x y = 0 := by
            unfold cmpI
            split
            · omega
            · split <;> omega
          obtain ⟨z, hz⟩ : ∃ z, cmpI x y = z := ⟨_, rfl⟩
          rw [hz] at ci hc0'
          have hz0 : (z == 0) = false := by simpa using hc0'
          have CI := Lib.hid ci
          have HZ := Lib.hid hz
          clear hx hy hS hT hcell hcell2 ci hz
          go_wp2_with fail
          refine CI.out.mono ?_
          rintro e w1 ⟨rfl, rfl⟩
          go_wp2_with fail
          go_ret
          exact ⟨by rw [hne.out, HZ.out]; rfl, rfl⟩
      · obtain rfl : k = n2 := by omega
        have hl := lessL_end htk.out (by rw [HL.out.1]; exact hk) (by rw [HL.out.2]; exact Nat.le_refl _) (.inr HL.out.2.symm)
        have HN : Hid (cmpL xs ys = 1) := Lib.hid (by
          have h1 := HL.out.1
          have h2 := HL.out.2
          have hne : xs ≠ ys := fun e => by rw [e] at h1; omega
          unfold cmpL
          rw [hl, h1, h2, if_neg (by simp; omega), if_neg hne])
        clear hS hT hl hcell hx
        go_wp2_with fail
        go_ret
        exact ⟨by rw [HN.out]; rfl, rfl⟩
    · obtain rfl : k = n := by omega
      have hl := lessL_end htk.out (by rw [HL.out.1]; exact Nat.le_refl _) (by rw [HL.out.2]; exact hk2) (.inl HL.out.1.symm)
      by_cases hlt2 : k < n2
      · have HN : Hid (cmpL xs ys = -1) := Lib.hid (by
          unfold cmpL
          rw [hl, HL.out.1, HL.out.2, if_pos (by simpa using hlt2)])
        clear hS hT hl
        go_wp2_with fail
        go_ret
        exact ⟨by rw [HN.out]; rfl, rfl⟩
      · have HN : Hid (cmpL xs ys = 0) := Lib.hid (by
          have h1 := HL.out.1
          have h2 := HL.out.2
          have he : xs = ys := by
            have := htk.out
            rwa [List.take_of_length_le (by omega), List.take_of_length_le (by omega)] at this
          unfold cmpL
          rw [hl, h1, h2, if_neg (by simpa using hlt2), if_pos he])
        clear hS hT hl
        go_wp2_with fail
        go_ret
        exact ⟨by rw [HN.out]; rfl, rfl⟩
end Go.Proofs.YtfdlcphiidfkcaaDoor
