/- Valid calls, valid cars, valid shares, walked. -/
import Derived.Test.YtillmnhhkhjpkaaSb2
set_option linter.unusedVariables false
set_option linter.unusedSimpArgs false
namespace Go.Proofs.Ytillmnhhkhjpkaa
open Go.RowKit

theorem okL_no {cs : List CallT} {k : Nat} {c : CallT} (h : cs[k]? = some c) (hc : okC c = false) : okL cs = false := by
  rw [okL, Bool.and_eq_false_iff]
  exact .inr (List.all_eq_false.2 ⟨c, List.mem_of_getElem? h, by rw [hc]; decide⟩)
set_option maxHeartbeats 1000000 in
theorem validCalls_c (A : Option Addr) (n c : Nat) (cs : List CallT) (w : World) (B : Nat) (hS : SlC w B A n c cs) (hB : B ≤ w.heap.size) :
    Calls Try.prog 27 #[.slice A n c] w fun e w' => e = .returned (.bool (okL cs)) ∧ Below w.heap.size w w' := by
  obtain ⟨hc0, hc1⟩ := hS.cap
  have hl := hS.len
  by_cases h12 : 12 < n
  · have HE : Hid (okL cs = false) := Lib.hid (by rw [okL, decide_eq_false (by omega)]; rfl)
    have g1 : (12 : Int) < (n : Int) := by omega
    clear hS hl
    go_enter Try.func27, Try.ntmps27
    go_wp2_with fail
    go_ret
    exact ⟨by rw [HE.out]; rfl, Below.refl _ _⟩
  · have g1 : ¬ (12 : Int) < (n : Int) := by omega
    have HS := Lib.hid (hS.more hB)
    have HL := Lib.hid hl
    clear hS hl
    go_enter Try.func27, Try.ntmps27
    go_wp2_with fail
    go_loopw [10] (fun i wr => ∃ k : Nat, k ≤ n ∧ i = .int .i64 k ∧ Hid (∀ c ∈ cs.take k, okC c = true) ∧ Below w.heap.size w wr) (fun i _ => n - (intOf i).toNat)
    case atStart => exact ⟨0, by omega, rfl, Lib.hid (by simp), Below.refl _ _⟩
    case round =>
      obtain ⟨k, hk, rfl, hall, hb⟩ := hrel
      have hzr := hb.size
      by_cases hlt : k < n
      · obtain ⟨b, o, x, y, z, rfl, hbl, hx, c1, c2, c3⟩ := (HS.out.below hb).at_ hlt
        have cv := fun w' => validCall_c x y z w'
        have hub : b < wr.heap.size := by omega
        cases ho : okC (x, y, z)
        · have HE := Lib.hid (okL_no hx ho)
          rw [ho] at cv
          have CV := Lib.hid cv
          clear cv hx ho hall
          go_wp2_with fail
          refine (CV.out _).mono ?_
          rintro e w1 ⟨rfl, hb1⟩
          go_wp2_with fail
          go_ret
          exact ⟨by rw [HE.out]; rfl, hb.trans (Below.trans (by (repeat' (first | (with_reducible exact Below.refl _ _) | (with_reducible assumption) | (with_reducible refine Below.alloc ?_ ?_ _) | (with_reducible refine below_plus ?_ ?_ _ _) | (with_reducible refine Below.drew ?_) | (with_reducible refine Below.setCell ?_ ?_ _) | (with_reducible refine below_adv ?_ ?_ _) | go_size | (simp; done) | (simp; omega)))) (hb1.mono (by simp; omega)))⟩
        · have HN : Hid (∀ c ∈ cs.take (k + 1), okC c = true) := Lib.hid (fun c hc => by
            rw [take_snoc hx] at hc
            rcases List.mem_append.1 hc with h | h
            · exact hall.out c h
            · simp at h; subst h; exact ho)
          rw [ho] at cv
          have CV := Lib.hid cv
          clear cv hx ho hall
          go_wp2_with fail
          refine (CV.out _).mono ?_
          rintro e w1 ⟨rfl, hb1⟩
          have hbn : Below w.heap.size w w1 := Below.trans (by (repeat' (first | (with_reducible exact Below.refl _ _) | (with_reducible assumption) | (with_reducible refine Below.alloc ?_ ?_ _) | (with_reducible refine below_plus ?_ ?_ _ _) | (with_reducible refine Below.drew ?_) | (with_reducible refine Below.setCell ?_ ?_ _) | (with_reducible refine below_adv ?_ ?_ _) | go_size | (simp; done) | (simp; omega)))) (hb1.mono (by simp; omega))
          clear hb1 c1 c2 c3
          go_wp2_with fail
          go_roundw
          case rel => exact ⟨k + 1, by omega, by go_num, HN, hbn⟩
          case measure => simp [intOf]; omega
      · obtain rfl : k = n := by omega
        have HE : Hid (okL cs = true) := Lib.hid (by
          rw [okL, decide_eq_true (by have := HL.out; omega), Bool.true_and, List.all_eq_true]
          have := hall.out
          rwa [List.take_of_length_le (by rw [HL.out]; exact Nat.le_refl _)] at this)
        clear hall
        go_wp2_with fail
        go_ret
        exact ⟨by rw [HE.out]; rfl, hb⟩
set_option maxHeartbeats 1000000 in
theorem sValidCalls_c (A : Option Addr) (n c : Nat) (cs : List CallT) (w : World) (B : Nat) (hS : SlC w B A n c cs) (hB : B ≤ w.heap.size) (hn : n ≤ 1099511627776) :
    Calls Try.prog 30 #[.slice A n c] w fun e w' => e = .returned (.bool (okL cs)) ∧ Below w.heap.size w w' := by
  obtain ⟨hc0, hc1⟩ := hS.cap
  have hl := hS.len
  have HS := Lib.hid (hS.more hB)
  have HL := Lib.hid hl
  clear hS hl
  go_enter Try.func30, Try.ntmps30
  go_wp2_with fail
  go_loopw [3] (fun i wr => ∃ k : Nat, k ≤ n ∧ i = .int .i64 k ∧ Hid (∀ c ∈ cs.take k, okC c = true) ∧ Below w.heap.size w wr) (fun i _ => n - (intOf i).toNat)
  case atStart => exact ⟨0, by omega, rfl, Lib.hid (by simp), Below.refl _ _⟩
  case round =>
    obtain ⟨k, hk, rfl, hall, hb⟩ := hrel
    have hzr := hb.size
    by_cases hlt : k < n
    · obtain ⟨b, o, x, y, z, rfl, hbl, hx, c1, c2, c3⟩ := (HS.out.below hb).at_ hlt
      have cv := fun w' => sValidCall_c x y z w'
      have hub : b < wr.heap.size := by omega
      cases ho : okC (x, y, z)
      · have HE := Lib.hid (okL_no hx ho)
        rw [ho] at cv
        have CV := Lib.hid cv
        clear cv hx ho hall
        go_wp2_with fail
        refine (CV.out _).mono ?_
        rintro e w1 ⟨rfl, hb1⟩
        go_wp2_with fail
        go_ret
        exact ⟨by rw [HE.out]; rfl, hb.trans (hb1.mono hzr)⟩
      · have HN : Hid (∀ c ∈ cs.take (k + 1), okC c = true) := Lib.hid (fun c hc => by
          rw [take_snoc hx] at hc
          rcases List.mem_append.1 hc with h | h
          · exact hall.out c h
          · simp at h; subst h; exact ho)
        rw [ho] at cv
        have CV := Lib.hid cv
        clear cv hx ho hall
        go_wp2_with fail
        refine (CV.out _).mono ?_
        rintro e w1 ⟨rfl, hb1⟩
        have hbn : Below w.heap.size w w1 := hb.trans (hb1.mono hzr)
        clear hb1 c1 c2 c3
        go_wp2_with fail
        go_roundw
        case rel => exact ⟨k + 1, by omega, by go_num, HN, hbn⟩
        case measure => simp [intOf]; omega
    · obtain rfl : k = n := by omega
      have HA : Hid (cs.all okC = true) := Lib.hid (by
        rw [List.all_eq_true]
        have := hall.out
        rwa [List.take_of_length_le (by rw [HL.out]; exact Nat.le_refl _)] at this)
      have HE : Hid (okL cs = decide ((k : Int) ≤ 12)) := Lib.hid (by rw [okL, HA.out, Bool.and_true, HL.out]; congr 1; simp; omega)
      clear hall
      go_wp2_with fail
      go_ret
      exact ⟨by rw [HE.out]; rfl, hb⟩
end Go.Proofs.Ytillmnhhkhjpkaa
