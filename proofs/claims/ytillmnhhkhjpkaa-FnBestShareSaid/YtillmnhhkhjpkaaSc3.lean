/- The reference's greatest, walked. -/
import Derived.Test.YtillmnhhkhjpkaaSc2
set_option linter.unusedVariables false
set_option linter.unusedSimpArgs false
namespace Go.Proofs.Ytillmnhhkhjpkaa
open Go.RowKit

theorem run_max2 {P : Program} (w : World) (ts : Array TypeId) (t : TypeId) (x y : Int) : (Builtin.max_ ts t #[.int .i64 x, .int .i64 y]).run P w = .ok (.int .i64 (max x y)) w := by
  have e : ∀ a b : Int, max a b = if b > a then b else a := fun a b => by omega
  simp [Builtin.max_, Builtin.max2, e]
set_option maxHeartbeats 4000000 in
theorem greatest_c (A0 : Option Addr) (n0 c0 : Nat) (cars : List Int) (A : Option Addr) (n c : Nat) (cs : List CallT) (A2 : Option Addr) (c2 : Nat) (ss : List Nat) (w : World) (B : Nat) (hC : Sl w B ILit A0 n0 c0 cars) (hS : SlC w B A n c cs) (hT : Sl w B NLit A2 n c2 ss) (hB : B ≤ w.heap.size) (hn : n ≤ 6) (hn0 : n0 ≤ 3)
    (ha : ∀ x ∈ cars, 0 ≤ x ∧ x ≤ 15) (hok : ∀ c ∈ cs, (0 ≤ c.1 ∧ c.1 ≤ 15) ∧ (0 ≤ c.2.1 ∧ c.2.1 ≤ 15)) :
    Calls Try.prog 19 #[.slice A0 n0 c0, .slice A n c, .slice A2 n c2] w fun e w' => e = .returned (.int .i64 (grt cars (cs.map prC) ss cars.length)) ∧ Below w.heap.size w w' := by
  obtain ⟨hc0, hc1⟩ := hC.cap
  have hl := hC.len
  have HC := Lib.hid (hC.more hB)
  have HA := Lib.hid ha
  have CT := Lib.hid (fun (a : Int) (h : 0 ≤ a ∧ a ≤ 15) (i : Nat) w' (hb : Below w.heap.size w w') => tripCost_c a A n c cs A2 c2 ss i w' B (hS.below (hb.mono hB)) (hT.below (hb.mono hB)) (Nat.le_trans hB hb.size) hn h hok)
  have hm := fun w' x y => run_max2 (P := Try.prog) w' #[3, 3] 3 x y
  rw [hl]
  clear hC hS hT hok ha hl
  go_enter Try.func19, Try.ntmps19
  go_wp2_with fail
  go_loopw [7, 8] (fun v i wr => ∃ k : Nat, k ≤ n0 ∧ i = .int .i64 k ∧ v = .int .i64 (grt cars (cs.map prC) ss k) ∧ Below w.heap.size w wr) (fun _ i _ => n0 - (intOf i).toNat)
  case atStart => exact ⟨0, by omega, rfl, rfl, Below.refl _ _⟩
  case round =>
    obtain ⟨k, hk, rfl, rfl, hb⟩ := hrel
    have hzr := hb.size
    by_cases hlt : k < n0
    · obtain ⟨b, o, x, rfl, hbl, hx, hcell⟩ := (HC.out.below hb).at_ hlt
      have r1 : wr.cell? ⟨b, o + k, none⟩ = some (.int .i64 x) := hcell
      have hg : grt cars (cs.map prC) ss (k + 1) = max (grt cars (cs.map prC) ss k) (trp x (cs.map prC) ss k) := by
        rw [grt]; congr 2
        rw [List.getD_eq_getElem?_getD, hx]; rfl
      have C1 := Lib.hid (CT.out x (HA.out x (List.mem_of_getElem? hx)) k wr hb)
      obtain ⟨g, hgg⟩ : ∃ g, grt cars (cs.map prC) ss k = g := ⟨_, rfl⟩
      rw [hgg] at hg ⊢
      have HG := Lib.hid hg
      have u1 : b < wr.heap.size := by omega
      have n1 : (0 : Int) ≤ (k : Int) := by omega
      have n2 : (k : Int) < (n0 : Int) := by omega
      clear hcell hx hg hgg
      go_wp2_with fail
      refine C1.out.mono ?_
      rintro e w1 ⟨rfl, hb1⟩
      have hbn := hb.trans (hb1.mono hzr)
      clear r1
      go_wp2_with fail
      go_roundw
      case rel => exact ⟨k + 1, by omega, by go_num, by rw [HG.out], hbn⟩
      case measure => simp [intOf]; omega
    · obtain rfl : k = n0 := by omega
      go_wp2_with fail
      go_ret
      exact ⟨rfl, hb⟩
end Go.Proofs.Ytillmnhhkhjpkaa
