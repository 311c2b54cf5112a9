/- lostOf, walked: the program's and the reference's. -/
import Derived.Test.YtlpbmnmhpknppaaCd4
import Derived.Test.YtlpbmnmhpknppaaCc2
set_option linter.unusedVariables false
set_option linter.unusedSimpArgs false
namespace Go.Proofs.Ytlpbmnmhpknppaa
open Go.RowKit

theorem lostUp_succ {t list : List (List Int)} {k : Nat} {xs ys : List Int} (hx : list[k]? = some xs) (hy : list[(k + 1) % list.length]? = some ys) : lostUp t list (k + 1) = lostUp t list k + changeN t xs ys := by
  simp [lostUp, nxt, List.getD_eq_getElem?_getD, hx, hy]
theorem next_at {k n : Nat} (h : k < n) : (k + 1) % n < n := Nat.mod_lt _ (by omega)
theorem int_mod (a b : Nat) : ((a : Int) + 1) % (b : Int) = (((a + 1) % b : Nat) : Int) := by
  rw [show ((a : Int) + 1) = ((a + 1 : Nat) : Int) from rfl]; exact (Int.natCast_emod (a + 1) b).symm

set_option maxHeartbeats 4000000 in
theorem lostOf_c (At : Option Addr) (m ct : Nat) (t : List (List Int)) (A : Option Addr) (n c : Nat) (list : List (List Int)) (w : World) (B : Nat) (hT : Sl2 w B ILit At m ct t) (hS : Sl2 w B ILit A n c list) (hB : B ≤ w.heap.size)
    (hsq : sqB t = true) (hin : ∀ p ∈ list, ∀ x ∈ p, 0 ≤ x ∧ x < m) (hic : inC t = true) (hn : n ≤ 1048576) :
    Calls Try.prog 63 #[.slice At m ct, .slice A n c] w fun e w' => e = .returned (.int .i64 (lostN t list)) ∧ Below w.heap.size w w' := by
  obtain ⟨hc0, hc1⟩ := hS.cap
  have HL := Lib.hid hS.len
  have HSQ := Lib.hid hsq
  have HIN := Lib.hid hin
  have HIC := Lib.hid hic
  have hT0 := hT.more hB
  have hS0 := hS.more hB
  clear hsq hin hic hT hS
  go_enter Try.func63, Try.ntmps63
  go_wp2_with fail
  go_loopw [5, 10] (fun l i wr => ∃ (k : Nat), k ≤ n ∧ i = .int .i64 k ∧ l = .int .i64 (lostUp t list k) ∧ Below w.heap.size w wr) (fun _ i _ => n - (intOf i).toNat)
  case atStart => exact ⟨0, by omega, rfl, rfl, Below.refl _ _⟩
  case round =>
    obtain ⟨k, hk, rfl, rfl, hb⟩ := hrel
    have hzr := hb.size
    by_cases hlt : k < n
    · obtain ⟨b, o, xs, A1, n1, c1, rfl, hbl, hx, hcell, hrow⟩ := (hS0.below hb).at_ hlt
      have hj := next_at hlt
      obtain ⟨b', o', ys, A2, n2, c2, hA, -, hy, hcell2, hrow2⟩ := (hS0.below hb).at_ hj
      injection hA with hA
      injection hA with hA1 hA2
      subst hA1 hA2
      obtain ⟨j, hje⟩ : ∃ j, (k + 1) % n = j := ⟨_, rfl⟩
      have hmod : ((k : Int) + 1) % (n : Int) = (j : Int) := by rw [int_mod, hje]
      rw [hje] at hj hcell2 hy
      have r1 : wr.cell? ⟨b, o + k, none⟩ = some (.slice A1 n1 c1) := hcell
      have r2 : wr.cell? ⟨b, o + j, none⟩ = some (.slice A2 n2 c2) := hcell2
      have HE := Lib.hid (lostUp_succ (t := t) hx (by rw [HL.out, hje]; exact hy))
      obtain ⟨l0, l1⟩ := lostUp_bd HIC.out list k
      obtain ⟨d0, d1⟩ := changeN_bd HIC.out xs ys
      have C1 := Lib.hid (changeOf_c At m ct t A1 n1 c1 xs A2 n2 c2 ys wr _ (hT0.below hb) hrow hrow2 hzr HSQ.out (HIN.out xs (List.mem_of_getElem? hx)) (HIN.out ys (List.mem_of_getElem? hy)))
      have n0 : (0 : Int) < (n : Int) := by omega
      clear hcell hcell2 hx hy hrow hrow2 hje
      go_wp2_with fail
      clear hmod
      refine C1.out.mono ?_
      rintro e w1 ⟨rfl, hb1⟩
      have hb01 := hb.trans (hb1.mono hzr)
      clear C1 hb1
      go_wp2_with fail
      go_roundw
      case rel => exact ⟨k + 1, by omega, by go_num, by rw [HE.out], hb01⟩
      case measure => simp [intOf]; omega
    · obtain rfl : k = n := by omega
      have HE : Hid (lostUp t list k = lostN t list) := Lib.hid (by rw [lostN, HL.out])
      go_wp2_with fail
      go_ret
      exact ⟨by rw [← HE.out]; rfl, hb⟩

set_option maxHeartbeats 4000000 in
theorem sLostOf_c (At : Option Addr) (m ct : Nat) (t : List (List Int)) (A : Option Addr) (n c : Nat) (list : List (List Int)) (w : World) (B : Nat) (hT : Sl2 w B ILit At m ct t) (hS : Sl2 w B ILit A n c list) (hB : B ≤ w.heap.size)
    (hsq : sqB t = true) (hin : ∀ p ∈ list, ∀ x ∈ p, 0 ≤ x ∧ x < m) (hic : inC t = true) (hn : n ≤ 1048576) (hpl : ∀ p ∈ list, p.length ≤ 1048576) :
    Calls Try.prog 62 #[.slice At m ct, .slice A n c] w fun e w' => e = .returned (.int .i64 (lostN t list)) ∧ Below w.heap.size w w' := by
  obtain ⟨hc0, hc1⟩ := hS.cap
  have HL := Lib.hid hS.len
  have HSQ := Lib.hid hsq
  have HIN := Lib.hid hin
  have HIC := Lib.hid hic
  have HPL := Lib.hid hpl
  have hT0 := hT.more hB
  have hS0 := hS.more hB
  clear hsq hin hic hT hS hpl
  go_enter Try.func62, Try.ntmps62
  go_wp2_with fail
  go_loopw [5, 6] (fun l i wr => ∃ (k : Nat), k ≤ n ∧ i = .int .i64 k ∧ l = .int .i64 (lostUp t list k) ∧ Below w.heap.size w wr) (fun _ i _ => n - (intOf i).toNat)
  case atStart => exact ⟨0, by omega, rfl, rfl, Below.refl _ _⟩
  case round =>
    obtain ⟨k, hk, rfl, rfl, hb⟩ := hrel
    have hzr := hb.size
    by_cases hlt : k < n
    · obtain ⟨b, o, xs, A1, n1, c1, rfl, hbl, hx, hcell, hrow⟩ := (hS0.below hb).at_ hlt
      have hj := next_at hlt
      obtain ⟨b', o', ys, A2, n2, c2, hA, -, hy, hcell2, hrow2⟩ := (hS0.below hb).at_ hj
      injection hA with hA
      injection hA with hA1 hA2
      subst hA1 hA2
      obtain ⟨j, hje⟩ : ∃ j, (k + 1) % n = j := ⟨_, rfl⟩
      have hmod : ((k : Int) + 1).tmod (n : Int) = (j : Int) := by rw [show ((k : Int) + 1) = ((k + 1 : Nat) : Int) from rfl, ← hje]; rfl
      rw [hje] at hj hcell2 hy
      have r1 : wr.cell? ⟨b, o + k, none⟩ = some (.slice A1 n1 c1) := hcell
      have r2 : wr.cell? ⟨b, o + j, none⟩ = some (.slice A2 n2 c2) := hcell2
      have hbw : b < wr.heap.size := by omega
      have hn1 := hrow.len
      have hn2 := hrow2.len
      have hp1 := HPL.out xs (List.mem_of_getElem? hx)
      have hp2 := HPL.out ys (List.mem_of_getElem? hy)
      rw [hn1] at hp1
      rw [hn2] at hp2
      have HE := Lib.hid (lostUp_succ (t := t) hx (by rw [HL.out, hje]; exact hy))
      obtain ⟨l0, l1⟩ := lostUp_bd HIC.out list k
      obtain ⟨d0, d1⟩ := changeN_bd HIC.out xs ys
      have hT1 := hT0.below hb
      have C1 := Lib.hid (fun (os : Array Obj) (d : Nat) => sChange_c At m ct t A1 n1 c1 xs A2 n2 c2 ys (plus wr os d) _ (hT1.keep fun b' i h => cell?_plus wr os d b' i (by omega)) (hrow.plus hzr os d) (hrow2.plus hzr os d) (by simp; omega) (by omega) (by omega) HSQ.out (HIN.out xs (List.mem_of_getElem? hx)) (HIN.out ys (List.mem_of_getElem? hy)))
      have k0 : (0 : Int) ≤ (k : Int) := by omega
      have k1 : (k : Int) < (n : Int) := by omega
      have j0 : (0 : Int) ≤ (j : Int) := by omega
      have j1 : (j : Int) < (n : Int) := by omega
      have n0 : ((n : Int) == 0) = false := by simp; omega
      have n1' : ¬ n = 0 := by omega
      have s1 : IntKind.i64.wrap ((k : Int) + 1) = (k : Int) + 1 := IntWalk.i64_in _ (by omega)
      have s2 : IntKind.i64.wrap (j : Int) = (j : Int) := IntWalk.i64_in _ (by omega)
      have s3 : IntKind.i64.wrap (lostUp t list k + changeN t xs ys) = lostUp t list k + changeN t xs ys := IntWalk.i64_in _ (by omega)
      have HB := Lib.hid hb
      have HKN := Lib.hid (show k + 1 ≤ n by omega)
      clear hcell hcell2 hx hy hrow hrow2 hje hT1 hb hn1 hn2
      go_wp2_with fail
      refine wp_region_plus (by kernel_rfl) (by kernel_rfl) ?_; (repeat (go_big_quiet_step ((go_at_call 57; exact quiet_plus (C1.out _ _))))); refine wpQuiet_nil ?_; intro _ hw'; obtain ⟨⟨osq, dq⟩, hw''⟩ := hw'; subst hw''
      clear s1 s2 s3 hmod
      go_wp2_with fail
      go_roundw
      case rel => exact ⟨k + 1, HKN.out, by go_num, by rw [HE.out], by have hb := HB.out; (repeat' (first | (with_reducible exact Below.refl _ _) | (with_reducible assumption) | (with_reducible refine Below.alloc ?_ ?_ _) | (with_reducible refine below_plus ?_ ?_ _ _) | (with_reducible refine Below.drew ?_) | (with_reducible refine Below.setCell ?_ ?_ _) | (with_reducible refine below_adv ?_ ?_ _) | go_size | (simp; done) | (simp; omega)))⟩
      case measure => simp [intOf]; omega
    · obtain rfl : k = n := by omega
      have HE : Hid (lostUp t list k = lostN t list) := Lib.hid (by rw [lostN, HL.out])
      go_wp2_with fail
      go_ret
      exact ⟨by rw [← HE.out]; rfl, hb⟩
end Go.Proofs.Ytlpbmnmhpknppaa
