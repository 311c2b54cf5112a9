/- My words and contracts, laid together: Ce1, Ce2. -/
import Derived.Test.YtpihjabmllcldaaPd
set_option linter.unusedVariables false
set_option linter.unusedSimpArgs false
/- lostOf, walked: the program's and the reference's. -/
namespace Go.Proofs.Ytpihjabmllcldaa
open Go.RowKit

theorem lostUp_succ {t list : List (List Int)} {k : Nat} {xs ys : List Int} (hx : list[k]? = some xs) (hy : list[(k + 1) % list.length]? = some ys) : lostUp t list (k + 1) = lostUp t list k + changeN t xs ys := by
  simp [lostUp, nxt, List.getD_eq_getElem?_getD, hx, hy]
theorem next_at {k n : Nat} (h : k < n) : (k + 1) % n < n := Nat.mod_lt _ (by omega)
theorem int_mod (a b : Nat) : ((a : Int) + 1) % (b : Int) = (((a + 1) % b : Nat) : Int) := by
  rw [show ((a : Int) + 1) = ((a + 1 : Nat) : Int) from rfl]; exact (Int.natCast_emod (a + 1) b).symm

set_option maxHeartbeats 4000000 in
theorem lostOf_c (At : Option Addr) (m ct : Nat) (t : List (List Int)) (A : Option Addr) (n c : Nat) (list : List (List Int)) (w : World) (B : Nat) (hT : Sl2 w B ILit At m ct t) (hS : Sl2 w B ILit A n c list) (hB : B ≤ w.heap.size)
    (hsq : sqB t = true) (hin : ∀ p ∈ list, ∀ x ∈ p, 0 ≤ x ∧ x < m) (hic : inC t = true) (hn : n ≤ 1048576) :
    Calls Try.prog 33 #[.slice At m ct, .slice A n c] w fun e w' => e = .returned (.int .i64 (lostN t list)) ∧ Below w.heap.size w w' := by
  obtain ⟨hc0, hc1⟩ := hS.cap
  have HL := Lib.hid hS.len
  have HSQ := Lib.hid hsq
  have HIN := Lib.hid hin
  have HIC := Lib.hid hic
  have hT0 := hT.more hB
  have hS0 := hS.more hB
  clear hsq hin hic hT hS
  go_enter Try.func33, Try.ntmps33
  go_wp2_with fail
  go_loopw [5, 10] (fun l i wr => ∃ (k : Nat), k ≤ n ∧ i = .int .i64 k ∧ l = .int .i64 (lostUp t list k) ∧ Below w.heap.size w wr) (fun _ i _ => n - (intOf i).toNat)
  case atStart => exact ⟨0, by omega, rfl, rfl, Below.refl _ _⟩
  case round =>
    obtain ⟨k, hk, rfl, rfl, hb⟩ := hrel
    have hzr := hb.size
    by_cases hlt : k < n
    · obtain ⟨b, o, xs, A1, n1, c1, rfl, hbl, hx, hcell, hrow⟩ := (hS0.below hb).at_ hlt
      have hj := next_at hlt
      obtain ⟨b', o', ys, A2, n2, c2, hA, -, hy, hcell2, hrow2⟩ := (hS0.below hb).at_ hj
      injection hA with hA
      injection hA with hA1 hA2
      subst hA1 hA2
      obtain ⟨j, hje⟩ : ∃ j, (k + 1) % n = j := ⟨_, rfl⟩
      have hmod : ((k : Int) + 1) % (n : Int) = (j : Int) := by rw [int_mod, hje]
      rw [hje] at hj hcell2 hy
      have r1 : wr.cell? ⟨b, o + k, none⟩ = some (.slice A1 n1 c1) := hcell
      have r2 : wr.cell? ⟨b, o + j, none⟩ = some (.slice A2 n2 c2) := hcell2
      have HE := Lib.hid (lostUp_succ (t := t) hx (by rw [HL.out, hje]; exact hy))
      obtain ⟨l0, l1⟩ := lostUp_bd HIC.out list k
      obtain ⟨d0, d1⟩ := changeN_bd HIC.out xs ys
      have C1 := Lib.hid (changeOf_c At m ct t A1 n1 c1 xs A2 n2 c2 ys wr _ (hT0.below hb) hrow hrow2 hzr HSQ.out (HIN.out xs (List.mem_of_getElem? hx)) (HIN.out ys (List.mem_of_getElem? hy)))
      have n0 : (0 : Int) < (n : Int) := by omega
      clear hcell hcell2 hx hy hrow hrow2 hje
      go_wp2_with fail
      clear hmod
      refine C1.out.mono ?_
      rintro e w1 ⟨rfl, hb1⟩
      have hb01 := hb.trans (hb1.mono hzr)
      clear C1 hb1
      go_wp2_with fail
      go_roundw
      case rel => exact ⟨k + 1, by omega, by go_num, by rw [HE.out], hb01⟩
      case measure => simp [intOf]; omega
    · obtain rfl : k = n := by omega
      have HE : Hid (lostUp t list k = lostN t list) := Lib.hid (by rw [lostN, HL.out])
      go_wp2_with fail
      go_ret
      exact ⟨by rw [← HE.out]; rfl, hb⟩

end Go.Proofs.Ytpihjabmllcldaa

/- LostTime, walked: the reference's and the program's. -/
namespace Go.Proofs.Ytpihjabmllcldaa
open Go.RowKit

theorem ringB_in {t list : List (List Int)} (h : ringB t list = true) : ∀ p ∈ list, ∀ x ∈ p, 0 ≤ x ∧ x < t.length := fun p hp => fitsB_in ((ringB_iff.1 h).2 p hp)
theorem ring_out {t list : List (List Int)} (h : inB list.length 1 5 = false) : ringB t list = false := by simp [ringB, h]
theorem ring_bad {t list : List (List Int)} {k : Nat} {xs : List Int} (hx : list[k]? = some xs) (h : fitsB t xs = false) : ringB t list = false := by
  have : list.all (fitsB t) = false := by rw [List.all_eq_false]; exact ⟨xs, List.mem_of_getElem? hx, by simp [h]⟩
  simp [ringB, this]
theorem ring_all {t list : List (List Int)} (h : list.all (fitsB t) = true) : ringB t list = inB list.length 1 5 := by simp [ringB, h]

set_option maxHeartbeats 4000000 in
theorem lostTime_c (At : Option Addr) (m ct : Nat) (t : List (List Int)) (A : Option Addr) (n c : Nat) (list : List (List Int)) (w : World) (B : Nat) (hT : Sl2 w B ILit At m ct t) (hS : Sl2 w B ILit A n c list) (hB : B ≤ w.heap.size) (hpl : ∀ p ∈ list, p.length ≤ 1048576) :
    Calls Try.prog 17 #[.slice At m ct, .slice A n c] w fun e w' => e = .returned (.int .i64 (lostF t list)) ∧ Below w.heap.size w w' := by
  have hl := hT.len
  have hln := hS.len
  have hT0 := hT.more hB
  have hS0 := hS.more hB
  have cw := within_c (n : Int) 1 5 w
  have cv := validPhases_c At m ct t A n c list w B hT hS hB (fun p hp => Nat.le_trans (hpl p hp) (by omega))
  cases hin5 : inB (n : Int) 1 5
  · have HE : Hid (lostF t list = -1) := Lib.hid (by rw [lostF, ring_out (by rw [hln]; exact hin5)]; simp)
    rw [hin5] at cw
    have CW := Lib.hid cw
    clear cv cw hT hS hT0 hS0 hl hln hpl hin5
    go_enter Try.func17, Try.ntmps17
    go_wp2_with fail
    refine CW.out.mono ?_
    rintro e w1 ⟨rfl, rfl⟩
    go_wp2_with fail
    go_ret
    exact ⟨by rw [HE.out]; rfl, Below.refl _ _⟩
  · rw [hin5] at cw
    have CW := Lib.hid cw
    have hrr : ringB t list = list.all (fitsB t) := by rw [ringB, hln, hin5]; rfl
    rw [← hrr] at cv
    cases hr : ringB t list
    · have HE : Hid (lostF t list = -1) := Lib.hid (by simp [lostF, hr])
      rw [hr] at cv
      have CV := Lib.hid cv
      clear cv cw hr hrr hT hS hT0 hS0 hl hln hpl hin5
      go_enter Try.func17, Try.ntmps17
      go_wp2_with fail
      refine CW.out.mono ?_
      rintro e w1 ⟨rfl, rfl⟩
      go_wp2_with fail
      refine CV.out.mono ?_
      rintro e w1 ⟨rfl, hb1⟩
      go_wp2_with fail
      go_ret
      exact ⟨by rw [HE.out]; rfl, hb1⟩
    · have HE : Hid (lostF t list = lostN t list) := Lib.hid (by simp [lostF, hr])
      rw [hr] at cv
      have CV := Lib.hid cv
      obtain ⟨hok, hic⟩ := ringB_inC hr
      have hin := ringB_in hr
      rw [hl] at hin
      have h5 := (ringB_iff.1 hr).1.2
      rw [hln] at h5
      have C2 := Lib.hid (fun w' (hb : Below w.heap.size w w') => lostOf_c At m ct t A n c list w' _ (hT0.below hb) (hS0.below hb) hb.size (cOk_iff.1 hok).2.2.1 hin hic (by omega))
      clear cv cw hr hrr hT hS hT0 hS0 hl hln hpl hok hic hin hin5
      go_enter Try.func17, Try.ntmps17
      go_wp2_with fail
      refine CW.out.mono ?_
      rintro e w1 ⟨rfl, rfl⟩
      go_wp2_with fail
      refine CV.out.mono ?_
      rintro e w1 ⟨rfl, hb1⟩
      go_wp2_with fail
      refine (C2.out w1 hb1).mono ?_
      rintro e w2 ⟨rfl, hb2⟩
      go_wp2_with fail
      go_ret
      exact ⟨by rw [HE.out]; rfl, hb1.trans (hb2.mono hb1.size)⟩
end Go.Proofs.Ytpihjabmllcldaa
