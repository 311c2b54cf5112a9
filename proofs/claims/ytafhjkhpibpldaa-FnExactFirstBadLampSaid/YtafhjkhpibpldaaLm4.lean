/- The exact laws of FirstBadLamp and LampsOf, walked. -/
import Derived.Test.YtafhjkhpibpldaaLm2
import Derived.Test.YtafhjkhpibpldaaLm3
import Derived.Test.YtafhjkhpibpldaaHb
set_option linter.unusedVariables false
set_option linter.unusedSimpArgs false
namespace Go.Proofs.Ytafhjkhpibpldaa
open Go.RowKit

theorem exactFirstBadLamp_walk (s : ByteArray) (w : World) (hs : s.size ≤ maxLen) :
    Calls Try.prog 3 #[.string s] w fun e w' => e = .returned (.bool true) ∧ Below w.heap.size w w' := by
  unfold maxLen at hs
  by_cases hn : 1048576 < s.size
  · go_enter Try.func3, Try.ntmps3
    go_wp2
    go_ret
    exact ⟨rfl, by (repeat' (first | (with_reducible exact Below.refl _ _) | (with_reducible assumption) | (with_reducible refine Below.alloc ?_ ?_ _) | (with_reducible refine below_plus ?_ ?_ _ _) | (with_reducible refine Below.drew ?_) | (with_reducible refine Below.setCell ?_ ?_ _) | (with_reducible refine below_adv ?_ ?_ _) | go_size | (simp; omega)))⟩
  · have c1 := fun w => firstBadLamp_c s w hs
    have c2 := fun w => sfirstBadLamp_c s w hs
    obtain ⟨R, hR⟩ : ∃ R, fbF s = R := ⟨_, rfl⟩
    rw [hR] at c1 c2
    have C1 := Lib.hid c1
    have C2 := Lib.hid c2
    clear c1 c2 hR
    go_enter Try.func3, Try.ntmps3
    go_wp2_with (first | (go_at_call 9; refine (C1.out _).mono ?_; rintro e w1 ⟨rfl, hb1⟩; obtain ⟨os1, d1, rfl⟩ := is_plus hb1; clear hb1) | (go_at_call 8; refine (C2.out _).mono ?_; rintro e w1 ⟨rfl, hb1⟩; obtain ⟨os1, d1, rfl⟩ := is_plus hb1; clear hb1))
    go_ret
    exact ⟨rfl, by (repeat' (first | (with_reducible exact Below.refl _ _) | (with_reducible assumption) | (with_reducible refine Below.alloc ?_ ?_ _) | (with_reducible refine below_plus ?_ ?_ _ _) | (with_reducible refine Below.drew ?_) | (with_reducible refine Below.setCell ?_ ?_ _) | (with_reducible refine below_adv ?_ ?_ _) | go_size | (simp; omega)))⟩

set_option maxHeartbeats 1000000 in
theorem exactLampsOf_walk (A : Option Addr) (n c : Nat) (xs : List Bool) (w : World) (hS : Sl w w.heap.size OLit A n c xs) :
    Calls Try.prog 5 #[.slice A n c] w fun e w' => e = .returned (.bool true) ∧ Below w.heap.size w w' := by
  obtain ⟨hc0, hc1⟩ := hS.cap
  by_cases hn : 1048576 < n
  · go_enter Try.func5, Try.ntmps5
    go_wp2
    go_ret
    exact ⟨rfl, by (repeat' (first | (with_reducible exact Below.refl _ _) | (with_reducible assumption) | (with_reducible refine Below.alloc ?_ ?_ _) | (with_reducible refine below_plus ?_ ?_ _ _) | (with_reducible refine Below.drew ?_) | (with_reducible refine Below.setCell ?_ ?_ _) | (with_reducible refine below_adv ?_ ?_ _) | go_size | (simp; omega)))⟩
  · have hlen := hS.len
    have HL := Lib.hid hlen
    obtain ⟨out, hout⟩ : ∃ out : ByteArray, (⟨(lampsF xs).toArray⟩ : ByteArray) = out := ⟨_, rfl⟩
    have HO := Lib.hid hout
    clear hlen hout
    go_enter Try.func5, Try.ntmps5
    go_wp2_with fail
    refine (toBoolS_c A n c xs w _ hS (Nat.le_refl _) (by omega)).mono ?_
    rintro e w1 ⟨rfl, hw1⟩
    have hb1 : Below w.heap.size w w1 := by rw [← hw1]; exact (Below.refl _ _).alloc (Nat.le_refl _) _
    have hz1 : w.heap.size < w1.heap.size := by rw [← hw1]; simp
    have hS1 : Sl w1 w1.heap.size OLit (some ⟨w.heap.size, 0, none⟩) n n xs := by
      rw [← hw1, ← HL.out]
      exact (Ow.new w OLit xs _ (by rw [HL.out]; omega)).sl
    clear hw1
    go_wp2_with fail
    refine (sLampsOf_c _ n n xs w1 hS1).mono ?_
    rintro e w2 ⟨rfl, hb2⟩
    rw [HO.out]
    have hb2' : Below w.heap.size w w2 := hb1.trans (hb2.mono (by omega))
    have hz2 := hb2.size
    clear hS1
    go_wp2_with fail
    refine (toBoolS_c A n c xs w2 _ (hS.below hb2') (by omega) (by omega)).mono ?_
    rintro e w3 ⟨rfl, hw3⟩
    have hb3 : Below w2.heap.size w2 w3 := by rw [← hw3]; exact (Below.refl _ _).alloc (Nat.le_refl _) _
    have hz3 : w2.heap.size < w3.heap.size := by rw [← hw3]; simp
    have hb3' : Below w.heap.size w w3 := hb2'.trans (hb3.mono (by omega))
    have hS3 : Sl w3 w3.heap.size OLit (some ⟨w2.heap.size, 0, none⟩) n n xs := by
      rw [← hw3, ← HL.out]
      exact (Ow.new w2 OLit xs _ (by rw [HL.out]; omega)).sl
    clear hw3
    go_wp2_with fail
    refine (lampsOf_c _ n n xs w3 hS3).mono ?_
    rintro e w4 ⟨rfl, hb4⟩
    rw [HO.out]
    have hb4' : Below w.heap.size w w4 := hb3'.trans (hb4.mono (by omega))
    have hz4 := hb4.size
    go_wp2_with fail
    refine (toBoolS_c A n c xs w4 _ (hS.below hb4') (by omega) (by omega)).mono ?_
    rintro e w5 ⟨rfl, hw5⟩
    have hb5 : Below w4.heap.size w4 w5 := by rw [← hw5]; exact (Below.refl _ _).alloc (Nat.le_refl _) _
    have hz5 : w4.heap.size < w5.heap.size := by rw [← hw5]; simp
    have hb5' : Below w.heap.size w w5 := hb4'.trans (hb5.mono (by omega))
    have hS5 : Sl w5 w5.heap.size OLit (some ⟨w4.heap.size, 0, none⟩) n n xs := by
      rw [← hw5, ← HL.out]
      exact (Ow.new w4 OLit xs _ (by rw [HL.out]; omega)).sl
    clear hw5
    have hS3' : Sl w5 w3.heap.size OLit (some ⟨w2.heap.size, 0, none⟩) n n xs := (hS3.below hb4).below (hb5.mono (by omega))
    have he := eqBoolS_c _ _ _ xs _ _ _ xs w5 _ _ hS3' (by omega) hS5 (Nat.le_refl _)
    rw [eqL_true rfl] at he
    have HE := Lib.hid he
    clear he hS3 hS3' hS5 hS
    go_wp2_with fail
    refine HE.out.mono ?_
    rintro e w6 ⟨rfl, hb6⟩
    go_wp2_with fail
    go_ret
    exact ⟨rfl, hb5'.trans (hb6.mono (by omega))⟩
end Go.Proofs.Ytafhjkhpibpldaa
