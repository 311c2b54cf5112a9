/- The exact laws' helpers on plans: eqStage, eqStageS, eqPlan on equal plans. -/
import Derived.Test.YtckohbjgogbfaaaQh3
set_option linter.unusedVariables false
set_option linter.unusedSimpArgs false
namespace Go.Proofs.Ytckohbjgogbfaaa
open Go.RowKit

set_option maxHeartbeats 1600000 in
theorem eqStage_t (A : Option Addr) (n c : Nat) (xs : List Int) (A2 : Option Addr) (n2 c2 : Nat) (g : Int) (w : World) (B B2 : Nat) (hS : Sl w B ILit A n c xs) (hB : B ≤ w.heap.size) (hT : Sl w B2 ILit A2 n2 c2 xs) (hB2 : B2 ≤ w.heap.size) :
    Calls Try.prog 66 #[.agg #[.slice A n c, .int .i64 g], .agg #[.slice A2 n2 c2, .int .i64 g]] w fun e w' => e = .returned (.bool true) ∧ Below w.heap.size w w' := by
  obtain ⟨W2, hW2⟩ : ∃ W2, w.alloc (.cells #[.slice A n c, .int .i64 g] 35) = W2 := ⟨_, rfl⟩
  obtain ⟨W3, hW3⟩ : ∃ W3, W2.alloc (.cells #[.slice A2 n2 c2, .int .i64 g] 35) = W3 := ⟨_, rfl⟩
  have z2 : W2.heap.size = w.heap.size + 1 := by rw [← hW2]; simp
  have z3 : W3.heap.size = w.heap.size + 1 + 1 := by rw [← hW3]; simp [z2]
  have b2 : Below w.heap.size w W2 := by rw [← hW2]; exact (Below.refl _ _).alloc (Nat.le_refl _) _
  have b3 : Below W2.heap.size W2 W3 := by rw [← hW3]; exact (Below.refl _ _).alloc (Nat.le_refl _) _
  have hh : W3.heap[w.heap.size]? = some (.cells #[.slice A n c, .int .i64 g] 35 (0, 0)) := by
    rw [b3.block _ (by omega), ← hW2]; exact heap_alloc_new w _
  have hh1 : W3.heap[w.heap.size + 1]? = some (.cells #[.slice A2 n2 c2, .int .i64 g] 35 (0, 0)) := by
    rw [← hW3, ← z2]; exact heap_alloc_new W2 _
  have hb : Below w.heap.size w W3 := b2.trans (b3.mono (by omega))
  have k0 : W3.cell? ⟨w.heap.size, 0, none⟩ = some (.slice A n c) := by rw [cell_of_row _ _ _ _ _ _ hh]; rfl
  have k1 : W3.cell? ⟨w.heap.size + 1, 0, none⟩ = some (.slice A2 n2 c2) := by rw [cell_of_row _ _ _ _ _ _ hh1]; rfl
  have CE := Lib.hid (eqIntS_t A n c xs A2 n2 c2 W3 _ _ (((hS.more hB).below hb).more hb.size) (Nat.le_refl _) (((hT.more hB2).below hb).more hb.size) (Nat.le_refl _))
  have HH := Lib.hid hh
  have HH1 := Lib.hid hh1
  have HB := Lib.hid hb
  have Z3 := Lib.hid z3
  clear hS hT b2 b3 hh hh1 hb z3
  go_enter Try.func66, Try.ntmps66
  go_wp2_with fail
  clear hW2 hW3 z2
  refine CE.out.mono ?_
  rintro e w1 ⟨rfl, hb1⟩
  have hz3 := Z3.out
  have i0 := (hb1.block _ (show w.heap.size < W3.heap.size by omega)).trans HH.out
  have i1 := (hb1.block _ (show w.heap.size + 1 < W3.heap.size by omega)).trans HH1.out
  have c01 : w1.cell? ⟨w.heap.size, 1, none⟩ = some (.int .i64 g) := by rw [cell_of_row _ _ _ _ _ _ i0]; rfl
  have c11 : w1.cell? ⟨w.heap.size + 1, 1, none⟩ = some (.int .i64 g) := by rw [cell_of_row _ _ _ _ _ _ i1]; rfl
  have hbb := HB.out.trans (hb1.mono (by omega))
  clear i0 i1 CE
  go_wp2_with fail
  go_ret
  exact ⟨rfl, hbb⟩

set_option maxHeartbeats 1600000 in
theorem eqStageS_t (A : Option Addr) (n c : Nat) (ss : List (List Int × Int)) (A2 : Option Addr) (n2 c2 : Nat) (w : World) (B B2 : Nat) (hS : SlS w B A n c ss) (hB : B ≤ w.heap.size) (hT : SlS w B2 A2 n2 c2 ss) (hB2 : B2 ≤ w.heap.size) :
    Calls Try.prog 43 #[.slice A n c, .slice A2 n2 c2] w fun e w' => e = .returned (.bool true) ∧ Below w.heap.size w w' := by
  obtain rfl : n2 = n := by rw [← hS.len, ← hT.len]
  obtain ⟨hc0, hc1⟩ := hS.cap
  have hS0 := hS.more hB
  have hT0 := hT.more hB2
  clear hS hT
  go_enter Try.func43, Try.ntmps43
  go_wp2_with fail
  go_loopw [5] (fun i wr => ∃ k : Nat, k ≤ n2 ∧ i = .int .i64 k ∧ Below w.heap.size w wr) (fun i _ => n2 - (intOf i).toNat)
  case atStart => exact ⟨0, Nat.zero_le _, rfl, Below.refl _ _⟩
  case round =>
    obtain ⟨k, hk, rfl, hb⟩ := hrel
    have hzr := hb.size
    by_cases hlt : k < n2
    · obtain ⟨b, o, xs, g, A', n', c', rfl, hbl, hx, hcell, hcellg, hrow⟩ := (hS0.below hb).at_ hlt
      obtain ⟨b2, o2, ys, g2, A2', n2', c2', rfl, hbl2, hy, hcell2, hcellg2, hrow2⟩ := (hT0.below hb).at_ hlt
      rw [hx] at hy
      simp only [Option.some.injEq, Prod.mk.injEq] at hy
      obtain ⟨rfl, rfl⟩ := hy
      have r1 : wr.cell? ⟨b, o + k * 2, none⟩ = some (.slice A' n' c') := hcell
      have r2 : wr.cell? ⟨b, o + k * 2 + 1, none⟩ = some (.int .i64 g) := hcellg
      have r3 : wr.cell? ⟨b2, o2 + k * 2, none⟩ = some (.slice A2' n2' c2') := hcell2
      have r4 : wr.cell? ⟨b2, o2 + k * 2 + 1, none⟩ = some (.int .i64 g) := hcellg2
      have hbw : b < wr.heap.size := by omega
      have hbw2 : b2 < wr.heap.size := by omega
      have hki : (k : Int) < (n2 : Int) := by omega
      have CE := Lib.hid fun os d => eqStage_t A' n' c' xs A2' n2' c2' g (plus wr os d) _ _ (hrow.plus hzr os d) (by simp; omega) (hrow2.plus hzr os d) (by simp; omega)
      clear hx hrow hrow2 hcell hcell2 hcellg hcellg2
      go_wp2_with fail
      refine wp_region_plus (by kernel_rfl) (by kernel_rfl) ?_; (repeat (go_big_quiet_step ((go_at_call 66; exact quiet_plus (CE.out _ _))))); refine wpQuiet_nil ?_; intro _ hw'; obtain ⟨⟨osq, dq⟩, hw''⟩ := hw'; subst hw''
      go_wp2_with fail
      go_roundw
      case rel => exact ⟨k + 1, by omega, by go_num, by (repeat' (first | (with_reducible exact Below.refl _ _) | (with_reducible assumption) | (with_reducible refine Below.alloc ?_ ?_ _) | (with_reducible refine below_plus ?_ ?_ _ _) | (with_reducible refine Below.drew ?_) | (with_reducible refine Below.setCell ?_ ?_ _) | (with_reducible refine below_adv ?_ ?_ _) | go_size | (simp; done) | (simp; omega)))⟩
      case measure => simp [intOf]; omega
    · obtain rfl : k = n2 := by omega
      go_wp2_with fail
      go_ret
      exact ⟨rfl, hb⟩

set_option maxHeartbeats 1600000 in
theorem eqPlan_t (At : Option Addr) (m ct : Nat) (A : Option Addr) (n c : Nat) (Bt : Option Addr) (m2 ct2 : Nat) (B : Option Addr) (n2 c2 : Nat) (t : List (List Int)) (ss : List (List Int × Int)) (w : World) (B1 : Nat) (hT : Sl2 w B1 ILit At m ct t) (hS : SlS w B1 A n c ss) (hT2 : Sl2 w B1 ILit Bt m2 ct2 t) (hS2 : SlS w B1 B n2 c2 ss) (hB : B1 ≤ w.heap.size) :
    Calls Try.prog 18 #[.agg #[.slice At m ct, .slice A n c], .agg #[.slice Bt m2 ct2, .slice B n2 c2]] w fun e w' => e = .returned (.bool true) ∧ Below w.heap.size w w' := by
  obtain ⟨W2, hW2⟩ : ∃ W2, w.alloc (.cells #[.slice At m ct, .slice A n c] 26) = W2 := ⟨_, rfl⟩
  obtain ⟨W3, hW3⟩ : ∃ W3, W2.alloc (.cells #[.slice Bt m2 ct2, .slice B n2 c2] 26) = W3 := ⟨_, rfl⟩
  have z2 : W2.heap.size = w.heap.size + 1 := by rw [← hW2]; simp
  have z3 : W3.heap.size = w.heap.size + 1 + 1 := by rw [← hW3]; simp [z2]
  have b2 : Below w.heap.size w W2 := by rw [← hW2]; exact (Below.refl _ _).alloc (Nat.le_refl _) _
  have b3 : Below W2.heap.size W2 W3 := by rw [← hW3]; exact (Below.refl _ _).alloc (Nat.le_refl _) _
  have hh : W3.heap[w.heap.size]? = some (.cells #[.slice At m ct, .slice A n c] 26 (0, 0)) := by
    rw [b3.block _ (by omega), ← hW2]; exact heap_alloc_new w _
  have hh1 : W3.heap[w.heap.size + 1]? = some (.cells #[.slice Bt m2 ct2, .slice B n2 c2] 26 (0, 0)) := by
    rw [← hW3, ← z2]; exact heap_alloc_new W2 _
  have hb : Below w.heap.size w W3 := b2.trans (b3.mono (by omega))
  have k0 : W3.cell? ⟨w.heap.size, 0, none⟩ = some (.slice At m ct) := by rw [cell_of_row _ _ _ _ _ _ hh]; rfl
  have k1 : W3.cell? ⟨w.heap.size + 1, 0, none⟩ = some (.slice Bt m2 ct2) := by rw [cell_of_row _ _ _ _ _ _ hh1]; rfl
  have CE := Lib.hid (eqIntSS_t At m ct t Bt m2 ct2 W3 _ _ (((hT.more hB).below hb).more hb.size) (Nat.le_refl _) (((hT2.more hB).below hb).more hb.size) (Nat.le_refl _))
  have HS := Lib.hid (((hS.more hB).below hb).more hb.size)
  have HS2 := Lib.hid (((hS2.more hB).below hb).more hb.size)
  have HH := Lib.hid hh
  have HH1 := Lib.hid hh1
  have HB := Lib.hid hb
  have Z3 := Lib.hid z3
  clear hS hS2 hT hT2 b2 b3 hh hh1 hb z3
  go_enter Try.func18, Try.ntmps18
  go_wp2_with fail
  clear hW2 hW3 z2
  refine CE.out.mono ?_
  rintro e w1 ⟨rfl, hb1⟩
  have hz3 := Z3.out
  have i0 := (hb1.block _ (show w.heap.size < W3.heap.size by omega)).trans HH.out
  have i1 := (hb1.block _ (show w.heap.size + 1 < W3.heap.size by omega)).trans HH1.out
  have c01 : w1.cell? ⟨w.heap.size, 1, none⟩ = some (.slice A n c) := by rw [cell_of_row _ _ _ _ _ _ i0]; rfl
  have c11 : w1.cell? ⟨w.heap.size + 1, 1, none⟩ = some (.slice B n2 c2) := by rw [cell_of_row _ _ _ _ _ _ i1]; rfl
  have CS := Lib.hid (eqStageS_t A n c ss B n2 c2 w1 _ _ ((HS.out.below hb1).more hb1.size) (Nat.le_refl _) ((HS2.out.below hb1).more hb1.size) (Nat.le_refl _))
  have hbb := HB.out.trans (hb1.mono (by omega))
  clear i0 i1 CE
  go_wp2_with fail
  clear c01 c11
  refine CS.out.mono ?_
  rintro e w2 ⟨rfl, hb2⟩
  have hb12 := hbb.trans (hb2.mono hbb.size)
  go_wp2_with fail
  go_ret
  exact ⟨rfl, hb12⟩
end Go.Proofs.Ytckohbjgogbfaaa
