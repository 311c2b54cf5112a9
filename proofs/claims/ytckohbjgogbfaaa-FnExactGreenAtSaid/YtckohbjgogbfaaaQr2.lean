/- The stage at a second: the reference's stageAt, walked. -/
import Derived.Test.YtckohbjgogbfaaaQr1
set_option linter.unusedVariables false
set_option linter.unusedSimpArgs false
namespace Go.Proofs.Ytckohbjgogbfaaa
open Go.RowKit

set_option maxHeartbeats 4000000 in
theorem stageAt_c (At : Option Addr) (m ct : Nat) (t : List (List Int)) (A : Option Addr) (n c : Nat) (ss : List (List Int × Int)) (s : Int) (w : World) (B : Nat) (hT : Sl2 w B ILit At m ct t) (hS : SlS w B A n c ss) (hB : B ≤ w.heap.size) (hn : n ≤ 1048576)
    (hsq : sqB t = true) (hic : inC t = true) (hin : ∀ s ∈ ss, ∀ x ∈ s.1, 0 ≤ x ∧ x < m) (hgr : grOk ss) (hpl : ∀ s ∈ ss, s.1.length ≤ 1048576) (hs0 : 0 ≤ s) (hs1 : s < cycN t ss) :
    Calls Try.prog 57 #[.agg #[.slice At m ct, .slice A n c], .int .i64 s] w fun e w' => e = .returned (.tuple #[.int .i64 (stg t ss s (ss.length - 1) : Nat), .int .i64 (s - cycUp t ss (stg t ss s (ss.length - 1)))]) ∧ Below w.heap.size w w' := by
  obtain ⟨hc0, hc1⟩ := hS.cap
  obtain ⟨W2, hW2⟩ : ∃ W2, w.alloc (.cells #[.slice At m ct, .slice A n c] 26) = W2 := ⟨_, rfl⟩
  have hb0 : Below w.heap.size w W2 := by rw [← hW2]; exact (Below.refl _ _).alloc (Nat.le_refl _) _
  have hh : W2.heap[w.heap.size]? = some (.cells #[.slice At m ct, .slice A n c] 26 (0, 0)) := by rw [← hW2]; exact heap_alloc_new w _
  have hzl := lt_of_heap hh
  have k0 : W2.cell? ⟨w.heap.size, 0, none⟩ = some (.slice At m ct) := by rw [cell_of_row _ _ _ _ _ _ hh]; rfl
  have k1 : W2.cell? ⟨w.heap.size, 1, none⟩ = some (.slice A n c) := by rw [cell_of_row _ _ _ _ _ _ hh]; rfl
  have hT0 := ((hT.more hB).below hb0).more hb0.size
  have hS0 := ((hS.more hB).below hb0).more hb0.size
  have HLN := Lib.hid hS.len
  have HIC := Lib.hid hic
  have HGR := Lib.hid hgr
  have hcb := (cycUp_bd hic hgr ss.length).2
  have hs2 : s ≤ 47185920 := by have : cycN t ss = cycUp t ss ss.length := rfl; rw [hS.len] at *; omega
  have HS1 := Lib.hid hs1
  have CG := Lib.hid (fun (k : Nat) (hk : k < n) w' (hw : Below W2.heap.size W2 w') => gapAfter_c At m ct t A n c ss k w' _ (hT0.below hw) (hS0.below hw) hw.size hk hn hsq hin hpl)
  clear hh hT hS hsq hic hin hgr hpl hT0 hs1 hcb
  go_enter Try.func57, Try.ntmps57
  go_wp2_with fail
  clear hW2
  go_loopw [1, 6] (fun l i wr => ∃ (k : Nat), k < n ∧ i = .int .i64 k ∧ l = .int .i64 (s - cycUp t ss k) ∧ cycUp t ss k ≤ s ∧ Below W2.heap.size W2 wr) (fun _ i _ => n - (intOf i).toNat)
  case atStart => exact ⟨0, by have h1 := HS1.out; have h2 := HLN.out; rcases Nat.eq_zero_or_pos n with h | h; (have h3 : cycN t ss = 0 := by (unfold cycN; rw [h2, h]; rfl)); omega; exact h, rfl, by simp [cycUp], hs0, Below.refl _ _⟩
  case round =>
    obtain ⟨k, hlt, rfl, rfl, hck, hb⟩ := hrel
    have hzr := hb.size
    have k0r := (hb.cell (p := ⟨w.heap.size, 0, none⟩) hzl).trans k0
    have k1r := (hb.cell (p := ⟨w.heap.size, 1, none⟩) hzl).trans k1
    obtain ⟨b, o, ph, g, A1, n1, c1, rfl, hbl, hx, hcell, hcellg, hrow⟩ := hS0.at_ hlt
    have r2 := (hb.cell (p := ⟨b, o + k * 2 + 1, none⟩) hbl).trans hcellg
    obtain ⟨e1, e2⟩ := phAt_of hx
    have HE : Hid (cycUp t ss (k + 1) = cycUp t ss k + g + gapN t ss k) := Lib.hid (by rw [cycUp, e2]; omega)
    obtain ⟨g5, g40⟩ := HGR.out _ (List.mem_of_getElem? hx)
    obtain ⟨d0, d1⟩ := changeN_bd HIC.out (phAt ss k) (phAt ss ((k + 1) % ss.length))
    obtain ⟨l0, l1⟩ := cycUp_bd HIC.out HGR.out k
    change 0 ≤ gapN t ss k at d0
    change gapN t ss k ≤ 5 at d1
    have CG1 := Lib.hid (fun (os : Array Obj) (d : Nat) => CG.out k hlt (plus wr os d) (by (repeat' (first | (with_reducible exact Below.refl _ _) | (with_reducible assumption) | (with_reducible refine Below.alloc ?_ ?_ _) | (with_reducible refine below_plus ?_ ?_ _ _) | (with_reducible refine Below.drew ?_) | (with_reducible refine Below.setCell ?_ ?_ _) | (with_reducible refine below_adv ?_ ?_ _) | go_size | (simp; done) | (simp; omega)))))
    have q1 : w.heap.size < wr.heap.size := by omega
    have q2 : b < wr.heap.size := by omega
    have i0 : (0 : Int) ≤ (k : Int) := by omega
    have i1 : (k : Int) < (n : Int) := by omega
    have w1 : IntKind.i64.wrap (g + gapN t ss k) = g + gapN t ss k := IntWalk.i64_in _ (by omega)
    have HB := Lib.hid hb
    by_cases hge : g + gapN t ss k ≤ s - cycUp t ss k
    · have w2 : IntKind.i64.wrap (s - cycUp t ss k - g) = s - cycUp t ss k - g := IntWalk.i64_in _ (by omega)
      have w3 : IntKind.i64.wrap (s - cycUp t ss k - g - gapN t ss k) = s - cycUp t ss k - g - gapN t ss k := IntWalk.i64_in _ (by omega)
      have HK : Hid (k + 1 < n) := Lib.hid (by
        have h1 := HS1.out
        have h2 := HLN.out
        have h3 := HE.out
        rcases Nat.lt_or_ge (k + 1) n with h | h
        · exact h
        · have h4 : cycN t ss = cycUp t ss (k + 1) := by unfold cycN; rw [h2]; congr 1; omega
          omega)
      clear hcell hcellg hrow hx e1 e2 hb
      go_wp2_with fail
      refine wp_region_plus (by kernel_rfl) (by kernel_rfl) ?_; (repeat (go_big_quiet_step ((go_at_call 60; exact quiet_plus (CG1.out _ _))))); refine wpQuiet_nil ?_; intro _ hw'; obtain ⟨⟨osq, dq⟩, hw''⟩ := hw'; subst hw''
      clear w1
      go_wp2_with fail
      refine wp_region_plus (by kernel_rfl) (by kernel_rfl) ?_; (repeat (go_big_quiet_step (first | (go_at_call 60; exact quiet_plus2 (CG1.out _ _)) | (go_at_call 60; exact quiet_plus (CG1.out _ _))))); refine wpQuiet_nil ?_; intro _ hw'; obtain ⟨⟨osq, dq⟩, hw''⟩ := hw'; subst hw''
      clear w2 w3
      go_wp2_with fail
      go_roundw
      case rel => exact ⟨k + 1, HK.out, by go_num, by rw [HE.out]; congr 1; omega, by have := HE.out; omega, by have hb := HB.out; (repeat' (first | (with_reducible exact Below.refl _ _) | (with_reducible assumption) | (with_reducible refine Below.alloc ?_ ?_ _) | (with_reducible refine below_plus ?_ ?_ _ _) | (with_reducible refine Below.drew ?_) | (with_reducible refine Below.setCell ?_ ?_ _) | (with_reducible refine below_adv ?_ ?_ _) | go_size | (simp; done) | (simp; omega)))⟩
      case measure => simp [intOf]; omega
    · have HF : Hid (stg t ss s (ss.length - 1) = k) := Lib.hid (stg_of HIC.out HGR.out (by rw [HLN.out]; exact hlt) hck (by have := HE.out; omega))
      clear hcell hcellg hrow hx e1 e2 hb
      go_wp2_with fail
      refine wp_region_plus (by kernel_rfl) (by kernel_rfl) ?_; (repeat (go_big_quiet_step ((go_at_call 60; exact quiet_plus (CG1.out _ _))))); refine wpQuiet_nil ?_; intro _ hw'; obtain ⟨⟨osq, dq⟩, hw''⟩ := hw'; subst hw''
      clear w1
      go_wp2_with fail
      refine bodyPost_ret (v := .tuple #[.int .i64 k, .int .i64 (s - cycUp t ss k)]) (by simp [results, Try.results57, go_sem]; try rfl) rfl ?_
      exact ⟨by rw [HF.out], hb0.trans ((by have hb := HB.out; (repeat' (first | (with_reducible exact Below.refl _ _) | (with_reducible assumption) | (with_reducible refine Below.alloc ?_ ?_ _) | (with_reducible refine below_plus ?_ ?_ _ _) | (with_reducible refine Below.drew ?_) | (with_reducible refine Below.setCell ?_ ?_ _) | (with_reducible refine below_adv ?_ ?_ _) | go_size | (simp; done) | (simp; omega))) : Below W2.heap.size W2 _).mono hb0.size)⟩
end Go.Proofs.Ytckohbjgogbfaaa
