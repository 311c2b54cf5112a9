/- The reference's tripCost, walked. -/
import Derived.Test.YtillmnhhkhjpkaaSc1
set_option linter.unusedVariables false
set_option linter.unusedSimpArgs false
namespace Go.Proofs.Ytillmnhhkhjpkaa
open Go.RowKit

theorem sDistance2_c (a : Int) (w : World) (ha : -1000000 ≤ a ∧ a ≤ 1000000) :
    Calls Try.prog 41 #[.int .i64 a] w fun e w' => e = .returned (.int .i64 (a.natAbs : Int)) ∧ w = w' :=
  (sDistance_c a w ha).mono fun e w' h => ⟨h.1, h.2.symm⟩
set_option maxHeartbeats 4000000 in
theorem tripCost_c (at0 : Int) (A : Option Addr) (n c : Nat) (cs : List CallT) (A2 : Option Addr) (c2 : Nat) (ss : List Nat) (i : Nat) (w : World) (B : Nat) (hS : SlC w B A n c cs) (hT : Sl w B NLit A2 n c2 ss) (hB : B ≤ w.heap.size) (hn : n ≤ 6)
    (ha : 0 ≤ at0 ∧ at0 ≤ 15) (hok : ∀ c ∈ cs, (0 ≤ c.1 ∧ c.1 ≤ 15) ∧ (0 ≤ c.2.1 ∧ c.2.1 ≤ 15)) :
    Calls Try.prog 32 #[.int .i64 at0, .slice A n c, .slice A2 n c2, .int .i64 i] w fun e w' => e = .returned (.int .i64 (trp at0 (cs.map prC) ss i)) ∧ Below w.heap.size w w' := by
  obtain ⟨hc0, hc1⟩ := hS.cap
  obtain ⟨hd0, hd1⟩ := hT.cap
  have HS := Lib.hid (hS.more hB)
  have HT := Lib.hid (hT.more hB)
  have HOK := Lib.hid hok
  obtain ⟨X, hX⟩ : ∃ X, trp at0 (cs.map prC) ss i = X := ⟨_, rfl⟩
  have h0 : Hid (X = 0 + trp at0 ((cs.drop 0).map prC) (ss.drop 0) i) := Lib.hid (by rw [List.drop_zero, List.drop_zero, hX]; omega)
  rw [hX]
  clear hS hT hok hX
  go_enter Try.func32, Try.ntmps32
  go_wp2_with fail
  go_loopw [0, 9, 10] (fun av sv ix wr => ∃ (k : Nat) (a s : Int), k ≤ n ∧ ix = .int .i64 k ∧ av = .int .i64 a ∧ sv = .int .i64 s ∧ (0 ≤ a ∧ a ≤ 15) ∧ (0 ≤ s ∧ s ≤ 30 * k) ∧ Hid (X = s + trp a ((cs.drop k).map prC) (ss.drop k) i) ∧ Below w.heap.size w wr) (fun _ _ ix _ => n - (intOf ix).toNat)
  case atStart => exact ⟨0, at0, 0, by omega, rfl, rfl, rfl, ha, by omega, h0, Below.refl _ _⟩
  case round =>
    clear h0
    obtain ⟨k, a, s, hk, rfl, rfl, rfl, ⟨ha0, ha1⟩, ⟨hs0, hs1⟩, hst, hb⟩ := hrel
    have hzr := hb.size
    by_cases hlt : k < n
    · obtain ⟨b, o, x, y, z, rfl, hbl, hx, q1, q2, q3⟩ := (HS.out.below hb).at_ hlt
      obtain ⟨b2, o2, sv, rfl, hbl2, hsv, q4⟩ := (HT.out.below hb).at_ hlt
      obtain ⟨⟨x0, x1⟩, y0, y1⟩ := HOK.out _ (List.mem_of_getElem? hx)
      dsimp only at x0 x1 y0 y1
      have q4' : wr.cell? ⟨b2, o2 + k, none⟩ = some (.int .i64 sv) := q4
      have hstep := trp_step (i := i) a hx hsv
      dsimp only at hstep
      have u1 : b < wr.heap.size := by omega
      have u2 : b2 < wr.heap.size := by omega
      have n1 : (0 : Int) ≤ (k : Int) := by omega
      have n2 : (k : Int) < (n : Int) := by omega
      have HB := Lib.hid hb
      by_cases hsi : sv = i
      · rw [if_pos hsi] at hstep
        have d1 := dst_le (m := 15) ⟨ha0, ha1⟩ ⟨x0, x1⟩
        have d2 := dst_le (m := 15) ⟨x0, x1⟩ ⟨y0, y1⟩
        have d3 := dst_pos a x
        have d4 := dst_pos x y
        have e1 : ((x - a).natAbs : Int) = dst a x := by unfold dst; omega
        have e2 : ((y - x).natAbs : Int) = dst x y := by unfold dst; omega
        have cd1 := fun (os : Array Obj) (d : Nat) => sDistance2_c (x - a) (plus wr os d) (by omega)
        have cd2 := fun (os : Array Obj) (d : Nat) => sDistance2_c (y - x) (plus wr os d) (by omega)
        rw [e1] at cd1
        rw [e2] at cd2
        obtain ⟨D1, hD1⟩ : ∃ D1, dst a x = D1 := ⟨_, rfl⟩
        obtain ⟨D2, hD2⟩ : ∃ D2, dst x y = D2 := ⟨_, rfl⟩
        rw [hD1] at d1 d3 cd1 hstep
        rw [hD2] at d2 d4 cd2 hstep
        have CD1 := Lib.hid cd1
        have CD2 := Lib.hid cd2
        have f1 : IntKind.i64.wrap (x - a) = x - a := IntWalk.i64_in _ (by omega)
        have f2 : IntKind.i64.wrap (y - x) = y - x := IntWalk.i64_in _ (by omega)
        have f3 : IntKind.i64.wrap (s + D1) = s + D1 := IntWalk.i64_in _ (by omega)
        have f4 : IntKind.i64.wrap (s + D1 + D2) = s + D1 + D2 := IntWalk.i64_in _ (by omega)
        have HN : Hid (X = (s + D1 + D2) + trp y ((cs.drop (k + 1)).map prC) (ss.drop (k + 1)) i) := Lib.hid (by rw [hst.out, hstep]; omega)
        subst hsi
        clear hstep hst hx hsv q4 e1 e2 cd1 cd2 hD1 hD2 hb
        go_wp2_with fail
        refine wp_region_plus (by kernel_rfl) (by kernel_rfl) ?_; (repeat (go_big_quiet_step ((first | (go_at_call 41; exact quiet_same ⟨_, rfl⟩ (CD1.out _ _)) | (go_at_call 41; exact quiet_same ⟨_, rfl⟩ (CD2.out _ _)))))); refine wpQuiet_nil ?_; intro _ hw'; obtain ⟨⟨osq, dq⟩, hw''⟩ := hw'; subst hw''
        go_wp2_with fail
        clear q1 q2 q3 q4' f1 f2 f3 f4
        go_roundw
        case rel => exact ⟨k + 1, y, s + D1 + D2, by omega, by go_num, rfl, rfl, ⟨y0, y1⟩, by omega, HN, by have hb := HB.out; (repeat' (first | (with_reducible exact Below.refl _ _) | (with_reducible assumption) | (with_reducible refine Below.alloc ?_ ?_ _) | (with_reducible refine below_plus ?_ ?_ _ _) | (with_reducible refine Below.drew ?_) | (with_reducible refine Below.setCell ?_ ?_ _) | (with_reducible refine below_adv ?_ ?_ _) | go_size | (simp; done) | (simp; omega)))⟩
        case measure => simp [intOf]; omega
      · rw [if_neg hsi] at hstep
        have g1 : ((sv : Int) == (i : Int)) = false := by simp; omega
        have g2 : ¬ (sv : Int) = (i : Int) := by omega
        have HN : Hid (X = s + trp a ((cs.drop (k + 1)).map prC) (ss.drop (k + 1)) i) := Lib.hid (by rw [hst.out, hstep])
        clear hstep hst hx hsv q4 hb
        go_wp2_with fail
        go_roundw
        case rel => exact ⟨k + 1, a, s, by omega, by go_num, rfl, rfl, ⟨ha0, ha1⟩, by omega, HN, HB.out⟩
        case measure => simp [intOf]; omega
    · obtain rfl : k = n := by omega
      have hl := HS.out.len
      have hE : X = s := by
        rw [hst.out, List.drop_of_length_le (by omega)]
        rw [List.map_nil, trp]
        · omega
        · intro _ _ _ _ h; cases h
      have HE := Lib.hid hE
      clear hE hst
      go_wp2_with fail
      go_ret
      exact ⟨by rw [HE.out]; rfl, hb⟩
end Go.Proofs.Ytillmnhhkhjpkaa
