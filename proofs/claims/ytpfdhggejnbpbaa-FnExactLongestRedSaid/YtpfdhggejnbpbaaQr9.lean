/- LongestRed of the program, walked. -/
import Derived.Test.YtpfdhggejnbpbaaQr8
set_option linter.unusedVariables false
set_option linter.unusedSimpArgs false
namespace Go.Proofs.Ytpfdhggejnbpbaa
open Go.RowKit

set_option maxHeartbeats 4000000 in
theorem longestRed_c (At : Option Addr) (m ct : Nat) (t : List (List Int)) (A : Option Addr) (n c : Nat) (ss : List (List Int × Int)) (x : Int) (w : World) (B : Nat) (hT : Sl2 w B ILit At m ct t) (hS : SlS w B A n c ss) (hB : B ≤ w.heap.size) (hpl : ∀ s ∈ ss, s.1.length ≤ 1048576) (hm : m ≤ 1048576) :
    Calls Try.prog 18 #[.agg #[.slice At m ct, .slice A n c], .int .i64 x] w fun e w' => e = .returned (.int .i64 (lrF t ss x)) ∧ Below w.heap.size w w' := by
  obtain ⟨W2, hW2⟩ : ∃ W2, w.alloc (.cells #[.slice At m ct, .slice A n c] 26) = W2 := ⟨_, rfl⟩
  have hb0 : Below w.heap.size w W2 := by rw [← hW2]; exact (Below.refl _ _).alloc (Nat.le_refl _) _
  have hh : W2.heap[w.heap.size]? = some (.cells #[.slice At m ct, .slice A n c] 26 (0, 0)) := by rw [← hW2]; exact heap_alloc_new w _
  have hzl := lt_of_heap hh
  have k0 : W2.cell? ⟨w.heap.size, 0, none⟩ = some (.slice At m ct) := by rw [cell_of_row _ _ _ _ _ _ hh]; rfl
  have k1 : W2.cell? ⟨w.heap.size, 1, none⟩ = some (.slice A n c) := by rw [cell_of_row _ _ _ _ _ _ hh]; rfl
  have hT0 := ((hT.more hB).below hb0).more hb0.size
  have hS0 := ((hS.more hB).below hb0).more hb0.size
  have cv := validPlan_c At m ct t A n c ss W2 _ hT0 hS0 (Nat.le_refl _) (fun s hs => Nat.le_trans (hpl s hs) (by omega))
  have htl := hT.len
  have hsl := hS.len
  obtain ⟨hct0, hct1⟩ := hT.cap
  cases hok : planB t ss
  · have HE : Hid (lrF t ss x = -1) := Lib.hid (by simp [lrF, hok])
    rw [hok] at cv
    have CV := Lib.hid cv
    clear cv hok hT hS hT0 hS0 hh hpl
    go_enter Try.func18, Try.ntmps18
    go_wp2_with fail
    clear hW2
    refine CV.out.mono ?_
    rintro e w1 ⟨rfl, hb1⟩
    go_wp2_with fail
    go_ret
    exact ⟨by rw [HE.out]; rfl, hb0.trans (hb1.mono hb0.size)⟩
  rw [hok] at cv
  have CV := Lib.hid cv
  have cw := fun w' => within_c x 0 ((m : Int) - 1) w'
  obtain ⟨u, hu⟩ : ∃ u, inB x 0 ((m : Int) - 1) = u := ⟨_, rfl⟩
  rw [hu] at cw
  cases u
  · have HE : Hid (lrF t ss x = -1) := Lib.hid (by
      simp only [inB, Bool.and_eq_false_iff, decide_eq_false_iff_not] at hu
      unfold lrF
      rw [if_neg (by rintro ⟨-, h1, h2⟩; rcases hu with h | h <;> omega)])
    have CW := Lib.hid cw
    clear cv hok hT hS hT0 hS0 hh hpl cw hu
    go_enter Try.func18, Try.ntmps18
    go_wp2_with fail
    clear hW2
    refine CV.out.mono ?_
    rintro e w1 ⟨rfl, hb1⟩
    have k01 := (hb1.cell (p := ⟨w.heap.size, 0, none⟩) hzl).trans k0
    go_wp2_with fail
    refine (CW.out w1).mono ?_
    rintro e w1' ⟨rfl, rfl⟩
    go_wp2_with fail
    go_ret
    exact ⟨by rw [HE.out]; rfl, hb0.trans (hb1.mono hb0.size)⟩
  · obtain ⟨p1, p2, p3, p4, p5, p6⟩ := plan_parts hok htl hsl
    have hcb := cycUp_bd p2 p4 (t := t) ss.length
    have hcn : cycN t ss = cycUp t ss ss.length := rfl
    have HE : Hid (lrF t ss x = min (lrUp t ss x (cycN t ss).toNat (2 * (cycN t ss).toNat)).1 (cycN t ss)) := Lib.hid (by
      simp only [inB, Bool.and_eq_true, decide_eq_true_eq] at hu
      unfold lrF
      rw [if_pos ⟨hok, by omega, by omega⟩])
    have hcl := cycUp_lt p2 p4 (t := t) (k := 0) (by omega)
    have hcm := cycUp_mono p2 p4 (t := t) (i := 0 + 1) (j := ss.length) (by omega) (Nat.le_refl _)
    have hc0 : cycUp t ss 0 = 0 := rfl
    have CW := Lib.hid cw
    have CC := Lib.hid (fun w' (hw : Below W2.heap.size W2 w') => cycle_c At m ct t A n c ss w' _ (hT0.below hw) (hS0.below hw) hw.size (by omega) p1 p2 p3 p4)
    have CG := Lib.hid (fun (s : Int) (hs0 : 0 ≤ s) (hs1 : s < cycN t ss) w' (hw : Below W2.heap.size W2 w') => greenIn_c At m ct t A n c ss s w' _ (hT0.below hw) (hS0.below hw) hw.size (by omega) hm p1 p2 p3 p4 hpl hs0 hs1)
    obtain ⟨N, hN⟩ : ∃ N : Nat, cycN t ss = (N : Int) := ⟨(cycN t ss).toNat, by omega⟩
    rw [hN] at CC CG HE hcn
    simp only [Int.toNat_natCast] at HE
    have K0 := Lib.hid k0
    have K1 := Lib.hid k1
    have hN5 : N ≤ 225 := by omega
    have hN1 : 1 ≤ N := by omega
    have nn0 : ((N : Int) == 0) = false := by simp; omega
    have nn1 : ¬ N = 0 := by omega
    have HB0 := Lib.hid hb0
    clear cv hok hT hS hT0 hS0 hh hpl p1 p2 p3 p4 cw hu hcb hcn hN hb0 hcl hcm hc0
    go_enter Try.func18, Try.ntmps18
    go_wp2_with fail
    clear hW2
    refine CV.out.mono ?_
    rintro e w1 ⟨rfl, hb1⟩
    have k01 := (hb1.cell (p := ⟨w.heap.size, 0, none⟩) hzl).trans k0
    have k11 := (hb1.cell (p := ⟨w.heap.size, 1, none⟩) hzl).trans k1
    clear k0 k1
    go_wp2_with fail
    refine (CW.out w1).mono ?_
    rintro e w1' ⟨rfl, rfl⟩
    go_wp2_with fail
    refine (CC.out w1 hb1).mono ?_
    rintro e w2 ⟨rfl, hb2⟩
    have hb12 := hb1.trans (hb2.mono hb1.size)
    clear hb1 hb2 k01 k11 CW CC CV
    go_wp2_with fail
    go_loopw [6, 7, 25] (fun l r i wr => ∃ (k : Nat), k ≤ 2 * N ∧ i = .int .i64 k ∧ l = .int .i64 (lrUp t ss x N k).1 ∧ r = .int .i64 (lrUp t ss x N k).2 ∧ Below W2.heap.size W2 wr) (fun _ _ i _ => 2 * N - (intOf i).toNat)
    case atStart => exact ⟨0, by omega, rfl, rfl, rfl, hb12⟩
    case round =>
      clear hb12
      obtain ⟨k, hk, rfl, rfl, rfl, hb⟩ := hrel
      have hzr := hb.size
      have e0 := (hb.cell (p := ⟨w.heap.size, 0, none⟩) hzl).trans K0.out
      have e1 := (hb.cell (p := ⟨w.heap.size, 1, none⟩) hzl).trans K1.out
      obtain ⟨hl1, hl2, hl3, hl4⟩ := lrUp_bd t ss x N k
      by_cases hlt : k < 2 * N
      · obtain ⟨j, hj⟩ : ∃ j, k % N = j := ⟨_, rfl⟩
        have hjN : j < N := by rw [← hj]; exact Nat.mod_lt _ (by omega)
        have hmod : (k : Int).tmod (N : Int) = (j : Int) := by rw [← hj]; rfl
        have s2 : IntKind.i64.wrap (j : Int) = (j : Int) := IntWalk.i64_in _ (by omega)
        have hgu : lrUp t ss x N (k + 1) = if x ∈ greenN t ss (j : Int) then ((lrUp t ss x N k).1, 0) else (max (lrUp t ss x N k).1 ((lrUp t ss x N k).2 + 1), (lrUp t ss x N k).2 + 1) := by rw [← hj]; rfl
        obtain ⟨L, hL⟩ : ∃ L, (lrUp t ss x N k).1 = L := ⟨_, rfl⟩
        obtain ⟨r, hr⟩ : ∃ r, (lrUp t ss x N k).2 = r := ⟨_, rfl⟩
        rw [hL, hr] at hgu
        rw [hL] at hl3 hl4
        rw [hr] at hl1 hl2
        have hbd : Below W2.heap.size W2 wr.drew := ⟨hb.os, hb.tape, hb.output, hb.size, hb.block⟩
        have C1 := Lib.hid (CG.out j (by omega) (by omega) wr.drew hbd)
        have HB := Lib.hid hb
        have hlk : w.heap.size < wr.heap.size := by omega
        clear hb hbd hj
        by_cases hin : x ∈ greenN t ss (j : Int)
        all_goals
          first | rw [if_pos hin] at hgu | rw [if_neg hin] at hgu
          have HG := Lib.hid hgu
          have HIN := Lib.hid hin
          clear hgu hin
          rw [hL, hr]
          clear hL hr
          go_wp2_with fail
          go_region_held3 (fun w' => w'.cell? ⟨w.heap.size, 0, none⟩ = some (.slice At m ct) ∧ w'.cell? ⟨w.heap.size, 1, none⟩ = some (.slice A n c)) (first | go_keep | (exact ⟨u0, u1⟩) | (exact ⟨v0, v1⟩))
            (first | (go_at_call 27; refine C1.out.mono ?_; rintro e wa ⟨A2, n2, c2, rfl, hSa, hba'⟩; have hba := below_undrew hba'; have hza := hba.size; have u0 := (hba.cell (p := ⟨w.heap.size, 0, none⟩) hlk).trans e0; have u1 := (hba.cell (p := ⟨w.heap.size, 1, none⟩) hlk).trans e1; have CC := Lib.hid (contains_c A2 n2 c2 _ x wa _ hSa (Nat.le_refl _)); first | rw [decide_eq_true HIN.out] at CC | rw [decide_eq_false HIN.out] at CC) | (go_at_call 26; refine CC.out.mono ?_; rintro e wc ⟨rfl, hbc⟩; have hac := hba.trans (hbc.mono hza); have v0 := (hac.cell (p := ⟨w.heap.size, 0, none⟩) hlk).trans e0; have v1 := (hac.cell (p := ⟨w.heap.size, 1, none⟩) hlk).trans e1) | fail)
          all_goals
            have hbbc := HB.out.trans (hac.mono hzr)
            clear hba' hba hbc hac u0 u1 v0 v1 e0 e1 C1 CC s2 hmod hSa
            go_wp2_with fail
            go_roundw
            case rel => exact ⟨k + 1, by omega, by go_num, by first | (rw [HG.out]; done) | (rw [HG.out]; congr 1; dsimp only; split <;> omega), by rw [HG.out], hbbc⟩
            case measure => simp [intOf]; omega
      · obtain rfl : k = 2 * N := by omega
        have hbb := HB0.out.trans (hb.mono HB0.out.size)
        clear hb
        obtain ⟨L, hL⟩ : ∃ L, (lrUp t ss x N (2 * N)).1 = L := ⟨_, rfl⟩
        rw [hL] at HE ⊢
        go_wp2_with fail
        all_goals
          go_ret
          refine ⟨?_, hbb⟩
          rw [HE.out]
          first | (rw [show min L (N : Int) = N by omega]; rfl) | (rw [show min L (N : Int) = L by omega]; rfl)
end Go.Proofs.Ytpfdhggejnbpbaa
