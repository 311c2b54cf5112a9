/- GreenAt of the program and of the reference, walked. -/
import Derived.Test.YtckohbjgogbfaaaQs1
import Derived.Test.YtckohbjgogbfaaaBb
import Derived.WalkSpells
set_option linter.unusedVariables false
set_option linter.unusedSimpArgs false
namespace Go.Proofs.Ytckohbjgogbfaaa
open Go.RowKit

/-- What GreenAt returns. -/
def gaF (t : List (List Int)) (ss : List (List Int × Int)) (x : Int) : List Int :=
  if planB t ss = true ∧ 0 ≤ x ∧ x ≤ 9999 then greenN t ss ((x.toNat % (cycN t ss).toNat : Nat) : Int) else []
theorem gaF_bad {t : List (List Int)} {ss : List (List Int × Int)} {x : Int} (h : planB t ss = false) : gaF t ss x = [] := by simp [gaF, h]
theorem gaF_out {t : List (List Int)} {ss : List (List Int × Int)} {x : Int} (h : inB x 0 9999 = false) : gaF t ss x = [] := by
  simp only [inB, Bool.and_eq_false_iff, decide_eq_false_iff_not] at h
  unfold gaF
  rw [if_neg (by rintro ⟨-, h1, h2⟩; rcases h with h | h <;> omega)]

set_option maxHeartbeats 1000000 in
theorem cloneAny_c (A : Option Addr) (n c : Nat) (xs : List Int) (w : World) (B : Nat) (hS : Sl w B ILit A n c xs) (hB : B ≤ w.heap.size) (hn : n ≤ 1099511627776) :
    Calls Try.prog 26 #[.slice A n c] w (OwnInts w n xs) := by
  cases A with
  | none =>
    have hn0 : n = 0 := by
      rcases Nat.eq_zero_or_pos n with h | h
      · exact h
      · obtain ⟨b, o, hA, -⟩ := hS.2.2.2 h
        cases hA
    subst hn0
    have hx : xs = [] := List.eq_nil_of_length_eq_zero hS.len
    subst hx
    have hq := fun w' => Lib.run_eql_slice_nil (P := Try.prog) w' 29 3 none 0 c 0 0 Try.underlying29
    clear hS
    go_enter Try.func26, Try.ntmps26
    go_wp2_with fail
    go_ret
    exact ⟨_, rfl, World.ownsRow_nil _ _ _ _, Below.refl _ _⟩
  | some a =>
    obtain ⟨i0, hi, hi0, hi1, hi2⟩ := info_parts info_int
    have h0 := World.ownsRow_made (base := w.heap.size) (e := 3) (size := 1) w #[] 0 (Nat.le_refl _) (by decide) rfl
    have hS1 := hS.alloc hB (.cells #[] 3)
    have hb1 : Below w.heap.size w (w.alloc (.cells #[] 3)) := (Below.refl _ _).alloc (Nat.le_refl _) _
    have hq := fun w' => Lib.run_eql_slice_nil (P := Try.prog) w' 29 3 (some a) n c 0 0 Try.underlying29
    clear hS
    go_enter Try.func26, Try.ntmps26
    go_wp2_with (at_builtin; refine wpList_appS w _ rfl _ _ 29 rfl 3 i0 (.int .i64 0) 8 Try.underlying29 hi hi0 hi1 hi2 rfl (by decide) w.heap.size _ 0 [] (by rfl) h0 (some a) n c B ILit xs (by rfl) hS1 (fun _ => rfl) (by omega) (by omega) hb1 (by simp) ?_; intro v2 w2 hB2 hb2 hg2)
    rw [Nat.zero_add, List.nil_append] at hB2
    go_ret
    exact ⟨_, rfl, hB2, hb2⟩

set_option maxHeartbeats 4000000 in
theorem greenAt_c (At : Option Addr) (m ct : Nat) (t : List (List Int)) (A : Option Addr) (n c : Nat) (ss : List (List Int × Int)) (x : Int) (w : World) (B : Nat) (hT : Sl2 w B ILit At m ct t) (hS : SlS w B A n c ss) (hB : B ≤ w.heap.size) (hpl : ∀ s ∈ ss, s.1.length ≤ 1048576) (hm : m ≤ 1048576) :
    Calls Try.prog 8 #[.agg #[.slice At m ct, .slice A n c], .int .i64 x] w (OwnGreen w (gaF t ss x)) := by
  obtain ⟨W2, hW2⟩ : ∃ W2, w.alloc (.cells #[.slice At m ct, .slice A n c] 26) = W2 := ⟨_, rfl⟩
  have hb0 : Below w.heap.size w W2 := by rw [← hW2]; exact (Below.refl _ _).alloc (Nat.le_refl _) _
  have hh : W2.heap[w.heap.size]? = some (.cells #[.slice At m ct, .slice A n c] 26 (0, 0)) := by rw [← hW2]; exact heap_alloc_new w _
  have hzl := lt_of_heap hh
  have k0 : W2.cell? ⟨w.heap.size, 0, none⟩ = some (.slice At m ct) := by rw [cell_of_row _ _ _ _ _ _ hh]; rfl
  have k1 : W2.cell? ⟨w.heap.size, 1, none⟩ = some (.slice A n c) := by rw [cell_of_row _ _ _ _ _ _ hh]; rfl
  have hT0 := ((hT.more hB).below hb0).more hb0.size
  have hS0 := ((hS.more hB).below hb0).more hb0.size
  have cv := validPlan_c At m ct t A n c ss W2 _ hT0 hS0 (Nat.le_refl _) (fun s hs => Nat.le_trans (hpl s hs) (by omega))
  have htl := hT.len
  have hsl := hS.len
  obtain ⟨hct0, hct1⟩ := hT.cap
  cases hok : planB t ss
  · have HE := Lib.hid (gaF_bad (x := x) hok)
    rw [hok] at cv
    have CV := Lib.hid cv
    clear cv hok hT hS hT0 hS0 hh hpl
    go_enter Try.func8, Try.ntmps8
    go_wp2_with fail
    clear hW2
    refine CV.out.mono ?_
    rintro e w1 ⟨rfl, hb1⟩
    go_wp2_with fail
    go_ret
    exact ⟨_, 0, rfl, by rw [HE.out]; exact World.ownsRow_nil _ _ _ _, hb0.trans (hb1.mono hb0.size)⟩
  rw [hok] at cv
  have CV := Lib.hid cv
  have cw := fun w' => within_c x 0 9999 w'
  obtain ⟨u, hu⟩ : ∃ u, inB x 0 9999 = u := ⟨_, rfl⟩
  rw [hu] at cw
  cases u
  · have HE := Lib.hid (gaF_out (t := t) (ss := ss) hu)
    have CW := Lib.hid cw
    clear cv hok hT hS hT0 hS0 hh hpl cw hu
    go_enter Try.func8, Try.ntmps8
    go_wp2_with fail
    clear hW2
    refine CV.out.mono ?_
    rintro e w1 ⟨rfl, hb1⟩
    go_wp2_with fail
    refine (CW.out w1).mono ?_
    rintro e w1' ⟨rfl, rfl⟩
    go_wp2_with fail
    go_ret
    exact ⟨_, 0, rfl, by rw [HE.out]; exact World.ownsRow_nil _ _ _ _, hb0.trans (hb1.mono hb0.size)⟩
  · obtain ⟨p1, p2, p3, p4, p5, p6⟩ := plan_parts hok htl hsl
    have hcb := cycUp_bd p2 p4 (t := t) ss.length
    have hcn : cycN t ss = cycUp t ss ss.length := rfl
    have hcl := cycUp_lt p2 p4 (t := t) (k := 0) (by omega)
    have hcm := cycUp_mono p2 p4 (t := t) (i := 0 + 1) (j := ss.length) (by omega) (Nat.le_refl _)
    have hc0 : cycUp t ss 0 = 0 := rfl
    simp only [inB, Bool.and_eq_true, decide_eq_true_eq] at hu
    obtain ⟨hx0, hx1⟩ := hu
    have CW := Lib.hid cw
    have CC := Lib.hid (fun w' (hw : Below W2.heap.size W2 w') => cycle_c At m ct t A n c ss w' _ (hT0.below hw) (hS0.below hw) hw.size (by omega) p1 p2 p3 p4)
    have CG := Lib.hid (fun (s : Int) (hs0 : 0 ≤ s) (hs1 : s < cycN t ss) w' (hw : Below W2.heap.size W2 w') => greenIn_c At m ct t A n c ss s w' _ (hT0.below hw) (hS0.below hw) hw.size (by omega) hm p1 p2 p3 p4 hpl hs0 hs1)
    obtain ⟨N, hN⟩ : ∃ N : Nat, cycN t ss = (N : Int) := ⟨(cycN t ss).toNat, by omega⟩
    obtain ⟨s, rfl⟩ := Int.eq_ofNat_of_zero_le hx0
    obtain ⟨j, hj⟩ : ∃ j, s % N = j := ⟨_, rfl⟩
    have hN1 : 1 ≤ N := by omega
    have hjN : j < N := by rw [← hj]; exact Nat.mod_lt _ (by omega)
    have hmod : (s : Int).tmod (N : Int) = (j : Int) := by rw [← hj]; rfl
    have HE : Hid (gaF t ss (s : Int) = greenN t ss (j : Int)) := Lib.hid (by rw [gaF, if_pos ⟨hok, hx0, hx1⟩, hN, Int.toNat_natCast, Int.toNat_natCast, hj])
    have s2 : IntKind.i64.wrap (j : Int) = (j : Int) := IntWalk.i64_in _ (by omega)
    have nn0 : ((N : Int) == 0) = false := by simp; omega
    have nn1 : ¬ N = 0 := by omega
    rw [hN] at CC CG
    have HL : Hid ((greenN t ss (j : Int)).length ≤ 1048576) := Lib.hid (greenN_len hpl)
    have HB0 := Lib.hid hb0
    clear cv hok hT hS hT0 hS0 hh hpl p1 p2 p3 p4 cw hcb hcn hN hb0 hcl hcm hc0 hj
    go_enter Try.func8, Try.ntmps8
    go_wp2_with fail
    clear hW2
    refine CV.out.mono ?_
    rintro e w1 ⟨rfl, hb1⟩
    have hz1 := hb1.size
    have k01 := (hb1.cell (p := ⟨w.heap.size, 0, none⟩) hzl).trans k0
    have k11 := (hb1.cell (p := ⟨w.heap.size, 1, none⟩) hzl).trans k1
    clear k0 k1
    go_wp2_with fail
    refine (CW.out w1).mono ?_
    rintro e w1' ⟨rfl, rfl⟩
    have C1 := Lib.hid (CC.out w1.drew ⟨hb1.os, hb1.tape, hb1.output, hb1.size, hb1.block⟩)
    have HB1 := Lib.hid hb1
    have hlk : w.heap.size < w1.heap.size := by omega
    clear hb1 CW CV
    go_wp2_with fail
    go_region_held3 (fun w' => w'.cell? ⟨w.heap.size, 0, none⟩ = some (.slice At m ct) ∧ w'.cell? ⟨w.heap.size, 1, none⟩ = some (.slice A n c)) (first | go_keep | (exact ⟨u0, u1⟩) | (exact ⟨v0, v1⟩) | (exact ⟨t0, t1⟩))
      (first | (go_at_call 28; refine C1.out.mono ?_; rintro e wa ⟨rfl, hba'⟩; have hba := below_undrew hba'; have hza := hba.size; have u0 := (hba.cell (p := ⟨w.heap.size, 0, none⟩) hlk).trans k01; have u1 := (hba.cell (p := ⟨w.heap.size, 1, none⟩) hlk).trans k11) | (go_at_call 27; refine (CG.out j (by omega) (by omega) wa (HB1.out.trans (hba.mono hz1))).mono ?_; rintro e wb ⟨A2, n2, c2, rfl, hSb, hbb⟩; have hab := hba.trans (hbb.mono hza); have hzb := hab.size; have v0 := (hab.cell (p := ⟨w.heap.size, 0, none⟩) hlk).trans k01; have v1 := (hab.cell (p := ⟨w.heap.size, 1, none⟩) hlk).trans k11; have hlb := hSb.len; have hlg := HL.out) | (go_at_call 26; refine (cloneAny_c A2 n2 c2 _ wb _ hSb (Nat.le_refl _) (by omega)).mono ?_; rintro e wc ⟨v, rfl, hOc, hbc⟩; have hac := hab.trans (hbc.mono hzb); have t0 := (hac.cell (p := ⟨w.heap.size, 0, none⟩) hlk).trans k01; have t1 := (hac.cell (p := ⟨w.heap.size, 1, none⟩) hlk).trans k11) | fail)
    all_goals
      have hbf := HB0.out.trans ((HB1.out.trans (hac.mono hz1)).mono HB0.out.size)
      have hOf := own_mono hOc (show w.heap.size ≤ _ by have h1 := HB0.out.size; have h2 := HB1.out.size; omega)
      clear hba' hba hbb hab hbc hac t0 t1 hSb hlb hlg hOc u0 u1 v0 v1 k01 k11 C1 s2 hmod
      go_wp2_with fail
      go_ret
      exact ⟨_, _, rfl, by rw [HE.out]; exact hOf, hbf⟩

set_option maxHeartbeats 4000000 in
theorem sGreenAt1_c (At : Option Addr) (m ct : Nat) (t : List (List Int)) (A : Option Addr) (n c : Nat) (ss : List (List Int × Int)) (x : Int) (w : World) (B : Nat) (hT : Sl2 w B ILit At m ct t) (hS : SlS w B A n c ss) (hB : B ≤ w.heap.size) (hpl : ∀ s ∈ ss, s.1.length ≤ 1048576) (hm : m ≤ 1048576) :
    Calls Try.prog 10 #[.agg #[.slice At m ct, .slice A n c], .int .i64 x] w (OwnGreen w (gaF t ss x)) := by
  obtain ⟨W2, hW2⟩ : ∃ W2, w.alloc (.cells #[.slice At m ct, .slice A n c] 26) = W2 := ⟨_, rfl⟩
  have hb0 : Below w.heap.size w W2 := by rw [← hW2]; exact (Below.refl _ _).alloc (Nat.le_refl _) _
  have hh : W2.heap[w.heap.size]? = some (.cells #[.slice At m ct, .slice A n c] 26 (0, 0)) := by rw [← hW2]; exact heap_alloc_new w _
  have hzl := lt_of_heap hh
  have k0 : W2.cell? ⟨w.heap.size, 0, none⟩ = some (.slice At m ct) := by rw [cell_of_row _ _ _ _ _ _ hh]; rfl
  have k1 : W2.cell? ⟨w.heap.size, 1, none⟩ = some (.slice A n c) := by rw [cell_of_row _ _ _ _ _ _ hh]; rfl
  have hT0 := ((hT.more hB).below hb0).more hb0.size
  have hS0 := ((hS.more hB).below hb0).more hb0.size
  have cv := sValidPlan_c At m ct t A n c ss W2 _ hT0 hS0 (Nat.le_refl _) (fun s hs => Nat.le_trans (hpl s hs) (by omega))
  have htl := hT.len
  have hsl := hS.len
  obtain ⟨hct0, hct1⟩ := hT.cap
  cases hok : planB t ss
  · have HE := Lib.hid (gaF_bad (x := x) hok)
    rw [hok] at cv
    have CV := Lib.hid cv
    clear cv hok hT hS hT0 hS0 hh hpl
    go_enter Try.func10, Try.ntmps10
    go_wp2_with fail
    clear hW2
    refine CV.out.mono ?_
    rintro e w1 ⟨rfl, hb1⟩
    go_wp2_with fail
    go_ret
    exact ⟨_, 0, rfl, by rw [HE.out]; exact World.ownsRow_nil _ _ _ _, hb0.trans (hb1.mono hb0.size)⟩
  rw [hok] at cv
  have CV := Lib.hid cv
  have cw := fun w' => inRange_c x 0 9999 w'
  obtain ⟨u, hu⟩ : ∃ u, inB x 0 9999 = u := ⟨_, rfl⟩
  rw [hu] at cw
  cases u
  · have HE := Lib.hid (gaF_out (t := t) (ss := ss) hu)
    have CW := Lib.hid cw
    clear cv hok hT hS hT0 hS0 hh hpl cw hu
    go_enter Try.func10, Try.ntmps10
    go_wp2_with fail
    clear hW2
    refine CV.out.mono ?_
    rintro e w1 ⟨rfl, hb1⟩
    go_wp2_with fail
    refine (CW.out w1).mono ?_
    rintro e w1' ⟨rfl, rfl⟩
    go_wp2_with fail
    go_ret
    exact ⟨_, 0, rfl, by rw [HE.out]; exact World.ownsRow_nil _ _ _ _, hb0.trans (hb1.mono hb0.size)⟩
  · obtain ⟨p1, p2, p3, p4, p5, p6⟩ := plan_parts hok htl hsl
    have hcb := cycUp_bd p2 p4 (t := t) ss.length
    have hcn : cycN t ss = cycUp t ss ss.length := rfl
    have hcl := cycUp_lt p2 p4 (t := t) (k := 0) (by omega)
    have hcm := cycUp_mono p2 p4 (t := t) (i := 0 + 1) (j := ss.length) (by omega) (Nat.le_refl _)
    have hc0 : cycUp t ss 0 = 0 := rfl
    simp only [inB, Bool.and_eq_true, decide_eq_true_eq] at hu
    obtain ⟨hx0, hx1⟩ := hu
    have CW := Lib.hid cw
    have CC := Lib.hid (fun w' (hw : Below W2.heap.size W2 w') => sCycle_c At m ct t A n c ss w' _ (hT0.below hw) (hS0.below hw) hw.size (by omega) p1 p2 p3 p4 hpl)
    have CG := Lib.hid (fun (s : Int) (hs0 : 0 ≤ s) (hs1 : s < cycN t ss) w' (hw : Below W2.heap.size W2 w') => sGreenAt_c At m ct t A n c ss s w' _ (hT0.below hw) (hS0.below hw) hw.size (by omega) hm p1 p2 p3 (fun s hs => fitsB_pw ((plan_iff.1 hok).2.2 s hs).1) p4 hpl hs0 hs1)
    obtain ⟨N, hN⟩ : ∃ N : Nat, cycN t ss = (N : Int) := ⟨(cycN t ss).toNat, by omega⟩
    obtain ⟨s, rfl⟩ := Int.eq_ofNat_of_zero_le hx0
    obtain ⟨j, hj⟩ : ∃ j, s % N = j := ⟨_, rfl⟩
    have hN1 : 1 ≤ N := by omega
    have hjN : j < N := by rw [← hj]; exact Nat.mod_lt _ (by omega)
    have hmod : (s : Int).tmod (N : Int) = (j : Int) := by rw [← hj]; rfl
    have HE : Hid (gaF t ss (s : Int) = greenN t ss (j : Int)) := Lib.hid (by rw [gaF, if_pos ⟨hok, hx0, hx1⟩, hN, Int.toNat_natCast, Int.toNat_natCast, hj])
    have s2 : IntKind.i64.wrap (j : Int) = (j : Int) := IntWalk.i64_in _ (by omega)
    have nn0 : ((N : Int) == 0) = false := by simp; omega
    have nn1 : ¬ N = 0 := by omega
    rw [hN] at CC CG
    have HL : Hid ((greenN t ss (j : Int)).length ≤ 1048576) := Lib.hid (greenN_len hpl)
    have HB0 := Lib.hid hb0
    clear cv hok hT hS hT0 hS0 hh hpl p1 p2 p3 p4 cw hcb hcn hN hb0 hcl hcm hc0 hj
    go_enter Try.func10, Try.ntmps10
    go_wp2_with fail
    clear hW2
    refine CV.out.mono ?_
    rintro e w1 ⟨rfl, hb1⟩
    have hz1 := hb1.size
    have k01 := (hb1.cell (p := ⟨w.heap.size, 0, none⟩) hzl).trans k0
    have k11 := (hb1.cell (p := ⟨w.heap.size, 1, none⟩) hzl).trans k1
    clear k0 k1
    go_wp2_with fail
    refine (CW.out w1).mono ?_
    rintro e w1' ⟨rfl, rfl⟩
    have C1 := Lib.hid (CC.out w1.drew ⟨hb1.os, hb1.tape, hb1.output, hb1.size, hb1.block⟩)
    have HB1 := Lib.hid hb1
    have hlk : w.heap.size < w1.heap.size := by omega
    clear hb1 CW CV
    go_wp2_with fail
    go_region_held3 (fun w' => w'.cell? ⟨w.heap.size, 0, none⟩ = some (.slice At m ct) ∧ w'.cell? ⟨w.heap.size, 1, none⟩ = some (.slice A n c)) (first | go_keep | (exact ⟨u0, u1⟩) | (exact ⟨v0, v1⟩) )
      (first | (go_at_call 32; refine C1.out.mono ?_; rintro e wa ⟨rfl, hba'⟩; have hba := below_undrew hba'; have hza := hba.size; have u0 := (hba.cell (p := ⟨w.heap.size, 0, none⟩) hlk).trans k01; have u1 := (hba.cell (p := ⟨w.heap.size, 1, none⟩) hlk).trans k11) | (go_at_call 31; refine (CG.out j (by omega) (by omega) wa (HB1.out.trans (hba.mono hz1))).mono ?_; rintro e wb ⟨v, n2, rfl, hOb, hbb⟩; have hab := hba.trans (hbb.mono hza); have hzb := hab.size; have v0 := (hab.cell (p := ⟨w.heap.size, 0, none⟩) hlk).trans k01; have v1 := (hab.cell (p := ⟨w.heap.size, 1, none⟩) hlk).trans k11) | fail)
    all_goals
      have hbf := HB0.out.trans ((HB1.out.trans (hab.mono hz1)).mono HB0.out.size)
      have hOf := own_mono hOb (show w.heap.size ≤ _ by have h1 := HB0.out.size; have h2 := HB1.out.size; omega)
      clear hba' hba hbb hab hOb u0 u1 v0 v1 k01 k11 C1 s2 hmod
      go_wp2_with fail
      go_ret
      exact ⟨_, _, rfl, by rw [HE.out]; exact hOf, hbf⟩

end Go.Proofs.Ytckohbjgogbfaaa
