/- BestShare of the reference, walked. -/
import Derived.Test.YtillmnhhkhjpkaaSc5
set_option linter.unusedVariables false
set_option linter.unusedSimpArgs false
namespace Go.Proofs.Ytillmnhhkhjpkaa
open Go.RowKit

def gCost (cars : List Int) (cs : List CallT) (x : List Nat) : Int := ((flt0 cars).run (cs.map prC) x).cost
def bestS (cars : List Int) (cs : List CallT) : List Nat := if okS cars cs = true then refB (gCost cars cs) cars.length cs.length (cars.length ^ cs.length) else []
theorem dgs_lt {k d N : Nat} (hk : 0 < k) : ∀ s ∈ dgs k d N, s < k := fun s hs => by
  obtain ⟨j, -, rfl⟩ := List.mem_map.1 hs
  exact Nat.mod_lt _ hk
theorem refB_lt {g : List Nat → Int} {k d : Nat} (hk : 0 < k) : ∀ N, ∀ s ∈ refB g k d N, s < k
  | 0 => dgs_lt hk
  | N + 1 => fun s hs => by
    rw [refB] at hs
    split at hs
    · exact dgs_lt hk s hs
    · exact refB_lt hk N s hs
theorem dgs_zero (k d : Nat) : dgs k d 0 = (List.range d).map fun _ => 0 := by simp [dgs]
theorem refB_one (g : List Nat → Int) (k d : Nat) : refB g k d 1 = (List.range d).map fun _ => 0 := by
  rw [← dgs_zero k d]; simp [refB]
def RdNats (w : World) (xs : List Nat) (e : Ending) (w' : World) : Prop :=
  ∃ A n c, e = .returned (.slice A n c) ∧ Sl w' w'.heap.size NLit A n c xs ∧ Below w.heap.size w w'
set_option maxRecDepth 4000 in
set_option maxHeartbeats 4000000 in
theorem sBestShare_c (A : Option Addr) (n c : Nat) (cars : List Int) (A2 : Option Addr) (n2 c2 : Nat) (cs : List CallT) (w : World) (B : Nat) (hS : Sl w B ILit A n c cars) (hT : SlC w B A2 n2 c2 cs) (hB : B ≤ w.heap.size)
    (hn : n ≤ 1048576) (hn2 : n2 ≤ 1048576) :
    Calls Try.prog 7 #[.slice A n c, .slice A2 n2 c2] w (RdNats w (bestS cars cs)) := by
  obtain ⟨hc0, hc1⟩ := hS.cap
  obtain ⟨hd0, hd1⟩ := hT.cap
  have hl := hS.len
  have hl2 := hT.len
  have hmk := run_make_row' (P := Try.prog) 23 3 (.int .i64 0) 8 Try.underlying23 info_int rfl .i64 .i64 n2 (by omega) (by omega)
  rw [made_repN] at hmk
  have hN0 := fun w' => Ow.new w' NLit ((List.range n2).map fun _ => 0) 3 (by simp; omega)
  simp only [List.length_map, List.length_range] at hN0
  have HN := Lib.hid hN0
  obtain ⟨rowz, hrz⟩ : ∃ rz, (((List.range n2).map fun _ => (0 : Nat)).map NLit).toArray = rz := ⟨_, rfl⟩
  rw [hrz] at hmk HN
  have hb0 : Below w.heap.size w (w.alloc (.cells rowz 3)) := (Below.refl _ _).alloc (Nat.le_refl _) _
  have cv := sValidShare_c A n c cars A2 n2 c2 cs (some ⟨w.heap.size, 0, none⟩) n2 _ (w.alloc (.cells rowz 3)) _ ((hS.below (hb0.mono hB)).more (Nat.le_trans hB hb0.size)) ((hT.below (hb0.mono hB)).more (Nat.le_trans hB hb0.size)) (Sl.ints (HN.out w).sl) (Nat.le_refl _) (by omega) (by omega) (fun hF => by
    have h1 : 1 ≤ cars.length := by
      rw [okF, Bool.and_eq_true] at hF
      have := hF.1
      simp [inB] at this; omega
    rw [allB, List.all_eq_true]
    intro x hx
    simp only [List.map_map, List.mem_map, Function.comp_apply] at hx
    obtain ⟨i, -, rfl⟩ := hx
    simp [inB]; omega)
  clear hN0 hrz
  cases hok : okS cars cs
  · rw [hok] at cv
    have CV := Lib.hid cv
    have HE : Hid (bestS cars cs = []) := Lib.hid (by rw [bestS, hok]; rfl)
    clear cv hok hS hT
    go_enter Try.func7, Try.ntmps7
    go_wp2_with fail
    refine CV.out.mono ?_
    rintro e w1 ⟨rfl, hb1⟩
    have hbf := hb0.trans (hb1.mono hb0.size)
    go_wp2_with fail
    go_ret
    exact ⟨none, 0, 0, rfl, by rw [HE.out]; exact ⟨rfl, Nat.le_refl _, by omega, fun h => absurd h (by omega)⟩, hbf⟩
  · rw [hok] at cv
    have CV := Lib.hid cv
    have HE : Hid (bestS cars cs = refB (gCost cars cs) n n2 (n ^ n2)) := Lib.hid (by rw [bestS, if_pos hok, hl, hl2])
    obtain ⟨⟨k1, k3, hca⟩, h6, hcl⟩ := okS_iff.1 hok
    rw [hl] at k1 k3
    rw [hl2] at h6
    have cg := fun (A3 : Option Addr) (c3 : Nat) (ss : List Nat) (hss : ∀ s ∈ ss, s < n) w' (hb : Below w.heap.size w w') (hU : Sl w' w'.heap.size NLit A3 n2 c3 ss) => greatest_c A n c cars A2 n2 c2 cs A3 c3 ss w' w'.heap.size ((hS.below (hb.mono hB)).more (Nat.le_trans hB hb.size)) ((hT.below (hb.mono hB)).more (Nat.le_trans hB hb.size)) hU (Nat.le_refl _) h6 k3 hca (fun c hc => ⟨(hcl c hc).1, (hcl c hc).2.1⟩)
    have CG : Hid (∀ (A3 : Option Addr) (c3 : Nat) (ss : List Nat) (hss : ∀ s ∈ ss, s < n) w' (hb : Below w.heap.size w w') (hU : Sl w' w'.heap.size NLit A3 n2 c3 ss), Calls Try.prog 19 #[.slice A n c, .slice A2 n2 c2, .slice A3 n2 c3] w' fun e w'' => e = .returned (.int .i64 (gCost cars cs ss)) ∧ Below w'.heap.size w' w'') := Lib.hid (fun A3 c3 ss hss w' hb hU => by
      have := cg A3 c3 ss hss w' hb hU
      rwa [grt_cost (by omega) (by omega) (by rw [hl]; exact hss)] at this)
    have hP1 : 1 ≤ n ^ n2 := Nat.pow_pos (by omega)
    have hP2 : n ^ n2 ≤ 3 ^ 6 := Nat.le_trans (Nat.pow_le_pow_left k3 n2) (Nat.pow_le_pow_right (by omega) h6)
    have CP := Lib.hid (fun w' => power_c n n2 w' k3 h6)
    have CD := Lib.hid (fun N (hN : N ≤ 1048576) w' => digitsOf_c N n n2 w' hN k1 k3 h6)
    obtain ⟨P, hP⟩ : ∃ P, n ^ n2 = P := ⟨_, rfl⟩
    rw [hP] at HE hP1 hP2 CP
    have HR1 := Lib.hid (refB_one (gCost cars cs) n n2)
    have HB0 := Lib.hid hb0
    clear cv hok hS hT cg hcl hca hP
    go_enter Try.func7, Try.ntmps7
    go_wp2_with fail
    refine CV.out.mono ?_
    rintro e w1 ⟨rfl, hb1⟩
    have hb01 := HB0.out.trans (hb1.mono HB0.out.size)
    have hz1 := hb01.size
    have hS1 := (HN.out w1).sl
    rw [← HR1.out] at hS1
    have HS1 := Lib.hid hS1
    clear hb1 hb0 hS1
    go_wp2_with fail
    go_loopw [5, 6] (fun b i wr => ∃ (N : Nat) (Ab : Option Addr) (cb : Nat), 1 ≤ N ∧ N ≤ P ∧ i = .int .i64 N ∧ b = .slice Ab n2 cb ∧ Sl wr wr.heap.size NLit Ab n2 cb (refB (gCost cars cs) n n2 N) ∧ Below w1.heap.size w1 wr) (fun _ i _ => P - (intOf i).toNat)
    case atStart => exact ⟨1, _, n2, by omega, hP1, rfl, rfl, HS1.out, by (repeat' (first | (with_reducible exact Below.refl _ _) | (with_reducible assumption) | (with_reducible refine Below.alloc ?_ ?_ _) | (with_reducible refine below_plus ?_ ?_ _ _) | (with_reducible refine Below.drew ?_) | (with_reducible refine Below.setCell ?_ ?_ _) | (with_reducible refine below_adv ?_ ?_ _) | go_size | (simp; done) | (simp; omega)))⟩
    case round =>
      obtain ⟨N, Ab, cb, hN1, hNP, rfl, rfl, hSb, hb⟩ := hrel
      have hzr := hb.size
      obtain ⟨hcb0, hcb1⟩ := hSb.cap
      have HSb := Lib.hid hSb
      have HB := Lib.hid hb
      clear hSb hb
      by_cases hlt : N < P
      · go_wp2_with fail
        refine (CP.out _).mono ?_
        rintro e wx ⟨rfl, rfl⟩
        go_wp2_with fail
        refine (CD.out N (by omega) _).mono ?_
        rintro e w2 ⟨g, rfl, hO, hb2⟩
        have hbr2 := HB.out.trans (hb2.mono hzr)
        have hb02 := hb01.trans (hbr2.mono hz1)
        have hz2 := hb2.size
        have C1 := Lib.hid (CG.out _ n2 _ (dgs_lt k1) w2 hb02 hO.sl)
        have HO := Lib.hid hO.sl
        have hSb2 := (HSb.out.below hb2).more hz2
        have C2 := Lib.hid (fun w3 (hb3 : Below w2.heap.size w2 w3) => CG.out Ab cb _ (refB_lt k1 N) w3 (hb02.trans (hb3.mono hb02.size)) ((hSb2.below hb3).more hb3.size))
        have hstep : refB (gCost cars cs) n n2 (N + 1) = if gCost cars cs (dgs n n2 N) < gCost cars cs (refB (gCost cars cs) n n2 N) then dgs n n2 N else refB (gCost cars cs) n n2 N := rfl
        obtain ⟨X, hX⟩ : ∃ X, gCost cars cs (dgs n n2 N) = X := ⟨_, rfl⟩
        obtain ⟨Y, hY⟩ : ∃ Y, gCost cars cs (refB (gCost cars cs) n n2 N) = Y := ⟨_, rfl⟩
        rw [hX] at C1 hstep
        rw [hY] at C2 hstep
        have HSB2 := Lib.hid hSb2
        clear hO hSb2 hX hY hb2
        by_cases hxy : X < Y
        · rw [if_pos hxy] at hstep
          have HST := Lib.hid hstep
          clear hstep
          go_wp2_with fail
          refine C1.out.mono ?_
          rintro e w3 ⟨rfl, hb3⟩
          go_wp2_with fail
          refine (C2.out w3 hb3).mono ?_
          rintro e w4 ⟨rfl, hb4⟩
          have hb24 := hb3.trans (hb4.mono hb3.size)
          have hbn := hbr2.trans (hb24.mono hbr2.size)
          have hSn := (HO.out.below hb24).more hb24.size
          rw [← HST.out] at hSn
          clear hb3 hb4
          go_wp2_with fail
          go_roundw
          case rel => exact ⟨N + 1, _, n2, by omega, by omega, by go_num, rfl, hSn, hbn⟩
          case measure => simp [intOf]; omega
        · rw [if_neg hxy] at hstep
          have HST := Lib.hid hstep
          clear hstep
          go_wp2_with fail
          refine C1.out.mono ?_
          rintro e w3 ⟨rfl, hb3⟩
          go_wp2_with fail
          refine (C2.out w3 hb3).mono ?_
          rintro e w4 ⟨rfl, hb4⟩
          have hb24 := hb3.trans (hb4.mono hb3.size)
          have hbn := hbr2.trans (hb24.mono hbr2.size)
          have hSn := (HSB2.out.below hb24).more hb24.size
          rw [← HST.out] at hSn
          clear hb3 hb4
          go_wp2_with fail
          go_roundw
          case rel => exact ⟨N + 1, Ab, cb, by omega, by omega, by go_num, rfl, hSn, hbn⟩
          case measure => simp [intOf]; omega
      · obtain rfl : N = P := by omega
        go_wp2_with fail
        refine (CP.out _).mono ?_
        rintro e wx ⟨rfl, rfl⟩
        have hbf := hb01.trans (HB.out.mono hz1)
        go_wp2_with fail
        go_ret
        exact ⟨Ab, n2, cb, rfl, by rw [HE.out]; exact HSb.out, hbf⟩
end Go.Proofs.Ytillmnhhkhjpkaa
