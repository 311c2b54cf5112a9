/- spec.BestOrder, walked. -/
import Derived.Test.YtlpbmnmhpknppaaCf2
set_option linter.unusedVariables false
set_option linter.unusedSimpArgs false
namespace Go.Proofs.Ytlpbmnmhpknppaa
open Go.RowKit

/-- A list that can be read. -/
def SlInts (w : World) (xs : List Int) (e : Ending) (w' : World) : Prop :=
  ∃ A n c, e = .returned (.slice A n c) ∧ Sl w' w'.heap.size ILit A n c xs ∧ Below w.heap.size w w'
theorem OrdOf.sl2 {w w' : World} {Ab A : Option Addr} {n c : Nat} {xss : List (List Int)} (h : OrdOf w Ab xss (.returned (.slice A n c)) w') : n = xss.length ∧ Sl2 w' w'.heap.size ILit A n c xss ∧ Below w.heap.size w w' := by
  obtain ⟨A', c', e, hb, ts, hS, hl, hr⟩ := h
  injection e with e
  injection e with e1 e2 e3
  subst e1 e2 e3
  refine ⟨rfl, ⟨rfl, hS.cap.1, hS.cap.2, fun hn => ?_⟩, hb⟩
  obtain ⟨b, o, hA, hb, hc⟩ := hS.2.2.2 hn
  refine ⟨b, o, hA, hb, fun j xs hx => ?_⟩
  have hjl : j < ts.length := by rw [hl]; exact (List.getElem?_eq_some_iff.1 hx).1
  obtain ⟨e1, -⟩ := hr j ts[j] xs (List.getElem?_eq_getElem hjl) hx
  exact ⟨_, _, _, hc j ts[j] (List.getElem?_eq_getElem hjl), e1⟩

set_option maxHeartbeats 4000000 in
theorem sBestOrder_c (At : Option Addr) (m ct : Nat) (t : List (List Int)) (A : Option Addr) (n c : Nat) (list : List (List Int)) (w : World) (B : Nat) (hT : Sl2 w B ILit At m ct t) (hS : Sl2 w B ILit A n c list) (hB : B ≤ w.heap.size) (hpl : ∀ p ∈ list, p.length ≤ 1048576) :
    Calls Try.prog 40 #[.slice At m ct, .slice A n c] w (SlInts w (bestOrdF t list)) := by
  obtain ⟨ht0, ht1⟩ := hT.cap
  obtain ⟨hc0, hc1⟩ := hS.cap
  have hl := hT.len
  have hln := hS.len
  have hb0 : Below w.heap.size w (w.alloc (.cells #[] 3)) := (Below.refl _ _).alloc (Nat.le_refl _) _
  have hT0 := hT.more hB
  have hS0 := hS.more hB
  have cv := validRing_c At m ct t A n c list (w.alloc (.cells #[] 3)) w.heap.size (hT0.below hb0) (hS0.below hb0) (by simp) (fun p hp => Nat.le_trans (hpl p hp) (by omega))
  cases hr : ringB t list
  · have HE : Hid (bestOrdF t list = []) := Lib.hid (by simp [bestOrdF, hr])
    rw [hr] at cv
    have CV := Lib.hid cv
    clear cv hr hT hS hT0 hS0 hl hln hpl
    go_enter Try.func40, Try.ntmps40
    go_wp2_with fail
    refine CV.out.mono ?_
    rintro e w1 ⟨rfl, hb1⟩
    go_wp2_with fail
    go_ret
    exact ⟨_, _, _, rfl, by rw [HE.out]; exact Sl.nil _ _ _, hb0.trans (hb1.mono (by simp))⟩
  · have HE : Hid (bestOrdF t list = bestOrd t list) := Lib.hid (by simp [bestOrdF, hr])
    rw [hr] at cv
    have CV := Lib.hid cv
    obtain ⟨hok, hic⟩ := ringB_inC hr
    have hin := ringB_in hr
    rw [hl] at hin
    obtain ⟨h1, h5⟩ := (ringB_iff.1 hr).1
    have hoa := ord_all h1
    have HBO : Hid (bestOrd t list = (ordL n (n - 1) [0]).foldl (betterO t list) []) := Lib.hid (by rw [bestOrd, hln])
    rw [hln] at h1 h5 hoa
    have CL := Lib.hid (fun (Ax : Option Addr) (nx cx : Nat) (xs : List (List Int)) (w' : World) (Bx : Nat) (hb : Below w.heap.size w w') (hx : Sl2 w' Bx ILit Ax nx cx xs) (hBx : Bx ≤ w'.heap.size) (hxm : ∀ p ∈ xs, p ∈ list) (hnx : nx ≤ 1048576) => sLostOf_c At m ct t Ax nx cx xs w' w'.heap.size ((hT0.below hb).more hb.size) (hx.more hBx) (Nat.le_refl _) (cOk_iff.1 hok).2.2.1 (fun p hp => hin p (hxm p hp)) hic hnx (fun p hp => hpl p (hxm p hp)))
    have HOA := Lib.hid hoa
    have hlen5 : (ordL n (n - 1) [0]).length ≤ 3125 := ordL_small h5 (by omega)
    obtain ⟨os, hos⟩ : ∃ os, ordL n (n - 1) [0] = os := ⟨_, rfl⟩
    have HOS := Lib.hid hos
    rw [hos] at hlen5
    have HLN := Lib.hid hln
    clear cv hr hT hS hT0 hl hln hpl hok hic hin hoa hos
    go_enter Try.func40, Try.ntmps40
    go_wp2_with fail
    refine CV.out.mono ?_
    rintro e w1 ⟨rfl, hb1⟩
    have hb01 := hb0.trans (hb1.mono (by simp))
    have hz1 := hb01.size
    have hbeg : Sl (w1.alloc (.cells #[.int .i64 0] 3)) (w1.heap.size + 1) ILit (some ⟨w1.heap.size, 0, none⟩) 1 1 [0] := Sl.new w1 ILit [0] 3 (by simp)
    have hb12 : Below w.heap.size w (w1.alloc (.cells #[.int .i64 0] 3)) := hb01.alloc hz1 _
    have C2 := Lib.hid (orders_c n h5 (n - 1) _ 1 1 [0] _ _ hbeg (by simp) (by omega))
    clear hb1 hb01 hbeg CV hb0
    go_wp2_with fail
    refine C2.out.mono ?_
    rintro e w3 hOrd
    have hOrd0 := hOrd
    obtain ⟨A3, c3, rfl, -⟩ := hOrd0
    obtain ⟨hn3, hAll, hb23⟩ := hOrd.sl2
    rw [HOS.out] at hAll
    have hb03 := hb12.trans (hb23.mono (by simp; omega))
    have hz3 := hb03.size
    have hnl : (ordL n (n - 1) [0]).length = os.length := by rw [HOS.out]
    rw [hnl]
    clear hOrd hb12 hb23 C2 hn3 hnl hz1
    obtain ⟨hk0, hk1⟩ := hAll.cap
    go_wp2_with fail
    go_loopw [5, 7] (fun v i wr => ∃ (k : Nat) (Ab : Option Addr) (nb cb : Nat) (b : List Int), k ≤ os.length ∧ i = .int .i64 k ∧ v = .slice Ab nb cb ∧ Sl w3 w3.heap.size ILit Ab nb cb b ∧ Hid (b = (os.take k).foldl (betterO t list) []) ∧ Below w3.heap.size w3 wr) (fun _ i _ => os.length - (intOf i).toNat)
    case atStart => exact ⟨0, _, 0, 0, [], by omega, rfl, rfl, ⟨rfl, Nat.le_refl _, by omega, fun h => absurd h (by omega)⟩, Lib.hid (by simp), Below.refl _ _⟩
    case round =>
      obtain ⟨k, Ab, nb, cb, b, hk, rfl, rfl, hbS, hbF, hb⟩ := hrel
      have hzr := hb.size
      have hbr := hb03.trans (hb.mono hz3)
      by_cases hlt : k < os.length
      · obtain ⟨g, p, o, A4, n4, c4, rfl, hgl, ho, hcell, hrow⟩ := hAll.at_ hlt
        have hcell' : wr.cell? ⟨g, p + k, none⟩ = some (.slice A4 n4 c4) := (hb.cell (p := ⟨g, p + k, none⟩) hgl).trans hcell
        have hgw : g < wr.heap.size := by omega
        obtain ⟨o1, o2, o3, o4⟩ := HOA.out o (by rw [HOS.out]; exact List.mem_of_getElem? ho)
        have hF := foldl_snoc (betterO t list) [] ho
        rw [← hbF.out] at hF
        have HF := Lib.hid hF
        have hrl : n4 = n := by rw [← hrow.len]; exact o2
        have hon : ∀ x ∈ o, 0 ≤ x ∧ x < n := o1.2
        have hn45 : n4 ≤ 5 := by omega
        clear hcell ho hF hrl
        -- the arranged phases of an order, and their lost time
        have ca := fun (Ax : Option Addr) (nx cx : Nat) (x : List Int) (hx : Sl w3 w3.heap.size ILit Ax nx cx x) (hxn : ∀ y ∈ x, 0 ≤ y ∧ y < n) (hnx : nx ≤ 1048576) (w' : World) (hw : Below wr.heap.size wr w') => arrange_c A n c list Ax nx cx x w' w'.heap.size (((hS0.below hbr).below (hw.mono (Nat.le_trans hz3 hzr))).more (Nat.le_trans (Nat.le_trans hz3 hzr) hw.size)) (((hx.below hb).below (hw.mono hzr)).more (Nat.le_trans hzr hw.size)) (Nat.le_refl _) hxn hnx
        have cl := fun (Ax : Option Addr) (nx cx : Nat) (x : List Int) (hxn : ∀ y ∈ x, 0 ≤ y ∧ y < n) (hnx : nx ≤ 1048576) (w' : World) (hw : Below wr.heap.size wr w') (hx : Sl2 w' w'.heap.size ILit Ax nx cx (arrL list x)) => CL.out Ax nx cx (arrL list x) w' _ (hbr.trans (hw.mono (Nat.le_trans hz3 hzr))) hx (Nat.le_refl _) (arrL_mem (by rw [HLN.out]; exact hxn)) hnx
        have CA1 := Lib.hid (ca A4 n4 c4 o hrow hon (by omega))
        have CL1 := Lib.hid (fun Ax cx => cl Ax n4 cx o hon (by omega))
        by_cases hbn : b = []
        · have hnb : nb = 0 := by rw [← hbS.len, hbn]; rfl
          have HB1 : Hid (betterO t list b o = o) := Lib.hid (by simp [betterO, hbn])
          subst hnb
          clear ca cl CA1 CL1 hbn o1 o2 o3 o4 hon
          go_wp2_with fail
          go_roundw
          case rel => exact ⟨k + 1, A4, n4, c4, o, by omega, by go_num, rfl, hrow, Lib.hid (by rw [HF.out, HB1.out]), hb⟩
          case measure => simp [intOf]; omega
        · have hnb : 0 < nb := by
            rw [← hbS.len]
            exact List.length_pos_iff.2 hbn
          have hbo : isOrd n b := by
            rcases fold_best t list n (os.take k) (fun x hx => by
              have := HOA.out x (by rw [HOS.out]; exact List.mem_of_mem_take hx)
              exact ⟨this.1, this.2.2.2⟩) [] (.inl rfl) with h | h
            · exact absurd (hbF.out.trans h) hbn
            · rw [hbF.out]; exact h
          have hnb5 : nb ≤ n := by rw [← hbS.len]; exact (ord_le n b hbo).1
          have hnb0 : ((nb : Int) == 0) = false := by simp; omega
          have hnb1 : (nb == 0) = false := by simp; omega
          have CA2 := Lib.hid (ca Ab nb cb b hbS hbo.2 (by omega))
          have CL2 := Lib.hid (fun Ax cx => cl Ax nb cx b hbo.2 (by omega))
          obtain ⟨X, hX⟩ : ∃ X, lostN t (arrL list o) = X := ⟨_, rfl⟩
          obtain ⟨Y, hY⟩ : ∃ Y, lostN t (arrL list b) = Y := ⟨_, rfl⟩
          rw [hX] at CL1
          rw [hY] at CL2
          have HB1 : Hid (betterO t list b o = if X < Y then o else b) := Lib.hid (by simp [betterO, hbn, hX, hY])
          clear ca cl hbn hbo o1 o2 o3 o4 hon hX hY
          by_cases hXY : X < Y
          all_goals
            first | (have HN := Lib.hid (HB1.out.trans (if_pos hXY))) | (have HN := Lib.hid (HB1.out.trans (if_neg hXY)))
            go_wp2_with fail
            refine (CA1.out wr (Below.refl _ _)).mono ?_
            rintro e w4 ⟨A5, c5, rfl, hS5, hb4⟩
            have hcell4 := (hb4.cell (p := ⟨g, p + k, none⟩) hgw).trans hcell'
            have L1 := Lib.hid (CL1.out A5 c5 w4 hb4 hS5)
            have hz4 := hb4.size
            clear hS5
            go_wp2_with fail
            refine L1.out.mono ?_
            rintro e w5 ⟨rfl, hb5⟩
            have hb45 := hb4.trans (hb5.mono hz4)
            have hz5 := hb45.size
            clear L1 hb5
            go_wp2_with fail
            refine (CA2.out w5 hb45).mono ?_
            rintro e w6 ⟨A6, c6, rfl, hS6, hb6⟩
            have hb46 := hb45.trans (hb6.mono hz5)
            have hz6 := hb46.size
            have L2 := Lib.hid (CL2.out A6 c6 w6 hb46 hS6)
            clear hS6 hb6
            go_wp2_with fail
            refine L2.out.mono ?_
            rintro e w7 ⟨rfl, hb7⟩
            have hb47 := hb46.trans (hb7.mono hz6)
            have hcell7 := (hb47.cell (p := ⟨g, p + k, none⟩) hgw).trans hcell'
            clear L2 hb7 hb46 hb45 hb4 hcell4 hcell'
            go_wp2_with fail
            go_roundw
            case rel => exact ⟨k + 1, _, _, _, _, by omega, by go_num, rfl, by first | exact hrow | exact hbS, Lib.hid (by rw [HF.out, HN.out]), hb.trans (hb47.mono hzr)⟩
            case measure => simp [intOf]; omega
      · obtain rfl : k = os.length := by omega
        have hE := hbF.out
        rw [List.take_length, ← HOS.out, ← HBO.out] at hE
        have HEE := Lib.hid hE
        clear hE
        go_wp2_with fail
        go_ret
        exact ⟨_, _, _, rfl, by rw [HE.out, ← HEE.out]; exact (hbS.below hb).more hzr, hbr⟩
end Go.Proofs.Ytlpbmnmhpknppaa
