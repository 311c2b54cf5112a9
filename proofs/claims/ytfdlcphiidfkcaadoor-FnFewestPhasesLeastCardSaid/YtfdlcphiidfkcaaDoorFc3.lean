/- FullPhases of the program, walked. -/
import Derived.Test.YtfdlcphiidfkcaaDoorFa2
import Derived.Test.YtfdlcphiidfkcaaDoorFb3
import Derived.Test.YtfdlcphiidfkcaaDoorFc2
import Derived.Test.YtfdlcphiidfkcaaDoorPp
set_option linter.unusedVariables false
set_option linter.unusedSimpArgs false
namespace Go.Proofs.YtfdlcphiidfkcaaDoor
open Go.RowKit

/-- What the movements block. -/
def bkL (t : List (List Bool)) (n : Nat) (ms : List Int) : Nat := ms.foldl (fun a m => a ||| mskN t n m.toNat) 0
theorem bk_bits (t : List (List Bool)) (n i : Nat) (ms : List Int) : ∀ a : Nat, (ms.foldl (fun a m => a ||| mskN t n m.toNat) a).testBit i = (a.testBit i || ms.any fun m => (mskN t n m.toNat).testBit i) := by
  induction ms with
  | nil => intro a; simp
  | cons x r ih => intro a; rw [List.foldl_cons, ih, Nat.testBit_or, List.any_cons, Bool.or_assoc]
theorem bkL_bit (t : List (List Bool)) (n i : Nat) (ms : List Int) : (bkL t n ms).testBit i = ms.any fun m => (mskN t n m.toNat).testBit i := by
  rw [bkL, bk_bits, Nat.zero_testBit, Bool.false_or]
theorem mskN_bit (t : List (List Bool)) (n a i : Nat) : (mskN t n a).testBit i = (decide (i < n) && tAt t a i) := cmk_bit _ _ _
theorem bkL_lt (t : List (List Bool)) (n : Nat) (ms : List Int) : bkL t n ms < 2 ^ n := Nat.lt_pow_two_of_testBit _ fun i hi => by
  rw [bkL_bit, List.any_eq_false]
  intro x _
  rw [mskN_bit, decide_eq_false (by omega)]; simp
theorem bkL_take {t : List (List Bool)} {n k : Nat} {ms : List Int} {x : Int} (h : ms[k]? = some x) : bkL t n (ms.take (k + 1)) = bkL t n (ms.take k) ||| mskN t n x.toNat := by
  rw [take_snoc h, bkL, List.foldl_append]; rfl
theorem bk_mem {t : List (List Bool)} {n m i : Nat} : (bkL t n (movesN n m)).testBit i = true ↔ i < n ∧ ∃ a, a < n ∧ m.testBit a = true ∧ tAt t a i = true := by
  rw [bkL_bit, List.any_eq_true]
  constructor
  · rintro ⟨x, hx, h⟩
    obtain ⟨a, rfl, ha, hm⟩ := mem_movesN.1 hx
    rw [mskN_bit, Bool.and_eq_true, decide_eq_true_eq] at h
    exact ⟨h.1, a, ha, hm, h.2⟩
  · rintro ⟨hi, a, ha, hm, h⟩
    exact ⟨a, mem_movesN.2 ⟨a, rfl, ha, hm⟩, by rw [mskN_bit]; simp [hi, h]⟩
theorem full_bits {t : List (List Bool)} (ht : tOk t = true) {m : Nat} (hm : m < 2 ^ t.length) : fullB t (movesN t.length m) = true ↔ bkL t t.length (movesN t.length m) &&& m = 0 ∧ bkL t t.length (movesN t.length m) ||| m = 2 ^ t.length - 1 := by
  rw [fullB_iff ht]
  have hbit : ∀ i, t.length ≤ i → m.testBit i = false := fun i hi => Nat.testBit_lt_two_pow (Nat.lt_of_lt_of_le hm (Nat.pow_le_pow_right (by omega) hi))
  constructor
  · rintro ⟨h1, h2⟩
    refine ⟨Nat.eq_of_testBit_eq fun i => ?_, Nat.eq_of_testBit_eq fun i => ?_⟩
    · rw [Nat.testBit_and, Nat.zero_testBit]
      cases hb : (bkL t t.length (movesN t.length m)).testBit i
      · rfl
      · obtain ⟨hi, a, ha, hma, hc⟩ := bk_mem.1 hb
        cases hmi : m.testBit i
        · rfl
        · rw [h1 a i ha hi hma hmi] at hc; cases hc
    · rw [Nat.testBit_or, Nat.testBit_two_pow_sub_one]
      by_cases hi : i < t.length
      · rw [decide_eq_true hi]
        rcases h2 i hi with h | ⟨b, hb, hmb, hc⟩
        · rw [h, Bool.or_true]
        · rw [bk_mem.2 ⟨hi, b, hb, hmb, by rw [tOk_sym ht hb hi]; exact hc⟩, Bool.true_or]
      · rw [decide_eq_false hi, hbit i (by omega)]
        cases hb : (bkL t t.length (movesN t.length m)).testBit i
        · rfl
        · exact absurd (bk_mem.1 hb).1 hi
  · rintro ⟨h1, h2⟩
    refine ⟨fun a b ha hb hma hmb => ?_, fun a ha => ?_⟩
    · cases hc : tAt t a b
      · rfl
      · have := congrArg (fun x => x.testBit b) h1
        simp only [Nat.testBit_and, Nat.zero_testBit, hmb, Bool.and_true] at this
        rw [bk_mem.2 ⟨hb, a, ha, hma, hc⟩] at this
        cases this
    · have := congrArg (fun x => x.testBit a) h2
      simp only [Nat.testBit_or, Nat.testBit_two_pow_sub_one, decide_eq_true ha, Bool.or_eq_true] at this
      rcases this with h | h
      · obtain ⟨-, b, hb, hmb, hc⟩ := bk_mem.1 h
        exact .inr ⟨b, hb, hmb, by rw [tOk_sym ht ha hb]; exact hc⟩
      · exact .inl h
theorem fullUp_pos {t : List (List Bool)} (ht : tOk t = true) : 0 < (fullUp t (2 ^ t.length)).length := by
  obtain ⟨M, h1, h2, -⟩ := full_grow ht (2 ^ t.length) 0 (Nat.sub_le _ _) (Nat.pow_pos (by omega)) (fun a b _ _ h => by simp at h)
  have : movesN t.length M ∈ fullUp t (2 ^ t.length) := List.mem_filter.2 ⟨List.mem_map.2 ⟨M, List.mem_range.2 h1, rfl⟩, (fullB_iff ht M).2 h2⟩
  exact List.length_pos_of_mem this

set_option maxRecDepth 4000 in
set_option maxHeartbeats 8000000 in
theorem fullPhases_c (At : Option Addr) (n ct : Nat) (t : List (List Bool)) (w : World) (B : Nat) (hT : Sl2 w B OLit At n ct t) (hB : B ≤ w.heap.size) (hTab : TabB w) :
    Calls Tryd.prog 15 #[.slice At n ct] w (OwIntSS w (fullL t)) := by
  have htl := hT.len
  have cv := validConflicts_c At n ct t w B hT hB
  cases hok : tOk t
  · rw [hok] at cv
    have CV := Lib.hid cv
    have HE : Hid (fullL t = []) := Lib.hid (by simp [fullL, hok])
    clear cv hok hT
    go_enter Tryd.func15, Tryd.ntmps15
    go_wp2_with fail
    refine CV.out.mono ?_
    rintro e w1 ⟨rfl, hb1⟩
    go_wp2_with fail
    go_ret
    exact ⟨none, 0, 0, rfl, by rw [HE.out]; exact Ow2.nil _ _ _ _ _ _, hb1⟩
  · rw [hok] at cv
    obtain ⟨i1, hj, hj0, hj1, hj2⟩ := info_parts info_rowL
    obtain ⟨hc0, hc1⟩ := hT.cap
    obtain ⟨hk1, hk8, hsq, -⟩ := tOk_iff.1 hok
    rw [htl] at hk1 hk8
    have CV := Lib.hid cv
    have CK := Lib.hid (fun w' (hb : Below w.heap.size w w') => conflictMasks_c At n ct t w' _ ((hT.more hB).below hb) hb.size hsq hk8)
    have HTB := Lib.hid hTab
    have HOK := Lib.hid hok
    have HTL := Lib.hid htl
    have hP1 : 2 ≤ 2 ^ n := by
      have : 2 ^ 1 ≤ 2 ^ n := Nat.pow_le_pow_right (by omega) hk1
      omega
    have hP2 : 2 ^ n ≤ 2 ^ 8 := Nat.pow_le_pow_right (by omega) hk8
    have hpw : (2 : Int) ^ n = ((2 ^ n : Nat) : Int) := by simp
    have h10 := fullUp_one (t := t) (by omega)
    have HPOS : Hid (0 < (fullUp t (2 ^ n)).length) := Lib.hid (by have := fullUp_pos hok; rwa [htl] at this)
    obtain ⟨P, hP⟩ : ∃ P, 2 ^ n = P := ⟨_, rfl⟩
    rw [hP] at hP1 hP2 hpw HPOS
    obtain ⟨Q, hQ⟩ : ∃ Q, P - 1 = Q := ⟨_, rfl⟩
    have hpw2 : IntKind.u64.wrap ((P : Nat) : Int) = P := by rw [IntKind.wrap_u64]; omega
    have hpw3 : IntKind.u64.wrap ((P : Int) - 1) = (Q : Int) := by rw [IntKind.wrap_u64]; omega
    have HP := Lib.hid hP
    have HE : Hid (fullL t = sortL (fullUp t P)) := Lib.hid (by rw [fullL, if_pos hok, htl, hP])
    have H0 : Hid (fullUp t 1 = []) := Lib.hid h10
    clear cv hT hsq hok hP h10 hTab htl
    go_enter Tryd.func15, Tryd.ntmps15
    go_wp2_with fail
    refine CV.out.mono ?_
    rintro e w1 ⟨rfl, hb1⟩
    have hz1 := hb1.size
    go_wp2_with fail
    refine (CK.out w1 hb1).mono ?_
    rintro e w2 ⟨g, rfl, hM, hb2⟩
    have hb02 := hb1.trans (hb2.mono hz1)
    have hz2 := hb02.size
    have HM := Lib.hid hM
    clear hb1 hb2 hM CV CK
    go_wp2_with fail
    clear hpw hpw2 hpw3
    go_loopw [5, 6] (fun v i wr => ∃ (M K : Nat), 1 ≤ M ∧ M ≤ P ∧ i = .int .u64 M ∧ K ≤ M ∧ Bld wr w2.heap.size 28 3 ILit v K (fullUp t M) ∧ Below w2.heap.size w2 wr) (fun _ i _ => P - (intOf i).toNat)
    case atStart => exact ⟨1, 0, by omega, by omega, rfl, by omega, by rw [H0.out]; exact Bld.nil _ _ _ _ _ _ (World.ownsRow_nil _ _ _ _), Below.refl _ _⟩
    case round =>
      obtain ⟨M, K, hM1, hMP, rfl, hKM, hBl, hb⟩ := hrel
      have hzr := hb.size
      by_cases hlt : M < P
      · have hMQ : (M : Int) ≤ (Q : Int) := by omega
        have hmv := fun wq (hq : Below w2.heap.size w2 wq) => movesOf_c M n (by rw [HP.out]; exact hlt) hk8 wq ((HTB.out.below hb02).below hq)
        have CMV := Lib.hid hmv
        have hfb := full_bits HOK.out (m := M) (by rw [HTL.out, HP.out]; exact hlt)
        rw [HTL.out, HP.out, hQ] at hfb
        have hbl := bkL_lt t n (movesN n M)
        rw [HP.out] at hbl
        have hM1' : IntKind.u64.wrap ((M : Int) + 1) = ((M + 1 : Nat) : Int) := by rw [IntKind.wrap_u64]; omega
        have HFB := Lib.hid hfb
        have HB := Lib.hid hb
        have HBL := Lib.hid hBl
        obtain ⟨Av, cv, rfl, -⟩ := hBl.ow2
        clear hmv hfb hb hBl
        go_wp2_with fail
        refine (CMV.out wr HB.out).mono ?_
        rintro e wa ⟨A5, k5, c5, rfl, hO5, hk5, -, hba⟩
        have hza := hba.size
        have hbba := HB.out.trans (hba.mono hzr)
        have hS5 := Lib.hid hO5.sl
        have hl5 := hO5.len
        have HBBA := Lib.hid hbba
        have HBA := Lib.hid hba
        have hin5 : ∀ x ∈ movesN n M, 0 ≤ x ∧ x < n := fun x hx => movesN_range hx
        have HIN5 := Lib.hid hin5
        clear hO5 hba hin5
        go_wp2_with fail
        go_loopw [7, 27] (fun b i wr => ∃ k : Nat, k ≤ k5 ∧ i = .int .i64 k ∧ b = .int .u64 (bkL t n ((movesN n M).take k)) ∧ Below wa.heap.size wa wr) (fun _ i _ => k5 - (intOf i).toNat)
        case atStart => exact ⟨0, by omega, rfl, rfl, Below.refl _ _⟩
        case round =>
          clear hbba
          obtain ⟨k, hk, rfl, rfl, hb⟩ := hrel
          have hzr2 := hb.size
          by_cases hkk : k < k5
          · obtain ⟨b1, o1, x, rfl, hb1, hx, hcx⟩ := (hS5.out.below hb).at_ hkk
            obtain ⟨hx0, hx1⟩ := HIN5.out x (List.mem_of_getElem? hx)
            obtain ⟨a, rfl⟩ := Int.eq_ofNat_of_zero_le hx0
            have han : a < n := by omega
            have r1 : wr.cell? ⟨b1, o1 + k, none⟩ = some (.int .i64 a) := hcx
            have hbw := HBBA.out.trans (hb.mono HBBA.out.size)
            obtain ⟨c1, -, hg1, hg2⟩ := (HM.out.below hbw).cell_ (rng_at (mskN t n) han)
            have c1' : wr.cell? ⟨g, a, none⟩ = some (.int .u64 (mskN t n a)) := c1
            have ht := bkL_take (t := t) (n := n) hx
            simp only [Int.toNat_natCast] at ht
            have hl1 := bkL_lt t n ((movesN n M).take k)
            have hl2 : mskN t n a < 2 ^ n := cmk_lt _ _
            rw [HP.out] at hl1 hl2
            obtain ⟨u, hu⟩ : ∃ u, bkL t n ((movesN n M).take k) = u := ⟨_, rfl⟩
            obtain ⟨m, hm⟩ : ∃ m, mskN t n a = m := ⟨_, rfl⟩
            rw [hu, hm] at ht
            rw [hu] at hl1
            rw [hm] at hl2 c1'
            have hor : bits BinOp.or IntKind.u64 (u : Int) (m : Int) = ((u ||| m : Nat) : Int) := bits_or_u64_nat u m (by omega) (by omega)
            obtain ⟨u2, hu2⟩ : ∃ u2, u ||| m = u2 := ⟨_, rfl⟩
            rw [hu2] at hor ht
            have HTT := Lib.hid ht
            have i0 : (0 : Int) ≤ (a : Int) := by omega
            have i2 : (a : Int) < (n : Int) := by omega
            have i3 : b1 < wr.heap.size := by omega
            have HB2 := Lib.hid hb
            rw [hu]
            clear hb ht hcx hx hu hm hu2 c1 hbw
            go_wp2_with fail
            clear r1 c1' hor
            go_roundw
            case rel => exact ⟨k + 1, by omega, by go_num, by rw [HTT.out], HB2.out⟩
            case measure => simp [intOf]; omega
          · obtain rfl : k = k5 := by omega
            have htk : (movesN n M).take k = movesN n M := List.take_of_length_le (by omega)
            rw [htk]
            have hbn := HBBA.out.trans (hb.mono HBBA.out.size)
            have hrc := HBA.out.trans (hb.mono hza)
            obtain ⟨u, hu⟩ : ∃ u, bkL t n (movesN n M) = u := ⟨_, rfl⟩
            have hfb := HFB.out
            rw [hu] at hfb hbl ⊢
            have hand : bits BinOp.and IntKind.u64 (u : Int) (M : Int) = ((u &&& M : Nat) : Int) := bits_and_u64_nat u M (by omega) (by omega)
            have hor : bits BinOp.or IntKind.u64 (u : Int) (M : Int) = ((u ||| M : Nat) : Int) := bits_or_u64_nat u M (by omega) (by omega)
            obtain ⟨X, hX⟩ : ∃ X, u &&& M = X := ⟨_, rfl⟩
            obtain ⟨Y, hY⟩ : ∃ Y, u ||| M = Y := ⟨_, rfl⟩
            rw [hX] at hfb hand
            rw [hY] at hfb hor
            by_cases hgo : X = 0 ∧ Y = Q
            · obtain ⟨rfl, rfl⟩ := hgo
              have HE2 : Hid (fullUp t (M + 1) = fullUp t M ++ [movesN n M]) := Lib.hid (by have := fullUp_take (t := t) (m := M) (by rw [HTL.out]; exact hfb.2 ⟨rfl, rfl⟩); rw [HTL.out] at this; exact this)
              have HBN := Lib.hid hbn
              have HRC := Lib.hid hrc
              clear hfb hX hY hu hbn hrc htk
              go_wp2_with fail
              refine (CMV.out wr HBN.out).mono ?_
              rintro e wc ⟨A6, k6, c6, rfl, hO6, hk6, hub6, hbc⟩
              have hrc := HRC.out.trans (hbc.mono HRC.out.size)
              have hbn := HBN.out.trans (hbc.mono HBN.out.size)
              obtain ⟨vs, hv1, hv2, hv3⟩ := HBL.out
              have hv0 := fun b hb => (hv1.lt b hb).2
              have hown2 := own_below hv1 hrc
              have hR2 := hv2.below (Nat.le_refl _) hrc
              have hzrc := hrc.size
              have hzn := hbn.size
              have hzq := HRC.out.size
              have HU6 := Lib.hid (fun b (hb : (Value.slice A6 k6 c6).ownBlock = some b) => hub6 b hb)
              have HO6 := Lib.hid hO6
              have HV0 := Lib.hid hv0
              have HV3 := Lib.hid hv3
              have HV2 := Lib.hid hv2
              have HV1 := Lib.hid hv1
              clear hv1 hv2 hv0 hv3 hbc hrc hO6 hub6
              go_wp2_with (at_builtin; refine wpList_app1_at w2 wc rfl _ _ 25 rfl 28 i1 (.slice none 0 0) 24 Tryd.underlying25 hj hj0 hj1 hj2 rfl (by decide) w2.heap.size _ K _ (by rfl) hown2 _ rfl _ (by rfl) rfl (by omega) hbn (by omega) ?_; intro v8 w8 hO8 hb8 hg8 hv8)
              have hN := Bld.app (f := ILit) (E := 3) hown2 hR2 HV3.out HV0.out (by omega) hzr (HO6.out.mono (by omega)) (fun b hb => ⟨by have := (HU6.out b hb).1; omega, (HU6.out b hb).2⟩) hO8 hg8 hv8
              rw [← HE2.out] at hN
              clear hown2 hR2 HV3 HV0 HV2 HV1 HO6 HU6 hO8 hg8 hv8 hbn
              go_wp2_with fail
              go_roundw
              case rel => exact ⟨M + 1, K + 1, by omega, by omega, by first | rfl | go_num | rw [hM1'], by omega, hN, hb8⟩
              case measure => simp [intOf]; omega
            · have HE2 : Hid (fullUp t (M + 1) = fullUp t M) := Lib.hid (by
                have hf : fullB t (movesN n M) = false := by
                  cases hc : fullB t (movesN n M)
                  · rfl
                  · exact absurd (hfb.1 hc) hgo
                have := fullUp_skip (t := t) (m := M) (by rw [HTL.out]; exact hf)
                exact this)
              have hBn := HBL.out.below hrc
              rw [← HE2.out] at hBn
              have HBN := Lib.hid hbn
              clear hfb hX hY hu hrc htk hbn
              by_cases hX0 : X = 0
              · have hYQ : ¬ Y = Q := fun h => hgo ⟨hX0, h⟩
                subst hX0
                have hyq : ((Y : Int) == (Q : Int)) = false := by simp; omega
                have hyq2 : ¬ (Y : Int) = (Q : Int) := by omega
                clear hgo
                go_wp2_with fail
                go_roundw
                case rel => exact ⟨M + 1, K, by omega, by omega, by first | rfl | go_num | rw [hM1'], by omega, hBn, HBN.out⟩
                case measure => simp [intOf]; omega
              · have hx0 : ((X : Int) == 0) = false := by simp; omega
                have hx1 : ¬ X = 0 := hX0
                clear hgo
                go_wp2_with fail
                go_roundw
                case rel => exact ⟨M + 1, K, by omega, by omega, by first | rfl | go_num | rw [hM1'], by omega, hBn, HBN.out⟩
                case measure => simp [intOf]; omega
      · obtain rfl : M = P := by omega
        have hMQ : ¬ (M : Int) ≤ (Q : Int) := by omega
        have hKl := hBl.len
        have hpos := HPOS.out
        obtain ⟨A9, c9, rfl, hO9⟩ := hBl.ow2
        have CS := Lib.hid (sortRows_c A9 K c9 (fullUp t M) wr _ _ hO9 (Nat.le_refl _) (by omega) (by omega))
        clear hO9 hBl
        go_wp2_with fail
        refine CS.out.mono ?_
        rintro e wz ⟨rfl, hOz, hbz⟩
        have hbf := hb02.trans ((hb.trans hbz).mono hz2)
        have hzz := hbf.size
        have HOF := Lib.hid ((hOz.less (lo' := w.heap.size) hz2).more (hi' := wz.heap.size) (by have := hbz.size; omega))
        clear hOz
        go_wp2_with fail
        go_ret
        exact ⟨A9, K, c9, rfl, by rw [HE.out]; exact HOF.out, hbf⟩
end Go.Proofs.YtfdlcphiidfkcaaDoor
