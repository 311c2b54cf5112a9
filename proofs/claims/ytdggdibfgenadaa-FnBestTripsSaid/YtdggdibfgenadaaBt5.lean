/- BestTrips of the program and of the reference. -/
import Derived.Test.YtdggdibfgenadaaBt4
set_option linter.unusedVariables false
set_option linter.unusedSimpArgs false
namespace Go.Proofs.Ytdggdibfgenadaa
open Go.RowKit

theorem bestOk_iff {xs : List Int} {room : Int} (h : bestOk xs room = true) : tripOk xs = true ∧ 1 ≤ room ∧ room ≤ 5 := by
  simp only [bestOk, Bool.and_eq_true] at h
  have := inB_iff h.2
  exact ⟨h.1, this.1, this.2⟩

set_option maxHeartbeats 4000000 in
theorem bestTrips_yes (A : Option Addr) (n c : Nat) (zs : List Int) (room : Nat) (w : World) (B : Nat) (hS : Sl w B ILit A n c zs) (hB : B ≤ w.heap.size) (hk : tripOk zs = true) (hr1 : 1 ≤ room) (hr2 : room ≤ 5) :
    Calls Try.prog 20 #[.slice A n c, .int .i64 room] w (OwTwo w (bestSizes room (sortI zs)) (bestTime room (sortI zs))) := by
  have hlen := hS.len
  have hn : n ≤ 12 := by have := (tripOk_all hk).1; omega
  obtain ⟨i0, hi, hi0, hi1, hi2⟩ := info_parts info_int
  have hmk := run_make_row' (P := Try.prog) 22 3 (.int .i64 0) 8 Try.underlying22 info_int rfl .i64 .i64 (n + 1) (by omega) (by omega)
  rw [made_rep, show ((n + 1 : Nat) : Int) = (n : Int) + 1 from by omega] at hmk
  obtain ⟨cs, hcs⟩ : ∃ cs, ((List.replicate (n + 1) (0 : Int)).map ILit).toArray = cs := ⟨_, rfl⟩
  rw [hcs] at hmk
  have HCS := Lib.hid hcs
  have cv := validTrip_c A n c zs w B hS hB
  rw [hk] at cv
  have CV := Lib.hid cv
  have cw := fun w => within_c (room : Int) 1 5 w
  rw [show inB (room : Int) 1 5 = true by simp [inB]; omega] at cw
  have CW := Lib.hid cw
  have hok : Hid (tripOk (sortI zs) = true) := Lib.hid (by rw [tripOk_perm (sortI_perm zs)]; exact hk)
  have HLX : Hid ((sortI zs).length = n) := Lib.hid (by rw [sortI_len]; exact hlen)
  have hS0' := hS.more hB
  clear cv cw hcs hS hlen hk
  go_enter Try.func20, Try.ntmps20
  go_wp2_with fail
  refine CV.out.mono ?_
  rintro e w1 ⟨rfl, hb1⟩
  have hz1 := hb1.size
  go_wp2_with fail
  refine (CW.out _).mono ?_
  rintro e w1' ⟨rfl, rfl⟩
  go_wp2_with fail
  refine (clone_c A n c zs w1 _ (hS0'.below hb1) (by omega)).mono ?_
  rintro e w2 ⟨v, rfl, hO2, hb2⟩
  obtain ⟨A1, cc, rfl, hW2⟩ := Ow.of_own hO2
  have hz2 := hb2.size
  clear hO2
  go_wp2_with fail
  refine (sort_c A1 n cc zs w2 w1.heap.size hW2 (by omega)).mono ?_
  rintro e w3 ⟨rfl, hW3, hb3⟩
  have hz3 := hb3.size
  have hb03 : Below w.heap.size w w3 := (hb1.trans (hb2.mono hz1)).trans (hb3.mono hz1)
  have hS0 := hW3.sl
  obtain ⟨hca, hcb⟩ := hS0.cap
  obtain ⟨xs, hxs⟩ : ∃ xs, sortI zs = xs := ⟨_, rfl⟩
  rw [hxs] at hS0 hok HLX
  have HXS := Lib.hid hxs
  have HL := HLX
  have q1 : Ow ((w3.alloc (.cells ((List.replicate (n + 1) (0 : Int)).map ILit).toArray 3)).alloc (.cells ((List.replicate (n + 1) (0 : Int)).map ILit).toArray 3)) w3.heap.size 3 ILit (some ⟨w3.heap.size, 0, none⟩) (n + 1) (n + 1) (List.replicate (n + 1) 0) := by
    have := (Ow.new w3 ILit (List.replicate (n + 1) (0 : Int)) 3 (by simp; omega)).below (w' := (w3.alloc (.cells ((List.replicate (n + 1) (0 : Int)).map ILit).toArray 3)).alloc (.cells ((List.replicate (n + 1) (0 : Int)).map ILit).toArray 3)) ((Below.refl _ _).alloc (Nat.le_refl _) _)
    simpa using this
  have q2 : Ow ((w3.alloc (.cells ((List.replicate (n + 1) (0 : Int)).map ILit).toArray 3)).alloc (.cells ((List.replicate (n + 1) (0 : Int)).map ILit).toArray 3)) w3.heap.size 3 ILit (some ⟨w3.heap.size + 1, 0, none⟩) (n + 1) (n + 1) (List.replicate (n + 1) 0) := by
    have := (Ow.new (w3.alloc (.cells ((List.replicate (n + 1) (0 : Int)).map ILit).toArray 3)) ILit (List.replicate (n + 1) (0 : Int)) 3 (by simp; omega)).mono (b' := w3.heap.size) (by simp)
    simpa using this
  have qb : Below w3.heap.size w3 ((w3.alloc (.cells ((List.replicate (n + 1) (0 : Int)).map ILit).toArray 3)).alloc (.cells ((List.replicate (n + 1) (0 : Int)).map ILit).toArray 3)) := by (repeat' (first | (with_reducible exact Below.refl _ _) | (with_reducible assumption) | (with_reducible refine Below.alloc ?_ ?_ _) | (with_reducible refine below_plus ?_ ?_ _ _) | (with_reducible refine Below.drew ?_) | (with_reducible refine Below.setCell ?_ ?_ _) | (with_reducible refine below_adv ?_ ?_ _) | go_size | (simp; done) | (simp; omega)))
  rw [HCS.out] at q1 q2 qb
  clear hxs hW3 hW2 hb1 hb2 hb3 CV CW hS0' HLX
  go_wp2_with fail
  obtain ⟨w4, hw4⟩ : ∃ w4, (w3.alloc (.cells cs 3)).alloc (.cells cs 3) = w4 := ⟨_, rfl⟩
  rw [hw4] at q1 q2 qb ⊢
  clear hw4
  have hz4 := qb.size
  obtain ⟨gc, hgc⟩ : ∃ g, w3.heap.size = g := ⟨_, rfl⟩
  have hb0 : w.heap.size ≤ gc := by omega
  have hgw : gc ≤ w4.heap.size := by omega
  rw [hgc] at q1 q2 qb hS0 ⊢
  clear hgc
  go_loopw [10] (fun at_ wr => ∃ (j : Nat) (i' : Int), j ≤ n ∧ at_ = .int .i64 i' ∧ i' = (j : Int) - 1 ∧ Below gc w3 wr ∧ Ow wr gc 3 ILit (some ⟨gc, 0, none⟩) (n + 1) (n + 1) (List.replicate j 0 ++ (tabT room (xs.drop j)).map (·.2)) ∧ Ow wr gc 3 ILit (some ⟨gc + 1, 0, none⟩) (n + 1) (n + 1) (List.replicate j 0 ++ (tabT room (xs.drop j)).map (·.1))) (fun at_ _ => (intOf at_ + 1).toNat)
  case atStart =>
    have e : xs.drop n = [] := List.drop_of_length_le (by rw [HL.out]; exact Nat.le_refl _)
    refine ⟨n, _, Nat.le_refl _, rfl, rfl, qb, ?_, ?_⟩
    · rw [e]; simpa [tabT, List.replicate_succ'] using q1
    · rw [e]; simpa [tabT, List.replicate_succ'] using q2
  case round =>
    clear q1 q2 qb hmk
    obtain ⟨j, i', hjn, rfl, hi', hb, hC, hT⟩ := hrel
    have hzr := hb.size
    by_cases hj : 0 < j
    · obtain ⟨j, rfl⟩ : ∃ j', j = j' + 1 := ⟨j - 1, by omega⟩
      obtain rfl : i' = (j : Int) := by omega
      rw [rep_snoc] at hC hT
      have hpl : (List.replicate j (0 : Int)).length = j := by simp
      obtain ⟨pre, hpre⟩ : ∃ pre, List.replicate j (0 : Int) = pre := ⟨_, rfl⟩
      rw [hpre] at hC hT hpl
      have HPRE := Lib.hid hpre
      have HPL := Lib.hid hpl
      have hC1 := hC
      have hT1 := hT
      have hb1 := hb
      clear hpre hpl hC hT hi' hb
      go_wp2_with fail
      go_loopw [11] (fun kk wr => ∃ (s : Nat) (f l : Int), s ≤ min room (n - j) ∧ kk = .int .i64 ((s : Int) + 1) ∧ Hid (f = (bAt (xs.drop j) (tabT room (xs.drop (j + 1))) s).1 ∧ l = (bAt (xs.drop j) (tabT room (xs.drop (j + 1))) s).2) ∧ Below gc w3 wr ∧ Ow wr gc 3 ILit (some ⟨gc, 0, none⟩) (n + 1) (n + 1) (pre ++ l :: (tabT room (xs.drop (j + 1))).map (·.2)) ∧ Ow wr gc 3 ILit (some ⟨gc + 1, 0, none⟩) (n + 1) (n + 1) (pre ++ f :: (tabT room (xs.drop (j + 1))).map (·.1))) (fun kk _ => room + 1 - (intOf kk).toNat)
      case atStart => exact ⟨0, 0, 0, by omega, rfl, Lib.hid ⟨rfl, rfl⟩, hb1, hC1, hT1⟩
      case round =>
        clear hb1 hC1 hT1 hzr
        obtain ⟨s, f, l, hs, rfl, hfl, hb, hC, hT⟩ := hrel
        have hzr := hb.size
        by_cases h1 : s < room ∧ j + s < n
        · obtain ⟨h1, h2⟩ := h1
          have hbd := tabT_bd room (xs.drop (j + 1)) s
          have hld : (xs.drop (j + 1)).length ≤ 12 := by simp [HL.out]; omega
          have htl : (tabT room (xs.drop (j + 1)))[s]? = some ((tabT room (xs.drop (j + 1))).getD s (0, 0)) := by
            rw [List.getD_eq_getElem?_getD, List.getElem?_eq_getElem (by rw [tabT_len]; simp [HL.out]; omega)]; rfl
          have hbA := (bAt_bd (xs.drop j) (tabT room (xs.drop (j + 1))) _ (tabT_bd room (xs.drop (j + 1))) s (by omega)).1
          have hbF : 1 ≤ s → 1 ≤ (bAt (xs.drop j) (tabT room (xs.drop (j + 1))) s).1 := fun h => (bAt_first _ _ h).1
          have hyes := bAt_yes (ys := xs.drop j) (tl := tabT room (xs.drop (j + 1))) (k := s)
          have hno := bAt_no (ys := xs.drop j) (tl := tabT room (xs.drop (j + 1))) (k := s)
          obtain ⟨tl, htl0⟩ : ∃ tl, tabT room (xs.drop (j + 1)) = tl := ⟨_, rfl⟩
          have HTL := Lib.hid htl0
          rw [htl0] at hbd htl hfl hC hT hyes hno hbA hbF
          obtain ⟨t2, ht2⟩ : ∃ t2, (tl.getD s (0, 0)).2 = t2 := ⟨_, rfl⟩
          have hcs : (pre ++ l :: tl.map (·.2))[j + 1 + s]? = some t2 := by
            rw [get_past pre l _ HPL.out s, List.getElem?_map, htl, ← ht2]; rfl
          obtain ⟨c2, -, l0, -⟩ := hC.cell_ hcs
          obtain ⟨c0, f0, -, -⟩ := hC.cell_ (get_mid pre l _ HPL.out)
          obtain ⟨c1, f1, l1, -⟩ := hT.cell_ (get_mid pre f _ HPL.out)
          rw [show j + 1 + s = j + (s + 1) by omega] at c2
          have c2' : wr.cell? ⟨gc, j + (s + 1), none⟩ = some (.int .i64 t2) := c2
          have c0' : wr.cell? ⟨gc, j, none⟩ = some (.int .i64 l) := c0
          have c1' : wr.cell? ⟨gc + 1, j, none⟩ = some (.int .i64 f) := c1
          obtain ⟨b, o, x, rfl, -, -, -⟩ := hS0.at_ (k := j) (by omega)
          have hsub := ((hS0.below hb).drop (k := j) (by omega)).take (k := s + 1) (by omega)
          rw [if_neg (by omega)] at hsub
          simp only [Option.map_some, Addr.add_lit] at hsub
          have htn := tripN_nn ((xs.drop j).take (s + 1))
          have ct := fun os d => tripTime_c _ _ _ _ (plus wr os d) gc (hsub.plus (by omega) os d) (by simp; omega)
          rw [tripF_ok (tripOk_take (tripOk_drop hok.out j) (s + 1))] at ct
          obtain ⟨T, hTT⟩ : ∃ T, tripN ((xs.drop j).take (s + 1)) = T := ⟨_, rfl⟩
          rw [hTT] at htn ct
          rw [ht2, hTT] at hyes hno
          have CT := Lib.hid ct
          rw [ht2] at hbd
          have u1 : IntKind.i64.wrap ((j : Int) + ((s : Int) + 1)) = (j : Int) + ((s : Int) + 1) := IntWalk.i64_in _ (by omega)
          have u2 : ((j : Int) + ((s : Int) + 1)).toNat = j + (s + 1) := by omega
          have u3 : IntKind.i64.wrap (T + t2) = T + t2 := IntWalk.i64_in _ (by omega)
          have u4 : (0 : Int) ≤ (j : Int) + ((s : Int) + 1) := by omega
          have u5 : (j : Int) + ((s : Int) + 1) ≤ (cc : Int) := by omega
          have u6 : (j : Int) ≤ (j : Int) + ((s : Int) + 1) := by omega
          have u7 : (j : Int) + ((s : Int) + 1) < ((n : Int) + 1) := by omega
          have u8 : j + (s + 1) - j = s + 1 := by omega
          have HYES := Lib.hid hyes
          have HNO := Lib.hid hno
          have HT2 := Lib.hid ht2
          clear ct hTT hsub hcs htl htl0 hyes hno ht2 c0 c1 c2 hld
          go_wp2_with fail
          refine wp_region_plus (by kernel_rfl) (by kernel_rfl) ?_; (repeat (go_big_quiet_step ((go_at_call 13; exact quiet_plus (CT.out _ _))))); refine wpQuiet_nil ?_; intro _ hw'; obtain ⟨⟨osq, dq⟩, hw''⟩ := hw'; subst hw''
          by_cases hup : f = 0 ∨ T + t2 < l
          · have hn : Hid (((s + 1 : Nat) : Int) = (bAt (xs.drop j) tl (s + 1)).1 ∧ T + t2 = (bAt (xs.drop j) tl (s + 1)).2) := Lib.hid (by
              obtain ⟨hf, hl⟩ := hfl.out
              rw [hf, hl] at hup
              rw [HYES.out hup]
              exact ⟨rfl, rfl⟩)
            have hT2 := hT.set (j := j) (x := ((s + 1 : Nat) : Int)) (by omega)
            rw [set_mid pre f ((s + 1 : Nat) : Int) _ HPL.out] at hT2
            have hC2 := ((hC.other (g2 := gc + 1) (j := j) (by omega) (.int .i64 ((s + 1 : Nat) : Int))).set (j := j) (x := T + t2) (by omega)).plus osq dq
            rw [set_mid pre l (T + t2) _ HPL.out] at hC2
            have hT3 := (hT2.other (g2 := gc) (j := j) (by omega) (.int .i64 (T + t2))).plus osq dq
            clear hC hT hT2 u1 u2 u3 u4 u5 u6 u7 u8 hbA hbF CT hfl
            by_cases hf0 : f = 0
            all_goals
              first
              | (have hf1 : (f == 0) = true := by simpa using hf0
                 go_wp2_with fail
                 go_roundw
                 case rel => exact ⟨s + 1, _, _, by omega, by go_num, by rw [HTL.out]; exact hn, by (repeat' (first | (with_reducible exact Below.refl _ _) | (with_reducible assumption) | (with_reducible refine Below.alloc ?_ ?_ _) | (with_reducible refine below_plus ?_ ?_ _ _) | (with_reducible refine Below.drew ?_) | (with_reducible refine Below.setCell ?_ ?_ _) | (with_reducible refine below_adv ?_ ?_ _) | go_size | (simp; done) | (simp; omega))), by rw [HTL.out]; simpa [go_sem] using hC2, by rw [HTL.out]; simpa [go_sem] using hT3⟩
                 case measure => simp [intOf]; omega)
              | (have hf1 : (f == 0) = false := by simpa using hf0
                 have hlt2 : T + t2 < l := by omega
                 go_wp2_with fail
                 go_roundw
                 case rel => exact ⟨s + 1, _, _, by omega, by go_num, by rw [HTL.out]; exact hn, by (repeat' (first | (with_reducible exact Below.refl _ _) | (with_reducible assumption) | (with_reducible refine Below.alloc ?_ ?_ _) | (with_reducible refine below_plus ?_ ?_ _ _) | (with_reducible refine Below.drew ?_) | (with_reducible refine Below.setCell ?_ ?_ _) | (with_reducible refine below_adv ?_ ?_ _) | go_size | (simp; done) | (simp; omega))), by rw [HTL.out]; simpa [go_sem] using hC2, by rw [HTL.out]; simpa [go_sem] using hT3⟩
                 case measure => simp [intOf]; omega)
          · have hn : Hid (f = (bAt (xs.drop j) tl (s + 1)).1 ∧ l = (bAt (xs.drop j) tl (s + 1)).2) := Lib.hid (by
              obtain ⟨hf, hl⟩ := hfl.out
              rw [hf, hl] at hup
              rw [HNO.out hup]
              exact ⟨hf, hl⟩)
            have hC3 := hC.plus osq dq
            have hT3 := hT.plus osq dq
            have v1 : (f == 0) = false := by simp; omega
            have v2 : ¬ T + t2 < l := by omega
            clear hC hT u1 u2 u3 u4 u5 u6 u7 u8 hbA hbF CT hfl hup
            go_wp2_with fail
            go_roundw
            case rel => exact ⟨s + 1, _, _, by omega, by go_num, by rw [HTL.out]; exact hn, by (repeat' (first | (with_reducible exact Below.refl _ _) | (with_reducible assumption) | (with_reducible refine Below.alloc ?_ ?_ _) | (with_reducible refine below_plus ?_ ?_ _ _) | (with_reducible refine Below.drew ?_) | (with_reducible refine Below.setCell ?_ ?_ _) | (with_reducible refine below_adv ?_ ?_ _) | go_size | (simp; done) | (simp; omega))), by rw [HTL.out]; exact hC3, by rw [HTL.out]; exact hT3⟩
            case measure => simp [intOf]; omega
        · have hM : Hid (pre ++ l :: (tabT room (xs.drop (j + 1))).map (·.2) = List.replicate j 0 ++ (tabT room (xs.drop j)).map (·.2) ∧ pre ++ f :: (tabT room (xs.drop (j + 1))).map (·.1) = List.replicate j 0 ++ (tabT room (xs.drop j)).map (·.1)) := Lib.hid (by
            obtain ⟨hf, hl⟩ := hfl.out
            have e : min room (xs.length - j) = s := by rw [HL.out]; omega
            rw [tabT_step room xs (i := j) (by rw [HL.out]; omega), e, HPRE.out]
            simp [hf, hl])
          by_cases h3 : s < room
          · have h4 : ¬ (j : Int) + ((s : Int) + 1) ≤ (n : Int) := by omega
            clear h1
            go_wp2_with fail
            go_roundw
            case rel => exact ⟨j, _, by omega, by go_num, rfl, hb, by rw [← hM.out.1]; exact hC, by rw [← hM.out.2]; exact hT⟩
            case measure => simp [intOf]
          · clear h1
            go_wp2_with fail
            go_roundw
            case rel => exact ⟨j, _, by omega, by go_num, rfl, hb, by rw [← hM.out.1]; exact hC, by rw [← hM.out.2]; exact hT⟩
            case measure => simp [intOf]
    · obtain rfl : j = 0 := by omega
      obtain rfl : i' = -1 := by omega
      rw [List.drop_zero, List.replicate_zero, List.nil_append] at hC hT
      clear hi' hjn hj
      obtain ⟨wo, rfl⟩ : ∃ wo : World, wo = wr := ⟨_, rfl⟩
      go_wp2_with fail
      go_loopw [13, 14] (fun v i wr => ∃ (p k : Nat) (ys : List Int), p ≤ n ∧ k ≤ p ∧ i = .int .i64 p ∧ Below wo.heap.size wo wr ∧ wr.ownsRow wo.heap.size 3 1 v k (ys.map ILit) ∧ Hid (ys ++ bestSizes room (xs.drop p) = bestSizes room xs)) (fun _ i _ => n - (intOf i).toNat)
      case atStart => exact ⟨0, 0, [], by omega, by omega, rfl, by (repeat' (first | (with_reducible exact Below.refl _ _) | (with_reducible assumption) | (with_reducible refine Below.alloc ?_ ?_ _) | (with_reducible refine below_plus ?_ ?_ _ _) | (with_reducible refine Below.drew ?_) | (with_reducible refine Below.setCell ?_ ?_ _) | (with_reducible refine below_adv ?_ ?_ _) | go_size | (simp; done) | (simp; omega))), World.ownsRow_nil _ _ _ _, Lib.hid rfl⟩
      case round =>
        obtain ⟨p, k, ys, hp, hkp, rfl, hb2, hB, hY⟩ := hrel
        have hzr2 := hb2.size
        by_cases hlt : p < n
        · obtain ⟨f, hf1, hf2, hf3, hf4⟩ := tab_first room hr1 xs (p := p) (by rw [HL.out]; exact hlt)
          rw [HL.out] at hf2
          have c7 : wr.cell? ⟨gc + 1, p, none⟩ = some (.int .i64 f) := ((hT.below hb2).cell_ hf3).1
          have HF := Lib.hid hf3
          have HY : Hid ((ys ++ [(f : Int)]) ++ bestSizes room (xs.drop (p + f)) = bestSizes room xs) := Lib.hid (by rw [← hY.out, hf4]; simp)
          clear hf3 hf4 hY
          go_wp2_with (at_builtin; refine wpList_app1 wo wr rfl _ _ 22 rfl 3 i0 (.int .i64 0) 8 Try.underlying22 hi hi0 hi1 hi2 rfl (by decide) wo.heap.size _ k _ (by rfl) hB _ rfl _ (by rfl) rfl (by omega) hb2 hzr2 ?_; intro v8 w8 hO8 hb8 hg8; have c8 : w8.cell? ⟨gc + 1, p, none⟩ = some (.int .i64 f) := ((hT.below hb8).cell_ HF.out).1)
          rw [ints_snoc] at hO8
          go_roundw
          case rel => exact ⟨p + f, k + 1, _, by omega, by omega, by go_num, hb8, hO8, HY⟩
          case measure => simp [intOf]; omega
        · obtain rfl : p = n := by omega
          have hY2 := hY.out
          rw [List.drop_of_length_le (by rw [HL.out]; exact Nat.le_refl _), bestSizes_nil, List.append_nil] at hY2
          subst hY2
          obtain ⟨A9, c9, rfl, hW9⟩ := Ow.of_own hB
          have c7 : wr.cell? ⟨gc, 0, none⟩ = some (.int .i64 (bestTime room xs)) := ((hC.below hb2).cell_ (tab_time room xs)).1
          have l7 : gc < wr.heap.size := ((hC.below hb2).cell_ (tab_time room xs)).2.2.1
          have hbz : Below w.heap.size w wr := (hb03.trans (hb.mono (by omega))).trans (hb2.mono (by omega))
          have hfin := hW9.mono (b' := w.heap.size) (by omega)
          clear hB hY hW9
          go_wp2_with fail
          refine wp_region_plus (by kernel_rfl) (by kernel_rfl) ?_; (repeat (go_big_quiet_step (fail))); refine wpQuiet_nil ?_; intro _ hw'; obtain ⟨⟨osq, dq⟩, hw''⟩ := hw'; subst hw''
          go_wp2_with fail
          go_ret2
          rw [HXS.out]
          exact ⟨_, _, _, rfl, hfin.plus _ _, below_plus hbz (by omega) _ _⟩

theorem bestTrips_c (A : Option Addr) (n c : Nat) (zs : List Int) (room : Int) (w : World) (B : Nat) (hS : Sl w B ILit A n c zs) (hB : B ≤ w.heap.size) :
    Calls Try.prog 20 #[.slice A n c, .int .i64 room] w (OwTwo w (bestL zs room) (bestN zs room)) := by
  cases hk : bestOk zs room
  · have e1 : bestL zs room = [] := by simp [bestL, hk]
    have e2 : bestN zs room = -1 := by simp [bestN, hk]
    rw [e1, e2]
    have cv := validTrip_c A n c zs w B hS hB
    have cw := fun w => within_c room 1 5 w
    cases h1 : tripOk zs
    · rw [h1] at cv
      have CV := Lib.hid cv
      clear cv cw e1 e2 hk h1 hS
      go_enter Try.func20, Try.ntmps20
      go_wp2_with fail
      refine CV.out.mono ?_
      rintro e w1 ⟨rfl, hb1⟩
      go_wp2_with fail
      go_ret2
      exact ⟨_, _, _, rfl, Ow.nil _ _ _ _, hb1⟩
    · have h2 : inB room 1 5 = false := by simpa [bestOk, h1] using hk
      rw [h1] at cv
      rw [h2] at cw
      have CV := Lib.hid cv
      have CW := Lib.hid cw
      clear cv cw e1 e2 hk h1 h2 hS
      go_enter Try.func20, Try.ntmps20
      go_wp2_with fail
      refine CV.out.mono ?_
      rintro e w1 ⟨rfl, hb1⟩
      go_wp2_with fail
      refine (CW.out _).mono ?_
      rintro e w1' ⟨rfl, rfl⟩
      go_wp2_with fail
      go_ret2
      exact ⟨_, _, _, rfl, Ow.nil _ _ _ _, hb1⟩
  · obtain ⟨h1, h2, h3⟩ := bestOk_iff hk
    obtain ⟨room, rfl⟩ := Int.eq_ofNat_of_zero_le (show 0 ≤ room by omega)
    have e1 : bestL zs room = bestSizes room (sortI zs) := by simp [bestL, hk]
    have e2 : bestN zs room = bestTime room (sortI zs) := by simp [bestN, hk]
    rw [e1, e2]
    exact bestTrips_yes A n c zs room w B hS hB h1 (by omega) (by omega)

theorem sBestTrips_c (A : Option Addr) (n c : Nat) (zs : List Int) (room : Int) (w : World) (B : Nat) (hS : Sl w B ILit A n c zs) (hB : B ≤ w.heap.size) :
    Calls Try.prog 19 #[.slice A n c, .int .i64 room] w (OwTwo w (bestL zs room) (bestN zs room)) := by
  have cv := validTrips_c A n c zs w B hS hB
  have cw := fun w => inRange_c room 1 5 w
  cases hk : bestOk zs room
  · have e1 : bestL zs room = [] := by simp [bestL, hk]
    have e2 : bestN zs room = -1 := by simp [bestN, hk]
    rw [e1, e2]
    cases h1 : tripOk zs
    · rw [h1] at cv
      have CV := Lib.hid cv
      clear cv cw e1 e2 hk h1 hS
      go_enter Try.func19, Try.ntmps19
      go_wp2_with fail
      refine CV.out.mono ?_
      rintro e w1 ⟨rfl, hb1⟩
      go_wp2_with fail
      go_ret2
      exact ⟨_, _, _, rfl, Ow.nil _ _ _ _, hb1⟩
    · have h2 : inB room 1 5 = false := by simpa [bestOk, h1] using hk
      rw [h1] at cv
      rw [h2] at cw
      have CV := Lib.hid cv
      have CW := Lib.hid cw
      clear cv cw e1 e2 hk h1 h2 hS
      go_enter Try.func19, Try.ntmps19
      go_wp2_with fail
      refine CV.out.mono ?_
      rintro e w1 ⟨rfl, hb1⟩
      go_wp2_with fail
      refine (CW.out _).mono ?_
      rintro e w1' ⟨rfl, rfl⟩
      go_wp2_with fail
      go_ret2
      exact ⟨_, _, _, rfl, Ow.nil _ _ _ _, hb1⟩
  · obtain ⟨h1, h2, h3⟩ := bestOk_iff hk
    obtain ⟨room, rfl⟩ := Int.eq_ofNat_of_zero_le (show 0 ≤ room by omega)
    have e1 : bestL zs room = bestSizes room (sortI zs) := by simp [bestL, hk]
    have e2 : bestN zs room = bestTime room (sortI zs) := by simp [bestN, hk]
    have hn : n ≤ 12 := by have := (tripOk_all h1).1; have := hS.len; omega
    have hI : inB (room : Int) 1 5 = true := by simp [inB]; omega
    rw [h1] at cv
    rw [hI] at cw
    have CV := Lib.hid cv
    have CW := Lib.hid cw
    have HE := Lib.hid (And.intro e1 e2)
    have hS0 := hS.more hB
    clear cv cw e1 e2 hk h1 hI hS
    go_enter Try.func19, Try.ntmps19
    go_wp2_with fail
    refine CV.out.mono ?_
    rintro e w1 ⟨rfl, hb1⟩
    have hz1 := hb1.size
    go_wp2_with fail
    refine (CW.out _).mono ?_
    rintro e w1' ⟨rfl, rfl⟩
    go_wp2_with fail
    refine (sorted_c A n c zs w1 _ (hS0.below hb1) (by omega) (by omega)).mono ?_
    rintro e w2 ⟨A2, c2, rfl, hW2, hb2⟩
    have hz2 := hb2.size
    go_wp2_with fail
    refine (batches_c A2 n c2 (sortI zs) room w2 _ hW2.sl (Nat.le_refl _) hn (by omega) (by omega)).mono ?_
    rintro e w3 ⟨A3, n3, c3, rfl, hW3, hb3⟩
    have hb03 : Below w.heap.size w w3 := (hb1.trans (hb2.mono hz1)).trans (hb3.mono (by omega))
    have hfin := hW3.mono (b' := w.heap.size) (by omega)
    clear hW2 hb1 hb2 hb3 hW3
    go_wp2_with fail
    go_ret2
    rw [HE.out.1, HE.out.2]
    exact ⟨_, _, _, rfl, hfin, hb03⟩
end Go.Proofs.Ytdggdibfgenadaa
