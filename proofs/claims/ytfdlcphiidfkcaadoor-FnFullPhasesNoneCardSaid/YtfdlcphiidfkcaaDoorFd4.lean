/- The law FullPhasesNone. -/
import Derived.Test.YtfdlcphiidfkcaaDoorFd1
import Derived.Test.YtfdlcphiidfkcaaDoorFd2
import Derived.Test.YtfdlcphiidfkcaaDoorFc3
import Derived.Test.YtfdlcphiidfkcaaDoorPg
import Derived.Test.YtfdlcphiidfkcaaDoorBb
set_option linter.unusedVariables false
set_option linter.unusedSimpArgs false
namespace Go.Proofs.YtfdlcphiidfkcaaDoor
open Go.RowKit

theorem info_rowB2 : (Tryd.prog.info? 29).map (fun i => (i.zero, i.size, i.bytes)) = some (some (.slice none 0 0), 1, 24) := by kernel_rfl
theorem made_repB2 (m : Nat) : madeCells #[.bool false] m = ((List.replicate m false).map OLit).toArray := by
  have h1 := part_zero OLit (.bool false) (List.replicate m false)
  rw [List.length_replicate] at h1
  rw [← h1]
  simp [part, OLit]
/-- Rows of different types lie in different blocks. -/
theorem own_apart {w : World} {b1 b2 e1 e2 n1 n2 : Nat} {v1 v2 : Value} {xs1 xs2 : List Value} (h1 : w.ownsRow b1 e1 1 v1 n1 xs1) (h2 : w.ownsRow b2 e2 1 v2 n2 xs2) (hne : e1 ≠ e2) : v1.ownBlock = none ∨ v1.ownBlock ≠ v2.ownBlock := by
  rcases h1.2 with ⟨rfl, -⟩ | ⟨g, cap, cur, rfl, -, hh, -⟩
  · exact .inl rfl
  · right
    rcases h2.2 with ⟨rfl, -⟩ | ⟨g2, cap2, cur2, rfl, -, hh2, -⟩
    · simp [Value.ownBlock]
    · simp only [Value.ownBlock, ne_eq, Option.some.injEq]
      intro e
      subst e
      rw [hh] at hh2
      injection hh2 with hh2
      injection hh2 with _ hh2
      exact hne hh2
theorem Bld.apart {α : Type} {w w' : World} {lo E2 E k b e n : Nat} {f : α → Value} {v u : Value} {xss : List (List α)} {us : List Value} (h : Bld w lo E2 E f v k xss) (hu : w.ownsRow b e 1 u n us) (h1 : E2 ≠ e) (h2 : E ≠ e) (hg : w.grownBy w' u.ownBlock) : Bld w' lo E2 E f v k xss := by
  obtain ⟨vs, k1, k2, k3⟩ := h
  refine ⟨vs, k1.kept hg (own_apart k1 hu h1), Rws.more (hi := w.heap.size) ?_ hg.size, k3⟩
  refine ⟨k2.1, fun j v xs hv hx => ?_, k2.2.2⟩
  obtain ⟨A1, n1, c1, rfl, o1, b1⟩ := k2.2.1 j v xs hv hx
  refine ⟨A1, n1, c1, rfl, ⟨o1.1, o1.2.1, o1.2.2.1, fun h0 => ?_⟩, b1⟩
  obtain ⟨g, cs, hA, hb, hh, hc⟩ := o1.2.2.2 h0
  refine ⟨g, cs, hA, hb, (hg.block g (lt_of_heap hh) fun e2 => ?_).trans hh, hc⟩
  rcases hu.2 with ⟨rfl, -⟩ | ⟨g2, cap2, cur2, rfl, -, hh2, -⟩
  · simp [Value.ownBlock] at e2
  · simp only [Value.ownBlock, Option.some.injEq] at e2
    subst e2
    rw [hh] at hh2
    injection hh2 with hh2
    injection hh2 with _ hh2
    exact h2 hh2

set_option maxRecDepth 4000 in
set_option maxHeartbeats 8000000 in
theorem fullPhasesNoneLaw_walk (A : Option Addr) (n c : Nat) (bs : List Int) (w : World) (hS : Sl w w.heap.size BLit A n c bs) (hbs : ∀ x ∈ bs, 0 ≤ x ∧ x ≤ 255) (hTab : TabB w) :
    Calls Tryd.prog 6 #[.slice A n c] w fun e w' => e = .returned (.bool true) ∧ Below w.heap.size w w' := by
  obtain ⟨hc0, hc1⟩ := hS.cap
  by_cases hn : 1048576 < n
  · go_enter Tryd.func6, Tryd.ntmps6
    go_wp2
    go_ret
    exact ⟨rfl, by (repeat' (first | (with_reducible exact Below.refl _ _) | (with_reducible assumption) | (with_reducible refine Below.alloc ?_ ?_ _) | (with_reducible refine below_plus ?_ ?_ _ _) | (with_reducible refine Below.drew ?_) | (with_reducible refine Below.setCell ?_ ?_ _) | (with_reducible refine below_adv ?_ ?_ _) | go_size | (simp; done) | (simp; omega)))⟩
  · go_enter Tryd.func6, Tryd.ntmps6
    go_wp2_with fail
    refine (drawFullPhases_c A n c bs w _ hS (Nat.le_refl _) hbs).mono ?_
    rintro e w1 ⟨At, m, ct, t, rfl, hT1, hm8, hb1⟩
    have hz1 := hb1.size
    have htl := hT1.len
    obtain ⟨hct0, hct1⟩ := hT1.cap
    have HT := Lib.hid hT1
    have HTB := Lib.hid (hTab.below hb1)
    have CI := Lib.hid (fun w' (hw : Below w1.heap.size w1 w') => fullPhases_c At m ct t w' _ (HT.out.below hw) hw.size (HTB.out.below hw))
    have CS := Lib.hid (fun w' (hw : Below w1.heap.size w1 w') => sFullPhases_c At m ct t w' _ (HT.out.below hw) hw.size)
    have HB1 := Lib.hid hb1
    obtain ⟨L, hL⟩ : ∃ L, fullL t = L := ⟨_, rfl⟩
    rw [hL] at CI CS
    clear hS hbs hT1 hb1 hTab
    go_wp2_with fail
    refine (CI.out w1 (Below.refl _ _)).mono ?_
    rintro e w2 ⟨A4, n4, c4, rfl, hO4, hb2⟩
    have hz2 := hb2.size
    have hl4 := hO4.len
    obtain ⟨hk0, hk1⟩ := hO4.cap
    have HL := Lib.hid hO4.sl2
    have HB2 := Lib.hid hb2
    have EQ := Lib.hid (fun w' (hb : Below w2.heap.size w2 w') A3 n3 c3 (h3 : Sl2 w' w'.heap.size ILit A3 n3 c3 L) => by
      have := equalLists_c A4 n4 c4 L A3 n3 c3 L w' _ _ (HL.out.below hb) hb.size h3 (Nat.le_refl _)
      rwa [eqL_true rfl] at this)
    have CS2 := Lib.hid (fun w' (hb : Below w2.heap.size w2 w') => CS.out w' (hb2.trans (hb.mono hz2)))
    clear hO4 hb2
    go_wp2_with fail
    refine (CS2.out w2 (Below.refl _ _)).mono ?_
    rintro e w3 ⟨A3, n3, c3, rfl, hO3, hb3⟩
    have hz3 := hb3.size
    have E3 := Lib.hid (EQ.out w3 hb3 A3 n3 c3 hO3.sl2)
    clear hO3
    go_wp2_with fail
    refine E3.out.mono ?_
    rintro e w4 ⟨rfl, hb4⟩
    have hb24 := hb3.trans (hb4.mono hz3)
    have hz24 := hb24.size
    clear hb3 hb4 E3
    by_cases h0 : n4 = 0
    · subst h0
      go_wp2_with fail
      refine (CS2.out w4 hb24).mono ?_
      rintro e w5 ⟨A5, n5, c5, rfl, hO5, hb5⟩
      have hb25 := hb24.trans (hb5.mono hz24)
      have E5 := Lib.hid (EQ.out w5 hb25 A5 n5 c5 hO5.sl2)
      clear hO5
      go_wp2_with fail
      refine E5.out.mono ?_
      rintro e w6 ⟨rfl, hb6⟩
      go_wp2_with fail
      go_ret
      exact ⟨rfl, HB1.out.trans ((HB2.out.trans ((hb25.trans (hb6.mono hb25.size)).mono hz2)).mono HB1.out.size)⟩
    have ht : tOk t = true := fullL_ok (by rw [hL, hl4]; omega)
    have hn0 : ((n4 : Int) == 0) = false := by simp; omega
    have hn00 : ¬ n4 = 0 := h0
    obtain ⟨hk1, hk8, -, -⟩ := tOk_iff.1 ht
    rw [htl] at hk1 hk8
    obtain ⟨i1, hj, hj0, hj1, hj2⟩ := info_parts info_rowB2
    obtain ⟨j1, hq, hq0, hq1, hq2⟩ := info_parts info_int
    have hmr := run_make_row' (P := Tryd.prog) 29 4 (.bool false) 1 Tryd.underlying29 info_bool rfl .i64 .i64 m (by omega) (by omega)
    rw [made_repB2] at hmr
    obtain ⟨cs, hcs⟩ : ∃ cs, ((List.replicate m false).map OLit).toArray = cs := ⟨_, rfl⟩
    rw [hcs] at hmr
    have HCS := Lib.hid hcs
    have HFN := Lib.hid (full_none hk1 hk8)
    have HTB4 := Lib.hid ((HTB.out.below HB2.out).below hb24)
    have HFIN := Lib.hid (HB1.out.trans ((HB2.out.trans (hb24.mono hz2)).mono HB1.out.size))
    clear hL ht htl hl4 CI CS CS2 EQ HT HL HTB HB2 HB1 hcs hb24
    go_wp2_with fail
    have hb0 : Below w4.heap.size w4 ((w4.alloc (.cells #[] 29)).alloc (.cells #[] 3)) := ((Below.refl _ _).alloc (Nat.le_refl _) _).alloc (by simp) _
    go_loopw [5, 6, 7] (fun f a i wr => ∃ (k : Nat), k ≤ m ∧ i = .int .i64 k ∧ Bld wr w4.heap.size 29 4 OLit f k (List.replicate k (List.replicate m false)) ∧ wr.ownsRow w4.heap.size 3 1 a k (((List.range k).map fun (j : Nat) => (j : Int)).map ILit) ∧ Below w4.heap.size w4 wr) (fun _ _ i _ => m - (intOf i).toNat)
    case atStart =>
      have h1 : (w4.alloc (.cells #[] 29)).ownsRow w4.heap.size 29 1 (.slice (some ⟨w4.heap.size, 0, none⟩) 0 0) 0 [] := World.ownsRow_made _ #[] 0 (Nat.le_refl _) (by decide) rfl
      refine ⟨0, by omega, rfl, Bld.nil _ _ _ _ _ _ (own_below h1 ((Below.refl _ _).alloc (Nat.le_refl _) _)), ?_, hb0⟩
      have h2 : ((w4.alloc (.cells #[] 29)).alloc (.cells #[] 3)).ownsRow w4.heap.size 3 1 (.slice (some ⟨(w4.alloc (.cells #[] 29)).heap.size, 0, none⟩) 0 0) 0 [] := World.ownsRow_made _ #[] 0 (by simp) (by decide) rfl
      simpa using h2
    case round =>
      clear hb0
      obtain ⟨k, hk, rfl, hBl, hO, hb⟩ := hrel
      have hzr := hb.size
      by_cases hkm : k < m
      · obtain ⟨vs, hv1, hv2, hv3⟩ := hBl
        have hv0 := fun b hb => (hv1.lt b hb).2
        have hb2 : Below wr.heap.size wr (wr.alloc (.cells cs 4)) := (Below.refl _ _).alloc (Nat.le_refl _) _
        have hown2 := own_below hv1 hb2
        have hO2 := own_below hO hb2
        have hR2 := hv2.below (Nat.le_refl _) hb2
        have hbb := hb.trans (hb2.mono hzr)
        have hW5 := Ow.new wr OLit (List.replicate m false) 4 (by simp; omega)
        rw [HCS.out, List.length_replicate] at hW5
        have HW := Lib.hid hW5
        have HV0 := Lib.hid hv0
        have HNE := Lib.hid (own_apart hO2 hown2 (by decide))
        clear hv1 hv2 hb2 hW5 hv0 hO
        go_wp2_with (at_builtin; first | (refine wpList_app1_at w4 (wr.alloc (.cells cs 4)) rfl _ _ 23 rfl 29 i1 (.slice none 0 0) 24 Tryd.underlying23 hj hj0 hj1 hj2 rfl (by decide) w4.heap.size _ k _ (by rfl) hown2 _ rfl _ (by rfl) (by simp) (by omega) hbb (by simp; omega) ?_; intro v8 w8 hO8 hb8 hg8 hv8; have hN := Bld.app (f := OLit) (E := 4) hown2 hR2 hv3 HV0.out (by simp) hzr HW.out (fun b hb => by simp [Value.ownBlock] at hb; subst hb; simp) hO8 hg8 hv8; rw [← List.replicate_succ'] at hN; have hO3 := hO2.kept hg8 HNE.out; have hz8 := hb8.size) | (refine wpList_app1_at w4 w8 rfl _ _ 28 rfl 3 j1 (.int .i64 0) 8 Tryd.underlying28 hq hq0 hq1 hq2 rfl (by decide) w4.heap.size _ k _ (by rfl) hO3 _ rfl _ (by rfl) rfl (by omega) hb8 hz8 ?_; intro v9 w9 hO9 hb9 hg9 hv9))
        have hN9 := hN.apart hO3 (by decide) (by decide) hg9
        have hsn : ((List.range k).map fun (j : Nat) => (j : Int)).map ILit ++ [.int .i64 (k : Int)] = ((List.range (k + 1)).map fun (j : Nat) => (j : Int)).map ILit := by rw [List.range_succ]; simp [ILit]
        rw [hsn] at hO9
        clear hN hO3 hb8 hg9 hv9 hsn hv3 hown2 hR2 hO8 hg8 hv8 HV0 HW hO2 HNE hbb
        go_roundw
        case rel => exact ⟨k + 1, by omega, by go_num, hN9, hO9, hb9⟩
        case measure => simp [intOf]; omega
      · obtain rfl : k = m := by omega
        obtain ⟨A5, c5, rfl, hO5⟩ := hBl.ow2
        obtain ⟨A6, c6, rfl, hW6⟩ := Ow.of_own hO
        have CF := Lib.hid (fullPhases_c A5 k c5 _ wr _ hO5.sl2 (Nat.le_refl _) (HTB4.out.below hb))
        rw [HFN.out] at CF
        have HW6 := Lib.hid hW6
        clear hO5 hBl hO hW6
        go_wp2_with fail
        refine CF.out.mono ?_
        rintro e w5 ⟨A7, n7, c7, rfl, hO7, hb7⟩
        have hz7 := hb7.size
        have h6 := (HW6.out.below hb7).sl
        have hs2 : Sl2 (w5.alloc (.cells #[.slice A6 k c6] 28)) (w5.heap.size + 1) ILit (some ⟨w5.heap.size, 0, none⟩) 1 1 [(List.range k).map fun (j : Nat) => (j : Int)] := by
          have h1 := Sl.new w5 id [Value.slice A6 k c6] 28 (by simp)
          exact Sl2.of_vals (by simpa using h1) ((Rsl.one (h6.alloc (Nat.le_refl _) _)).more (by omega))
        have hb8 : Below w5.heap.size w5 (w5.alloc (.cells #[.slice A6 k c6] 28)) := (Below.refl _ _).alloc (Nat.le_refl _) _
        have EF := Lib.hid (by
          have := equalLists_c A7 n7 c7 [(List.range k).map fun (j : Nat) => (j : Int)] (some ⟨w5.heap.size, 0, none⟩) 1 1 [(List.range k).map fun (j : Nat) => (j : Int)] (w5.alloc (.cells #[.slice A6 k c6] 28)) _ _ (hO7.sl2.below hb8) hb8.size hs2 (by simp)
          rwa [eqL_true rfl] at this)
        clear hs2 h6 hO7
        go_wp2_with fail
        refine EF.out.mono ?_
        rintro e w6 ⟨rfl, hb6⟩
        have hbz := hb7.trans ((hb8.trans (hb6.mono (by simp))).mono hz7)
        have hbf := HFIN.out.trans ((hb.trans (hbz.mono hzr)).mono HFIN.out.size)
        clear hbz hb6 hb8 hb7 EF
        go_wp2_with fail
        go_ret
        exact ⟨rfl, hbf⟩
end Go.Proofs.YtfdlcphiidfkcaaDoor
