/- Plans: the program's phases and ValidPlan, the reference's ValidPlan, walked. -/
import Derived.Test.YtckohbjgogbfaaaQa1
import Derived.Test.YtckohbjgogbfaaaPd
import Derived.Test.YtckohbjgogbfaaaBc
import Derived.Test.YtckohbjgogbfaaaPg
set_option linter.unusedVariables false
set_option linter.unusedSimpArgs false
namespace Go.Proofs.Ytckohbjgogbfaaa
open Go.RowKit

theorem below_undrew {w w2 : World} (h : Below w.drew.heap.size w.drew w2) : Below w.heap.size w w2 := ⟨h.os, h.tape, h.output, h.size, h.block⟩

/-- A slice of slices that can be read, no other block changed. -/
def SlRows (w : World) (n : Nat) (xss : List (List Int)) (e : Ending) (w' : World) : Prop :=
  ∃ A c, e = .returned (.slice A n c) ∧ Sl2 w' w'.heap.size ILit A n c xss ∧ Below w.heap.size w w'
theorem fst_take {ss : List (List Int × Int)} {k : Nat} {ph : List Int} {g : Int} (h : ss[k]? = some (ph, g)) : (ss.take (k + 1)).map Prod.fst = (ss.take k).map Prod.fst ++ [ph] := by
  rw [take_snoc h]; simp

set_option maxHeartbeats 4000000 in
theorem phases_c (At : Option Addr) (m ct : Nat) (A : Option Addr) (n c : Nat) (ss : List (List Int × Int)) (w : World) (B : Nat) (hS : SlS w B A n c ss) (hB : B ≤ w.heap.size) (hn : n ≤ 1048576) :
    Calls Try.prog 35 #[.agg #[.slice At m ct, .slice A n c]] w (SlRows w n (ss.map Prod.fst)) := by
  obtain ⟨hc0, hc1⟩ := hS.cap
  obtain ⟨i1, hj, hj0, hj1, hj2⟩ := info_parts info_rowI
  obtain ⟨W2, hW2⟩ : ∃ W2, w.alloc (.cells #[.slice At m ct, .slice A n c] 26) = W2 := ⟨_, rfl⟩
  have hb0 : Below w.heap.size w W2 := by rw [← hW2]; exact (Below.refl _ _).alloc (Nat.le_refl _) _
  have hh : W2.heap[w.heap.size]? = some (.cells #[.slice At m ct, .slice A n c] 26 (0, 0)) := by rw [← hW2]; exact heap_alloc_new w _
  have k1 : W2.cell? ⟨w.heap.size, 1, none⟩ = some (.slice A n c) := by rw [cell_of_row _ _ _ _ _ _ hh]; rfl
  have HLN := Lib.hid hS.len
  have hS0 := ((hS.more hB).below hb0).more hb0.size
  clear hh hS
  go_enter Try.func35, Try.ntmps35
  go_wp2_with fail
  clear hW2
  go_loopw [3, 9] (fun v i wr => ∃ (k : Nat), k ≤ n ∧ i = .int .i64 k ∧ Shr wr W2.heap.size W2.heap.size 29 ILit v k ((ss.take k).map Prod.fst) ∧ Below W2.heap.size W2 wr) (fun _ i _ => n - (intOf i).toNat)
  case atStart => exact ⟨0, by omega, rfl, Shr.nil (World.ownsRow_nil _ _ _ _), Below.refl _ _⟩
  case round =>
    obtain ⟨k, hk, rfl, hSh, hb⟩ := hrel
    have hzr := hb.size
    by_cases hlt : k < n
    · obtain ⟨b, o, ph, g, A1, n1, c1, rfl, hbl, hx, hcell, hcellg, hrow⟩ := hS0.at_ hlt
      have r1 := (hb.cell (p := ⟨b, o + k * 2, none⟩) hbl).trans hcell
      have r2 := (hb.cell (p := ⟨b, o + k * 2 + 1, none⟩) hbl).trans hcellg
      have hb2 : Below wr.heap.size wr (wr.alloc (.cells #[.slice A1 n1 c1, .int .i64 g] 35)) := (Below.refl _ _).alloc (Nat.le_refl _) _
      have hSh2 := hSh.below hb2 hzr
      have hbb := hb.trans (hb2.mono hzr)
      obtain ⟨vs, hv1, hv2⟩ := hSh2
      have HE := Lib.hid (fst_take hx)
      have HR := Lib.hid (hrow.below hbb)
      clear hcell hcellg hx hrow hSh
      go_wp2_with (at_builtin; refine wpList_app1 W2 (wr.alloc (.cells #[.slice A1 n1 c1, .int .i64 g] 35)) rfl _ _ 23 rfl 29 i1 (.slice none 0 0) 24 Try.underlying23 hj hj0 hj1 hj2 rfl (by decide) W2.heap.size _ k _ (by rfl) hv1 _ rfl _ (by rfl) (by simp) (by omega) hbb (by simp; omega) ?_; intro v8 w8 hO8 hb8 hg8)
      have hN := Shr.app hv1 hv2 (Nat.le_refl _) hbb.size (Rsl.one HR.out) hO8 hg8
      rw [← HE.out] at hN
      clear hv1 hv2 hO8 hg8
      go_roundw
      case rel => exact ⟨k + 1, by omega, by go_num, hN, hb8⟩
      case measure => simp [intOf]; omega
    · obtain rfl : k = n := by omega
      rw [List.take_of_length_le (by rw [HLN.out]; exact Nat.le_refl _)] at hSh
      obtain ⟨A5, c5, rfl, hS5⟩ := hSh.sl2 hzr
      clear hSh
      go_wp2_with fail
      go_ret
      exact ⟨_, _, rfl, hS5, hb0.trans (hb.mono hb0.size)⟩

theorem all_fst {t : List (List Int)} {ss : List (List Int × Int)} (h1 : cOk t = true) (h2 : inB ss.length 1 5 = true) (h3 : ss.all (fun s => inB s.2 5 40) = true) : planB t ss = (ss.map Prod.fst).all (fitsB t) := by
  simp only [planB, h1, h2, Bool.true_and, List.all_map]
  rw [Bool.eq_iff_iff]
  simp only [List.all_eq_true, stageB, Bool.and_eq_true, Function.comp] at h3 ⊢
  exact ⟨fun h s hs => (h s hs).1, fun h s hs => ⟨h s hs, h3 s hs⟩⟩
theorem planB_green {t : List (List Int)} {ss : List (List Int × Int)} {k : Nat} {ph : List Int} {g : Int} (hs : ss[k]? = some (ph, g)) (h : inB g 5 40 = false) : planB t ss = false := planB_bad hs (by simp [stageB, h])

set_option maxHeartbeats 4000000 in
theorem validPlan_c (At : Option Addr) (m ct : Nat) (t : List (List Int)) (A : Option Addr) (n c : Nat) (ss : List (List Int × Int)) (w : World) (B : Nat) (hT : Sl2 w B ILit At m ct t) (hS : SlS w B A n c ss) (hB : B ≤ w.heap.size) (hpl : ∀ s ∈ ss, s.1.length ≤ 1099511627776) :
    Calls Try.prog 11 #[.agg #[.slice At m ct, .slice A n c]] w fun e w' => e = .returned (.bool (planB t ss)) ∧ Below w.heap.size w w' := by
  obtain ⟨hc0, hc1⟩ := hS.cap
  obtain ⟨W2, hW2⟩ : ∃ W2, w.alloc (.cells #[.slice At m ct, .slice A n c] 26) = W2 := ⟨_, rfl⟩
  have hb0 : Below w.heap.size w W2 := by rw [← hW2]; exact (Below.refl _ _).alloc (Nat.le_refl _) _
  have hh : W2.heap[w.heap.size]? = some (.cells #[.slice At m ct, .slice A n c] 26 (0, 0)) := by rw [← hW2]; exact heap_alloc_new w _
  have k0 : W2.cell? ⟨w.heap.size, 0, none⟩ = some (.slice At m ct) := by rw [cell_of_row _ _ _ _ _ _ hh]; rfl
  have k1 : W2.cell? ⟨w.heap.size, 1, none⟩ = some (.slice A n c) := by rw [cell_of_row _ _ _ _ _ _ hh]; rfl
  have hzl := lt_of_heap hh
  have hln := hS.len
  have hT0 := ((hT.more hB).below hb0).more hb0.size
  have hS0 := ((hS.more hB).below hb0).more hb0.size
  have cv := validClearance_c At m ct t W2 _ hT0 (Nat.le_refl _)
  cases hok : cOk t
  · have HE := Lib.hid (planB_table (ss := ss) hok)
    rw [hok] at cv
    have CV := Lib.hid cv
    clear cv hok hT hS hT0 hS0 hh hpl
    go_enter Try.func11, Try.ntmps11
    go_wp2_with fail
    clear hW2
    refine CV.out.mono ?_
    rintro e w1 ⟨rfl, hb1⟩
    go_wp2_with fail
    go_ret
    exact ⟨by rw [HE.out]; rfl, hb0.trans (hb1.mono hb0.size)⟩
  · rw [hok] at cv
    have CV := Lib.hid cv
    have HOK := Lib.hid hok
    cases hin5 : inB (n : Int) 1 5
    · have HE : Hid (planB t ss = false) := Lib.hid (planB_len (by rw [hln]; exact hin5))
      have CW := Lib.hid (fun w' => by have := within_c (n : Int) 1 5 w'; rw [hin5] at this; exact this)
      clear cv hok hT hS hT0 hS0 hh hpl hin5
      go_enter Try.func11, Try.ntmps11
      go_wp2_with fail
      clear hW2
      refine CV.out.mono ?_
      rintro e w1 ⟨rfl, hb1⟩
      have k11 := (hb1.cell (p := ⟨w.heap.size, 1, none⟩) hzl).trans k1
      go_wp2_with fail
      refine (CW.out w1).mono ?_
      rintro e w2 ⟨rfl, rfl⟩
      go_wp2_with fail
      go_ret
      exact ⟨by rw [HE.out]; rfl, hb0.trans (hb1.mono hb0.size)⟩
    · have CW := Lib.hid (fun w' => by have := within_c (n : Int) 1 5 w'; rw [hin5] at this; exact this)
      have hn5 : n ≤ 5 := by have := inB_iff hin5; omega
      have HI5 := Lib.hid hin5
      have HPL := Lib.hid hpl
      have HLN := Lib.hid hln
      clear cv hok hT hS hh hpl hin5 hln
      go_enter Try.func11, Try.ntmps11
      go_wp2_with fail
      clear hW2
      refine CV.out.mono ?_
      rintro e w1 ⟨rfl, hb1⟩
      have hz1 := hb1.size
      have k11 := (hb1.cell (p := ⟨w.heap.size, 1, none⟩) hzl).trans k1
      go_wp2_with fail
      refine (CW.out w1).mono ?_
      rintro e w2 ⟨rfl, rfl⟩
      go_wp2_with fail
      go_loopw [19] (fun i wr => ∃ (k : Nat), k ≤ n ∧ i = .int .i64 k ∧ Hid ((ss.take k).all (fun s => inB s.2 5 40) = true) ∧ Below W2.heap.size W2 wr) (fun i _ => n - (intOf i).toNat)
      case atStart => exact ⟨0, by omega, rfl, Lib.hid (by simp), hb1⟩
      case round =>
        clear hb1 hz1 k11
        obtain ⟨k, hk, rfl, hall, hb⟩ := hrel
        have hzr := hb.size
        have k10 := (hb.cell (p := ⟨w.heap.size, 0, none⟩) hzl).trans k0
        have k11 := (hb.cell (p := ⟨w.heap.size, 1, none⟩) hzl).trans k1
        have hbw := hb0.trans (hb.mono hb0.size)
        by_cases hlt : k < n
        · obtain ⟨b, o, ph, g, A1, n1, c1, rfl, hbl, hx, hcell, hcellg, hrow⟩ := hS0.at_ hlt
          have r1 := (hb.cell (p := ⟨b, o + k * 2, none⟩) hbl).trans hcell
          have r2 := (hb.cell (p := ⟨b, o + k * 2 + 1, none⟩) hbl).trans hcellg
          have hts : (ss.take (k + 1)).all (fun s => inB s.2 5 40) = inB g 5 40 := by rw [take_snoc hx, List.all_append, hall.out]; simp
          have hb2 : Below wr.heap.size wr (wr.alloc (.cells #[.slice A1 n1 c1, .int .i64 g] 35)) := (Below.refl _ _).alloc (Nat.le_refl _) _
          have cr := within_c g 5 40 (wr.alloc (.cells #[.slice A1 n1 c1, .int .i64 g] 35))
          cases hg : inB g 5 40
          · rw [hg] at cr
            have CR := Lib.hid cr
            have HE := Lib.hid (planB_green (t := t) hx hg)
            clear cr hx hrow hts hg hcell hcellg
            go_wp2_with fail
            refine CR.out.mono ?_
            rintro e w3 ⟨rfl, rfl⟩
            go_wp2_with fail
            go_ret
            exact ⟨by rw [HE.out]; rfl, hbw.trans (hb2.mono hbw.size)⟩
          · rw [hg] at cr
            have CR := Lib.hid cr
            have HE := Lib.hid (hts.trans hg)
            clear cr hx hrow hts hg hcell hcellg
            go_wp2_with fail
            refine CR.out.mono ?_
            rintro e w3 ⟨rfl, rfl⟩
            go_wp2_with fail
            go_roundw
            case rel => exact ⟨k + 1, by omega, by go_num, HE, hb.trans (hb2.mono hzr)⟩
            case measure => simp [intOf]; omega
        · obtain rfl : k = n := by omega
          have hE := hall.out
          rw [List.take_of_length_le (by rw [HLN.out]; exact Nat.le_refl _)] at hE
          obtain ⟨Z, hZ⟩ : ∃ Z, (ss.map Prod.fst).all (fitsB t) = Z := ⟨_, rfl⟩
          have HE := Lib.hid ((all_fst HOK.out (by rw [HLN.out]; exact HI5.out) hE).trans hZ)
          have HZ := Lib.hid hZ
          have hT1 := (hT0.below hb).more hzr
          have hS1 := (hS0.below hb).more hzr
          have hfl : ∀ p ∈ ss.map Prod.fst, p.length ≤ 1099511627776 := fun p hp => by
            obtain ⟨s, hs, rfl⟩ := List.mem_map.1 hp
            exact HPL.out s hs
          have HFL := Lib.hid hfl
          have CP := Lib.hid (phases_c At m ct A k c ss wr.drew wr.heap.size hS1 (Nat.le_refl _) (by omega))
          have HT1 := Lib.hid hT1
          have HB := Lib.hid hb
          clear hE hfl hS1 hT1 hall hb hZ
          go_wp2_with fail
          go_region_held3 (fun w' => w'.cell? ⟨w.heap.size, 0, none⟩ = some (.slice At m ct) ∧ w'.cell? ⟨w.heap.size, 1, none⟩ = some (.slice A k c)) (first | go_keep | (exact ⟨s0, s1⟩) | (exact ⟨s20, s21⟩))
            (first | (go_at_call 35; refine CP.out.mono ?_; rintro e w4 ⟨A4, c4, rfl, hS4, hb4⟩; have hb14 := below_undrew hb4; have hz4 := hb14.size; have s0 := (hb14.cell (p := ⟨w.heap.size, 0, none⟩) (show w.heap.size < wr.heap.size by omega)).trans k10; have s1 := (hb14.cell (p := ⟨w.heap.size, 1, none⟩) (show w.heap.size < wr.heap.size by omega)).trans k11; have c5' := validPhases_c At m ct t A4 k c4 _ w4 _ ((HT1.out.below hb14).more hz4) hS4 (Nat.le_refl _) HFL.out; rw [HZ.out] at c5'; have C5 := Lib.hid c5'; clear c5') | (go_at_call 34; refine C5.out.mono ?_; rintro e w5 ⟨rfl, hb5⟩; have hb15 := hb14.trans (hb5.mono hz4); have s20 := (hb15.cell (p := ⟨w.heap.size, 0, none⟩) (show w.heap.size < wr.heap.size by omega)).trans k10; have s21 := (hb15.cell (p := ⟨w.heap.size, 1, none⟩) (show w.heap.size < wr.heap.size by omega)).trans k11) | fail)
          all_goals
            clear hS4 hb4 hb14
            go_wp2_with fail
            go_ret
            exact ⟨by rw [HE.out]; rfl, hbw.trans (hb15.mono hbw.size)⟩
end Go.Proofs.Ytckohbjgogbfaaa
