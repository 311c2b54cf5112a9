/- The reference's batches. -/
import Derived.Test.YtdggdibfgenadaaBt2
set_option linter.unusedVariables false
set_option linter.unusedSimpArgs false
namespace Go.Proofs.Ytdggdibfgenadaa
open Go.RowKit

theorem made_rep (m : Nat) : madeCells #[.int .i64 0] m = ((List.replicate m (0 : Int)).map ILit).toArray := by
  have h1 := part_zero ILit (.int .i64 0) (List.replicate m (0 : Int))
  rw [List.length_replicate] at h1
  rw [← h1]
  simp [part, ILit]
theorem set_mid {α : Type} (pre : List α) (y x : α) (L : List α) {j : Nat} (h : pre.length = j) : (pre ++ y :: L).set j x = pre ++ x :: L := by
  subst h
  simp [List.set_append_right]
theorem get_mid {α : Type} (pre : List α) (y : α) (L : List α) {j : Nat} (h : pre.length = j) : (pre ++ y :: L)[j]? = some y := by
  subst h
  simp
theorem get_past {α : Type} (pre : List α) (y : α) (L : List α) {j : Nat} (h : pre.length = j) (s : Nat) : (pre ++ y :: L)[j + 1 + s]? = L[s]? := by
  subst h
  rw [List.getElem?_append_right (by omega), show pre.length + 1 + s - pre.length = s + 1 by omega]
  simp
theorem rep_snoc {α : Type} (z : α) (j : Nat) (L : List α) : List.replicate (j + 1) z ++ L = List.replicate j z ++ z :: L := by
  rw [List.replicate_succ']; simp
theorem tabT_step (room : Nat) (ys : List Int) {i : Nat} (h : i < ys.length) : tabT room (ys.drop i) = bAt (ys.drop i) (tabT room (ys.drop (i + 1))) (min room (ys.length - i)) :: tabT room (ys.drop (i + 1)) := by
  have e2 : ys.drop i = ys[i] :: ys.drop (i + 1) := List.drop_eq_getElem_cons h
  rw [e2, tabT]
  simp
  congr 1
  congr 1
  omega
theorem tabT_first (room : Nat) (ys : List Int) (p : Nat) : (tabT room ys)[p]? = ((tabT room ys).drop p)[0]? := by rw [List.getElem?_drop]; simp

theorem bAt_yes {ys : List Int} {tl : List (Int × Int)} {k : Nat} : ((bAt ys tl k).1 = 0 ∨ tripN (ys.take (k + 1)) + (tl.getD k (0, 0)).2 < (bAt ys tl k).2) → bAt ys tl (k + 1) = (((k + 1 : Nat) : Int), tripN (ys.take (k + 1)) + (tl.getD k (0, 0)).2) := fun h => by
  rw [bAt, if_pos h]
theorem bAt_no {ys : List Int} {tl : List (Int × Int)} {k : Nat} : ¬ ((bAt ys tl k).1 = 0 ∨ tripN (ys.take (k + 1)) + (tl.getD k (0, 0)).2 < (bAt ys tl k).2) → bAt ys tl (k + 1) = bAt ys tl k := fun h => by
  rw [bAt, if_neg h]
theorem tab_first (room : Nat) (hr : 1 ≤ room) (xs : List Int) {p : Nat} (hp : p < xs.length) : ∃ f : Nat, 1 ≤ f ∧ p + f ≤ xs.length ∧ ((tabT room xs).map (·.1))[p]? = some (f : Int) ∧ bestSizes room (xs.drop p) = (f : Int) :: bestSizes room (xs.drop (p + f)) := by
  obtain ⟨f, h1, -, h3, h4, h5, -⟩ := bestSizes_cons room hr (ys := xs.drop p) (by simp; omega)
  refine ⟨f, h1, by simp at h3; omega, ?_, by rw [h5, List.drop_drop]⟩
  rw [List.getElem?_map, tabT_first, tabT_drop room xs p (by omega)]
  have hl : 0 < (tabT room (xs.drop p)).length := by rw [tabT_len]; omega
  rw [List.getD_eq_getElem?_getD, List.getElem?_eq_getElem hl] at h4
  rw [List.getElem?_eq_getElem hl]
  simpa using h4
theorem tab_time (room : Nat) (xs : List Int) : ((tabT room xs).map (·.2))[0]? = some (bestTime room xs) := by
  have hl : 0 < (tabT room xs).length := by rw [tabT_len]; omega
  rw [bestTime, List.getElem?_map, List.getD_eq_getElem?_getD, List.getElem?_eq_getElem hl]
  simp
/-- Cells of a row that the call owns. -/
theorem Ow.cell_ {α : Type} {w : World} {base E n c g : Nat} {f : α → Value} {xs : List α} (h : Ow w base E f (some ⟨g, 0, none⟩) n c xs) {j : Nat} {x : α} (hx : xs[j]? = some x) :
    w.cell? ⟨g, j, none⟩ = some (f x) ∧ w.frozen? ⟨g, j, none⟩ = false ∧ g < w.heap.size ∧ j < n := by
  have hl := (List.getElem?_eq_some_iff.1 hx).1
  rw [h.1] at hl
  obtain ⟨g', cs, hA, hb, hh, hc⟩ := h.2.2.2 (by omega)
  injection hA with hA
  injection hA with hA
  subst hA
  exact ⟨by rw [cell_of_row w g j cs _ _ hh]; exact hc j x hx, by simp [World.frozen?, hh], lt_of_heap hh, hl⟩
/-- A store into another block. -/
theorem Ow.other {α : Type} {w : World} {base E n c g : Nat} {f : α → Value} {xs : List α} (h : Ow w base E f (some ⟨g, 0, none⟩) n c xs) {g2 j : Nat} (hg : g2 ≠ g) (u : Value) : Ow (w.setCell ⟨g2, j, none⟩ u) base E f (some ⟨g, 0, none⟩) n c xs :=
  h.keep fun b _ hb hA => Below.heap_setCell w _ _ b (by
    injection hA with hA
    injection hA with hA
    subst hA
    simpa using fun e => hg e.symm)

/-- A list of the call's own and a number. -/
def OwTwo (w : World) (xs : List Int) (t : Int) (e : Ending) (w' : World) : Prop :=
  ∃ A n c, e = .returned (.tuple #[.slice A n c, .int .i64 t]) ∧ Ow w' w.heap.size 3 ILit A n c xs ∧ Below w.heap.size w w'

set_option maxHeartbeats 4000000 in
theorem batches_c (A : Option Addr) (n c : Nat) (xs : List Int) (room : Nat) (w : World) (B : Nat) (hS : Sl w B ILit A n c xs) (hB : B ≤ w.heap.size) (hn : n ≤ 12) (hr1 : 1 ≤ room) (hr2 : room ≤ 5) :
    Calls Try.prog 35 #[.slice A n c, .int .i64 room] w (OwTwo w (bestSizes room xs) (bestTime room xs)) := by
  have hlen := hS.len
  obtain ⟨hca, hcb⟩ := hS.cap
  have hS0 := hS.more hB
  obtain ⟨i0, hi, hi0, hi1, hi2⟩ := info_parts info_int
  have hmk := run_make_row' (P := Try.prog) 22 3 (.int .i64 0) 8 Try.underlying22 info_int rfl .i64 .i64 (n + 1) (by omega) (by omega)
  rw [made_rep, show ((n + 1 : Nat) : Int) = (n : Int) + 1 from by omega] at hmk
  have q1 : Ow ((w.alloc (.cells ((List.replicate (n + 1) (0 : Int)).map ILit).toArray 3)).alloc (.cells ((List.replicate (n + 1) (0 : Int)).map ILit).toArray 3)) w.heap.size 3 ILit (some ⟨w.heap.size, 0, none⟩) (n + 1) (n + 1) (List.replicate (n + 1) 0) := by
    have := (Ow.new w ILit (List.replicate (n + 1) (0 : Int)) 3 (by simp; omega)).below (w' := (w.alloc (.cells ((List.replicate (n + 1) (0 : Int)).map ILit).toArray 3)).alloc (.cells ((List.replicate (n + 1) (0 : Int)).map ILit).toArray 3)) ((Below.refl _ _).alloc (Nat.le_refl _) _)
    simpa using this
  have q2 : Ow ((w.alloc (.cells ((List.replicate (n + 1) (0 : Int)).map ILit).toArray 3)).alloc (.cells ((List.replicate (n + 1) (0 : Int)).map ILit).toArray 3)) w.heap.size 3 ILit (some ⟨w.heap.size + 1, 0, none⟩) (n + 1) (n + 1) (List.replicate (n + 1) 0) := by
    have := (Ow.new (w.alloc (.cells ((List.replicate (n + 1) (0 : Int)).map ILit).toArray 3)) ILit (List.replicate (n + 1) (0 : Int)) 3 (by simp; omega)).mono (b' := w.heap.size) (by simp)
    simpa using this
  have qb : Below w.heap.size w ((w.alloc (.cells ((List.replicate (n + 1) (0 : Int)).map ILit).toArray 3)).alloc (.cells ((List.replicate (n + 1) (0 : Int)).map ILit).toArray 3)) := by (repeat' (first | (with_reducible exact Below.refl _ _) | (with_reducible assumption) | (with_reducible refine Below.alloc ?_ ?_ _) | (with_reducible refine below_plus ?_ ?_ _ _) | (with_reducible refine Below.drew ?_) | (with_reducible refine Below.setCell ?_ ?_ _) | (with_reducible refine below_adv ?_ ?_ _) | go_size | (simp; done) | (simp; omega)))
  obtain ⟨cs, hcs⟩ : ∃ cs, ((List.replicate (n + 1) (0 : Int)).map ILit).toArray = cs := ⟨_, rfl⟩
  rw [hcs] at hmk q1 q2 qb
  have HL := Lib.hid hlen
  clear hcs hS hlen
  go_enter Try.func35, Try.ntmps35
  go_wp2_with fail
  obtain ⟨w2, hw2⟩ : ∃ w2, (w.alloc (.cells cs 3)).alloc (.cells cs 3) = w2 := ⟨_, rfl⟩
  rw [hw2] at q1 q2 qb ⊢
  clear hw2
  have hz2 := qb.size
  obtain ⟨gc, hgc⟩ : ∃ g, w.heap.size = g := ⟨_, rfl⟩
  have hb0 : w.heap.size ≤ gc := by omega
  have hgw : gc ≤ w2.heap.size := by omega
  rw [hgc] at q1 q2 qb hS0 hB ⊢
  clear hgc
  go_loopw [9] (fun at_ wr => ∃ (j : Nat) (i' : Int), j ≤ n ∧ at_ = .int .i64 i' ∧ i' = (j : Int) - 1 ∧ Below gc w wr ∧ Ow wr gc 3 ILit (some ⟨gc, 0, none⟩) (n + 1) (n + 1) (List.replicate j 0 ++ (tabT room (xs.drop j)).map (·.2)) ∧ Ow wr gc 3 ILit (some ⟨gc + 1, 0, none⟩) (n + 1) (n + 1) (List.replicate j 0 ++ (tabT room (xs.drop j)).map (·.1))) (fun at_ _ => (intOf at_ + 1).toNat)
  case atStart =>
    have e : xs.drop n = [] := List.drop_of_length_le (by rw [HL.out]; exact Nat.le_refl _)
    refine ⟨n, _, Nat.le_refl _, rfl, rfl, qb, ?_, ?_⟩
    · rw [e]; simpa [tabT, List.replicate_succ'] using q1
    · rw [e]; simpa [tabT, List.replicate_succ'] using q2
  case round =>
    clear q1 q2 qb hmk
    obtain ⟨j, i', hjn, rfl, hi', hb, hC, hT⟩ := hrel
    have hzr := hb.size
    by_cases hj : 0 < j
    · obtain ⟨j, rfl⟩ : ∃ j', j = j' + 1 := ⟨j - 1, by omega⟩
      obtain rfl : i' = (j : Int) := by omega
      rw [rep_snoc] at hC hT
      have hpl : (List.replicate j (0 : Int)).length = j := by simp
      obtain ⟨pre, hpre⟩ : ∃ pre, List.replicate j (0 : Int) = pre := ⟨_, rfl⟩
      rw [hpre] at hC hT hpl
      obtain ⟨c0, f0, l0, -⟩ := hC.cell_ (get_mid pre 0 _ hpl)
      obtain ⟨-, -, l1, -⟩ := hT.cell_ (get_mid pre 0 _ hpl)
      have hC1 := hC.set (j := j) (x := -1) (by omega)
      rw [set_mid pre 0 (-1) _ hpl] at hC1
      have hT1 := hT.other (g2 := gc) (j := j) (by omega) (.int .i64 (-1))
      have HPRE := Lib.hid hpre
      have HPL := Lib.hid hpl
      have hb1 : Below gc w (wr.setCell ⟨gc, j, none⟩ (.int .i64 (-1))) := hb.setCell (Nat.le_refl _) _
      have c0' : wr.cell? ⟨gc, j, none⟩ = some (.int .i64 0) := c0
      clear hpre hpl hC hT hi' hb c0
      go_wp2_with fail
      clear c0' f0
      go_loopw [10] (fun kk wr => ∃ (s : Nat) (f l : Int), s ≤ min room (n - j) ∧ kk = .int .i64 ((s : Int) + 1) ∧ Hid (f = (bAt (xs.drop j) (tabT room (xs.drop (j + 1))) s).1 ∧ l = if s = 0 then -1 else (bAt (xs.drop j) (tabT room (xs.drop (j + 1))) s).2) ∧ Below gc w wr ∧ Ow wr gc 3 ILit (some ⟨gc, 0, none⟩) (n + 1) (n + 1) (pre ++ l :: (tabT room (xs.drop (j + 1))).map (·.2)) ∧ Ow wr gc 3 ILit (some ⟨gc + 1, 0, none⟩) (n + 1) (n + 1) (pre ++ f :: (tabT room (xs.drop (j + 1))).map (·.1))) (fun kk _ => room + 1 - (intOf kk).toNat)
      case atStart => exact ⟨0, 0, -1, by omega, rfl, Lib.hid ⟨rfl, rfl⟩, hb1, hC1, hT1⟩
      case round =>
        clear hb1 hC1 hT1 hzr l0 l1
        obtain ⟨s, f, l, hs, rfl, hfl, hb, hC, hT⟩ := hrel
        have hzr := hb.size
        by_cases h1 : s < room ∧ j + s < n
        · obtain ⟨h1, h2⟩ := h1
          have hbd := tabT_bd room (xs.drop (j + 1)) s
          have hld : (xs.drop (j + 1)).length ≤ 12 := by simp [HL.out]; omega
          have htl : (tabT room (xs.drop (j + 1)))[s]? = some ((tabT room (xs.drop (j + 1))).getD s (0, 0)) := by
            rw [List.getD_eq_getElem?_getD, List.getElem?_eq_getElem (by rw [tabT_len]; simp [HL.out]; omega)]; rfl
          have hbA := (bAt_bd (xs.drop j) (tabT room (xs.drop (j + 1))) _ (tabT_bd room (xs.drop (j + 1))) s (by omega)).1
          have hbF : 1 ≤ s → 1 ≤ (bAt (xs.drop j) (tabT room (xs.drop (j + 1))) s).1 := fun h => (bAt_first _ _ h).1
          have hyes := bAt_yes (ys := xs.drop j) (tl := tabT room (xs.drop (j + 1))) (k := s)
          have hno := bAt_no (ys := xs.drop j) (tl := tabT room (xs.drop (j + 1))) (k := s)
          obtain ⟨tl, htl0⟩ : ∃ tl, tabT room (xs.drop (j + 1)) = tl := ⟨_, rfl⟩
          have HTL := Lib.hid htl0
          rw [htl0] at hbd htl hfl hC hT hyes hno hbA hbF
          obtain ⟨t2, ht2⟩ : ∃ t2, (tl.getD s (0, 0)).2 = t2 := ⟨_, rfl⟩
          have hcs : (pre ++ l :: tl.map (·.2))[j + 1 + s]? = some t2 := by
            rw [get_past pre l _ HPL.out s, List.getElem?_map, htl, ← ht2]; rfl
          obtain ⟨c2, -, l0, -⟩ := hC.cell_ hcs
          obtain ⟨c0, f0, -, -⟩ := hC.cell_ (get_mid pre l _ HPL.out)
          obtain ⟨c1, f1, l1, -⟩ := hT.cell_ (get_mid pre f _ HPL.out)
          rw [show j + 1 + s = j + (s + 1) by omega] at c2
          have c2' : wr.cell? ⟨gc, j + (s + 1), none⟩ = some (.int .i64 t2) := c2
          have c0' : wr.cell? ⟨gc, j, none⟩ = some (.int .i64 l) := c0
          have c1' : wr.cell? ⟨gc + 1, j, none⟩ = some (.int .i64 f) := c1
          obtain ⟨b, o, x, rfl, -, -, -⟩ := hS0.at_ (k := j) (by omega)
          have hsub := ((hS0.below hb).drop (k := j) (by omega)).take (k := s + 1) (by omega)
          rw [if_neg (by omega)] at hsub
          simp only [Option.map_some, Addr.add_lit] at hsub
          have htn := tripN_nn ((xs.drop j).take (s + 1))
          have ct := fun os d => tripOf_c _ _ _ _ (plus wr os d) gc (hsub.plus (by omega) os d) (by simp; omega) (by omega)
          obtain ⟨T, hTT⟩ : ∃ T, tripN ((xs.drop j).take (s + 1)) = T := ⟨_, rfl⟩
          rw [hTT] at htn ct
          rw [ht2, hTT] at hyes hno
          have CT := Lib.hid ct
          rw [ht2] at hbd
          have u1 : IntKind.i64.wrap ((j : Int) + ((s : Int) + 1)) = (j : Int) + ((s : Int) + 1) := IntWalk.i64_in _ (by omega)
          have u2 : ((j : Int) + ((s : Int) + 1)).toNat = j + (s + 1) := by omega
          have u3 : IntKind.i64.wrap (T + t2) = T + t2 := IntWalk.i64_in _ (by omega)
          have u4 : (0 : Int) ≤ (j : Int) + ((s : Int) + 1) := by omega
          have u5 : (j : Int) + ((s : Int) + 1) ≤ (c : Int) := by omega
          have u6 : (j : Int) ≤ (j : Int) + ((s : Int) + 1) := by omega
          have u7 : (j : Int) + ((s : Int) + 1) < ((n : Int) + 1) := by omega
          have u8 : j + (s + 1) - j = s + 1 := by omega
          have HYES := Lib.hid hyes
          have HNO := Lib.hid hno
          have HT2 := Lib.hid ht2
          clear ct hTT hsub hcs htl htl0 hyes hno ht2 c0 c1 c2 hld
          go_wp2_with fail
          refine wp_region_plus (by kernel_rfl) (by kernel_rfl) ?_; (repeat (go_big_quiet_step ((go_at_call 27; exact quiet_plus (CT.out _ _))))); refine wpQuiet_nil ?_; intro _ hw'; obtain ⟨⟨osq, dq⟩, hw''⟩ := hw'; subst hw''
          by_cases hup : l < 0 ∨ T + t2 < l
          · have hn : Hid (((s + 1 : Nat) : Int) = (bAt (xs.drop j) tl (s + 1)).1 ∧ T + t2 = if s + 1 = 0 then -1 else (bAt (xs.drop j) tl (s + 1)).2) := Lib.hid (by
              have e : (bAt (xs.drop j) tl s).1 = 0 ∨ T + t2 < (bAt (xs.drop j) tl s).2 := by
                obtain ⟨-, hl⟩ := hfl.out
                rcases Nat.eq_zero_or_pos s with h0 | h0
                · subst h0; exact .inl rfl
                · rw [if_neg (by omega)] at hl
                  right; omega
              rw [HYES.out e, if_neg (by omega)]
              exact ⟨rfl, rfl⟩)
            have hC2 := hC.set (j := j) (x := T + t2) (by omega)
            rw [set_mid pre l (T + t2) _ HPL.out] at hC2
            have hT2 := ((hT.other (g2 := gc) (j := j) (by omega) (.int .i64 (T + t2))).set (j := j) (x := ((s + 1 : Nat) : Int)) (by omega)).plus osq dq
            rw [set_mid pre f ((s + 1 : Nat) : Int) _ HPL.out] at hT2
            have hC3 := (hC2.other (g2 := gc + 1) (j := j) (by omega) (.int .i64 ((s + 1 : Nat) : Int))).plus osq dq
            clear hC hT hC2 u1 u2 u3 u4 u5 u6 u7 u8 hbA hbF CT hfl
            rcases hup with hup | hup
            all_goals
              by_cases hl0 : l < 0
              all_goals
                first
                | (exfalso; omega)
                | (go_wp2_with fail
                   go_roundw
                   case rel => exact ⟨s + 1, _, _, by omega, by go_num, by rw [HTL.out]; exact hn, by (repeat' (first | (with_reducible exact Below.refl _ _) | (with_reducible assumption) | (with_reducible refine Below.alloc ?_ ?_ _) | (with_reducible refine below_plus ?_ ?_ _ _) | (with_reducible refine Below.drew ?_) | (with_reducible refine Below.setCell ?_ ?_ _) | (with_reducible refine below_adv ?_ ?_ _) | go_size | (simp; done) | (simp; omega))), by rw [HTL.out]; simpa [go_sem] using hC3, by rw [HTL.out]; simpa [go_sem] using hT2⟩
                   case measure => simp [intOf]; omega)
          · have hn : Hid (f = (bAt (xs.drop j) tl (s + 1)).1 ∧ l = if s + 1 = 0 then -1 else (bAt (xs.drop j) tl (s + 1)).2) := Lib.hid (by
              obtain ⟨hf, hl⟩ := hfl.out
              have h0 : 0 < s := by
                rcases Nat.eq_zero_or_pos s with h0 | h0
                · subst h0; rw [if_pos rfl] at hl; omega
                · exact h0
              rw [if_neg (by omega)] at hl
              have e : ¬ ((bAt (xs.drop j) tl s).1 = 0 ∨ T + t2 < (bAt (xs.drop j) tl s).2) := by
                have := hbF h0
                omega
              rw [HNO.out e, if_neg (by omega)]
              exact ⟨hf, hl⟩)
            have hC3 := hC.plus osq dq
            have hT3 := hT.plus osq dq
            have v1 : ¬ l < 0 := by omega
            have v2 : ¬ T + t2 < l := by omega
            clear hC hT u1 u2 u3 u4 u5 u6 u7 u8 hbA hbF CT hfl hup
            go_wp2_with fail
            go_roundw
            case rel => exact ⟨s + 1, _, _, by omega, by go_num, by rw [HTL.out]; exact hn, by (repeat' (first | (with_reducible exact Below.refl _ _) | (with_reducible assumption) | (with_reducible refine Below.alloc ?_ ?_ _) | (with_reducible refine below_plus ?_ ?_ _ _) | (with_reducible refine Below.drew ?_) | (with_reducible refine Below.setCell ?_ ?_ _) | (with_reducible refine below_adv ?_ ?_ _) | go_size | (simp; done) | (simp; omega))), by rw [HTL.out]; exact hC3, by rw [HTL.out]; exact hT3⟩
            case measure => simp [intOf]; omega
        · have hM : Hid (pre ++ l :: (tabT room (xs.drop (j + 1))).map (·.2) = List.replicate j 0 ++ (tabT room (xs.drop j)).map (·.2) ∧ pre ++ f :: (tabT room (xs.drop (j + 1))).map (·.1) = List.replicate j 0 ++ (tabT room (xs.drop j)).map (·.1)) := Lib.hid (by
            obtain ⟨hf, hl⟩ := hfl.out
            have e : min room (xs.length - j) = s := by rw [HL.out]; omega
            rw [tabT_step room xs (i := j) (by rw [HL.out]; omega), e, HPRE.out]
            rw [if_neg (by omega)] at hl
            simp [hf, hl])
          by_cases h3 : s < room
          · have h4 : ¬ (j : Int) + ((s : Int) + 1) ≤ (n : Int) := by omega
            clear h1
            go_wp2_with fail
            go_roundw
            case rel => exact ⟨j, _, by omega, by go_num, rfl, hb, by rw [← hM.out.1]; exact hC, by rw [← hM.out.2]; exact hT⟩
            case measure => simp [intOf]
          · clear h1
            go_wp2_with fail
            go_roundw
            case rel => exact ⟨j, _, by omega, by go_num, rfl, hb, by rw [← hM.out.1]; exact hC, by rw [← hM.out.2]; exact hT⟩
            case measure => simp [intOf]
    · obtain rfl : j = 0 := by omega
      obtain rfl : i' = -1 := by omega
      rw [List.drop_zero, List.replicate_zero, List.nil_append] at hC hT
      clear hi' hjn hj
      obtain ⟨wo, rfl⟩ : ∃ wo : World, wo = wr := ⟨_, rfl⟩
      go_wp2_with fail
      go_loopw [12, 13] (fun v i wr => ∃ (p k : Nat) (ys : List Int), p ≤ n ∧ k ≤ p ∧ i = .int .i64 p ∧ Below wo.heap.size wo wr ∧ wr.ownsRow wo.heap.size 3 1 v k (ys.map ILit) ∧ Hid (ys ++ bestSizes room (xs.drop p) = bestSizes room xs)) (fun _ i _ => n - (intOf i).toNat)
      case atStart => exact ⟨0, 0, [], by omega, by omega, rfl, by (repeat' (first | (with_reducible exact Below.refl _ _) | (with_reducible assumption) | (with_reducible refine Below.alloc ?_ ?_ _) | (with_reducible refine below_plus ?_ ?_ _ _) | (with_reducible refine Below.drew ?_) | (with_reducible refine Below.setCell ?_ ?_ _) | (with_reducible refine below_adv ?_ ?_ _) | go_size | (simp; done) | (simp; omega))), World.ownsRow_made _ #[] 0 (Nat.le_refl _) (by decide) rfl, Lib.hid rfl⟩
      case round =>
        obtain ⟨p, k, ys, hp, hkp, rfl, hb2, hB, hY⟩ := hrel
        have hzr2 := hb2.size
        by_cases hlt : p < n
        · obtain ⟨f, hf1, hf2, hf3, hf4⟩ := tab_first room hr1 xs (p := p) (by rw [HL.out]; exact hlt)
          rw [HL.out] at hf2
          have c7 : wr.cell? ⟨gc + 1, p, none⟩ = some (.int .i64 f) := ((hT.below hb2).cell_ hf3).1
          have HF := Lib.hid hf3
          have HY : Hid ((ys ++ [(f : Int)]) ++ bestSizes room (xs.drop (p + f)) = bestSizes room xs) := Lib.hid (by rw [← hY.out, hf4]; simp)
          clear hf3 hf4 hY
          go_wp2_with (at_builtin; refine wpList_app1 wo wr rfl _ _ 22 rfl 3 i0 (.int .i64 0) 8 Try.underlying22 hi hi0 hi1 hi2 rfl (by decide) wo.heap.size _ k _ (by rfl) hB _ rfl _ (by rfl) rfl (by omega) hb2 hzr2 ?_; intro v8 w8 hO8 hb8 hg8; have c8 : w8.cell? ⟨gc + 1, p, none⟩ = some (.int .i64 f) := ((hT.below hb8).cell_ HF.out).1)
          rw [ints_snoc] at hO8
          go_roundw
          case rel => exact ⟨p + f, k + 1, _, by omega, by omega, by go_num, hb8, hO8, HY⟩
          case measure => simp [intOf]; omega
        · obtain rfl : p = n := by omega
          have hY2 := hY.out
          rw [List.drop_of_length_le (by rw [HL.out]; exact Nat.le_refl _), bestSizes_nil, List.append_nil] at hY2
          subst hY2
          obtain ⟨A9, c9, rfl, hW9⟩ := Ow.of_own hB
          have c7 : wr.cell? ⟨gc, 0, none⟩ = some (.int .i64 (bestTime room xs)) := ((hC.below hb2).cell_ (tab_time room xs)).1
          have l7 : gc < wr.heap.size := ((hC.below hb2).cell_ (tab_time room xs)).2.2.1
          have hbz : Below w.heap.size w wr := (hb.mono hb0).trans (hb2.mono (by omega))
          have hfin := hW9.mono (b' := w.heap.size) (by omega)
          clear hB hY hW9
          go_wp2_with fail
          refine wp_region_plus (by kernel_rfl) (by kernel_rfl) ?_; (repeat (go_big_quiet_step (fail))); refine wpQuiet_nil ?_; intro _ hw'; obtain ⟨⟨osq, dq⟩, hw''⟩ := hw'; subst hw''
          go_wp2_with fail
          go_ret2
          exact ⟨_, _, _, rfl, hfin.plus _ _, below_plus hbz (by omega) _ _⟩
end Go.Proofs.Ytdggdibfgenadaa
