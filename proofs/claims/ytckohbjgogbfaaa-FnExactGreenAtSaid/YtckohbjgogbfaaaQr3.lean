/- The reference's greenAt, walked. -/
import Derived.Test.YtckohbjgogbfaaaQr2
set_option linter.unusedVariables false
set_option linter.unusedSimpArgs false
namespace Go.Proofs.Ytckohbjgogbfaaa
open Go.RowKit

/-- The numbers up to q that pass, in order. -/
def fU (p : Int → Bool) : Nat → List Int
  | 0 => []
  | q + 1 => if p q then fU p q ++ [(q : Int)] else fU p q
theorem fU_range (p : Int → Bool) (q : Nat) : fU p q = ((List.range' 0 q).map fun (j : Nat) => (j : Int)).filter p := by
  induction q with
  | zero => rfl
  | succ q ih =>
    rw [List.range'_1_concat, List.map_append, List.filter_append, ← ih, fU]
    simp only [List.map_cons, List.map_nil, Nat.zero_add]
    split
    · rw [List.filter_cons_of_pos (by assumption)]; rfl
    · rw [List.filter_cons_of_neg (by assumption)]; simp
theorem fU_both {p r : List Int} {m : Nat} (hp : p.Pairwise (· < ·)) (hi : ∀ x ∈ p, 0 ≤ x ∧ x < m) : fU (fun x => decide (x ∈ p) && decide (x ∈ r)) m = p.filter fun x => decide (x ∈ r) := by
  rw [fU_range]
  have h := filter_range p 0 m hp (fun x hx => by have := hi x hx; omega)
  conv => rhs; rw [← h]
  rw [List.filter_filter]
  exact List.filter_congr fun x _ => Bool.and_comm _ _

/-- A row of ints of the call's own, any length. -/
def OwnGreen (w : World) (xs : List Int) (e : Ending) (w' : World) : Prop :=
  ∃ v n, e = .returned v ∧ w'.ownsRow w.heap.size 3 1 v n (xs.map ILit) ∧ Below w.heap.size w w'

set_option maxHeartbeats 4000000 in
theorem sGreenAt_c (At : Option Addr) (m ct : Nat) (t : List (List Int)) (A : Option Addr) (n c : Nat) (ss : List (List Int × Int)) (s : Int) (w : World) (B : Nat) (hT : Sl2 w B ILit At m ct t) (hS : SlS w B A n c ss) (hB : B ≤ w.heap.size) (hn : n ≤ 1048576) (hm : m ≤ 1048576)
    (hsq : sqB t = true) (hic : inC t = true) (hin : ∀ s ∈ ss, ∀ x ∈ s.1, 0 ≤ x ∧ x < m) (hpw : ∀ s ∈ ss, s.1.Pairwise (· < ·)) (hgr : grOk ss) (hpl : ∀ s ∈ ss, s.1.length ≤ 1048576) (hs0 : 0 ≤ s) (hs1 : s < cycN t ss) :
    Calls Try.prog 31 #[.agg #[.slice At m ct, .slice A n c], .int .i64 s] w (OwnGreen w (greenN t ss s)) := by
  obtain ⟨hc0, hc1⟩ := hS.cap
  obtain ⟨hct0, hct1⟩ := hT.cap
  obtain ⟨W2, hW2⟩ : ∃ W2, w.alloc (.cells #[.slice At m ct, .slice A n c] 26) = W2 := ⟨_, rfl⟩
  have hb0 : Below w.heap.size w W2 := by rw [← hW2]; exact (Below.refl _ _).alloc (Nat.le_refl _) _
  have hh : W2.heap[w.heap.size]? = some (.cells #[.slice At m ct, .slice A n c] 26 (0, 0)) := by rw [← hW2]; exact heap_alloc_new w _
  have hzl := lt_of_heap hh
  have k0 : W2.cell? ⟨w.heap.size, 0, none⟩ = some (.slice At m ct) := by rw [cell_of_row _ _ _ _ _ _ hh]; rfl
  have k1 : W2.cell? ⟨w.heap.size, 1, none⟩ = some (.slice A n c) := by rw [cell_of_row _ _ _ _ _ _ hh]; rfl
  have hT0 := ((hT.more hB).below hb0).more hb0.size
  have hS0 := ((hS.more hB).below hb0).more hb0.size
  have hln := hS.len
  have hn0 : 0 < n := by
    rcases Nat.eq_zero_or_pos n with h | h
    · have h3 : cycN t ss = 0 := by unfold cycN; rw [hln, h]; rfl
      omega
    · exact h
  have CA := Lib.hid (stageAt_c At m ct t A n c ss s W2 _ hT0 hS0 (Nat.le_refl _) hn hsq hic hin hgr hpl hs0 hs1)
  have hGN : greenN t ss s = greenK t ss s (stg t ss s (ss.length - 1)) := rfl
  have hkn : stg t ss s (ss.length - 1) < n := by have := stg_le (t := t) (ss := ss) (s := s) (k := ss.length - 1); omega
  have hpass := stg_beg (t := t) (ss := ss) (k := ss.length - 1) hs0
  obtain ⟨k, hk⟩ : ∃ k, stg t ss s (ss.length - 1) = k := ⟨_, rfl⟩
  rw [hk] at CA hGN hkn hpass
  obtain ⟨b, o, ph, g, A1, n1, c1, rfl, hbl, hx, hcell, hcellg, hrow⟩ := hS0.at_ hkn
  have hj2 := next_at hkn
  obtain ⟨b', o', ph2, g2, A2, n2, c2, hA, -, hy, hcell2, -, hrow2⟩ := hS0.at_ hj2
  injection hA with hA
  injection hA with hA1 hA2
  subst hA1 hA2
  obtain ⟨j, hje⟩ : ∃ j, (k + 1) % n = j := ⟨_, rfl⟩
  rw [hje] at hcell2 hj2 hy
  obtain ⟨e1, e2⟩ := phAt_of hx
  obtain ⟨e3, -⟩ := phAt_of hy
  have hp1 := hpl _ (List.mem_of_getElem? hx)
  have hp2 := hpl _ (List.mem_of_getElem? hy)
  simp only at hp1 hp2
  rw [hrow.len] at hp1
  rw [hrow2.len] at hp2
  obtain ⟨P, hP⟩ : ∃ P, s - cycUp t ss k = P := ⟨_, rfl⟩
  have hGK : greenN t ss s = if P < g then ph else ph.filter fun x => decide (x ∈ ph2) := by rw [hGN, greenK, e1, e2, hP, hln, hje, e3]
  rw [hP] at CA
  have HB0 := Lib.hid hb0
  have R1 := Lib.hid hrow
  have R2 := Lib.hid hrow2
  have X1 := Lib.hid hcell
  have X2 := Lib.hid hcellg
  have X3 := Lib.hid hcell2
  have K0 := Lib.hid k0
  by_cases hlt : P < g
  · rw [hGK, if_pos hlt]
    clear hh hT hS hT0 hS0 hx hy hrow hrow2 hje hln hsq hin hpl hb0 hGK hGN hk hP e1 e2 e3 hcell hcellg hcell2
    go_enter Try.func31, Try.ntmps31
    go_wp2_with fail
    clear hW2
    refine CA.out.mono ?_
    rintro e w1 ⟨rfl, hb1⟩
    have hz1 := hb1.size
    have q1 := (hb1.cell (p := ⟨w.heap.size, 1, none⟩) hzl).trans k1
    have q2 := (hb1.cell (p := ⟨b, o + k * 2, none⟩) hbl).trans X1.out
    have q3 := (hb1.cell (p := ⟨b, o + k * 2 + 1, none⟩) hbl).trans X2.out
    have CC := Lib.hid (copyInts_c A1 n1 c1 ph w1 _ (R1.out.below hb1) hz1 (by omega))
    have HB1 := Lib.hid (HB0.out.trans (hb1.mono HB0.out.size))
    clear hb1 k0 k1
    go_wp2_with fail
    refine CC.out.mono ?_
    rintro e w2 ⟨v, rfl, hO, hb2⟩
    have hb02 := HB1.out.trans (hb2.mono HB1.out.size)
    have hO2 := own_mono hO HB1.out.size
    clear hO hb2
    go_wp2_with fail
    go_ret
    exact ⟨v, _, rfl, hO2, hb02⟩
  · rw [hGK, if_neg hlt, ← fU_both (m := m) (hpw _ (List.mem_of_getElem? hx)) (hin _ (List.mem_of_getElem? hx))]
    obtain ⟨pr, hpr⟩ : ∃ pr, (fun x : Int => decide (x ∈ ph) && decide (x ∈ ph2)) = pr := ⟨_, rfl⟩
    rw [hpr]
    have HPR := Lib.hid hpr
    clear hpr
    obtain ⟨i0', hi, hi0, hi1, hi2⟩ := info_parts info_int
    have hmod : ((k : Int) + 1).tmod (n : Int) = (j : Int) := by rw [show ((k : Int) + 1) = ((k + 1 : Nat) : Int) from rfl, ← hje]; rfl
    have i0 : (0 : Int) ≤ (k : Int) := by omega
    have i1 : (k : Int) < (n : Int) := by omega
    have j0 : (0 : Int) ≤ (j : Int) := by omega
    have j1 : (j : Int) < (n : Int) := by omega
    have nn0 : ((n : Int) == 0) = false := by simp; omega
    have nn1 : ¬ n = 0 := by omega
    have s1 : IntKind.i64.wrap ((k : Int) + 1) = (k : Int) + 1 := IntWalk.i64_in _ (by omega)
    have s2 : IntKind.i64.wrap (j : Int) = (j : Int) := IntWalk.i64_in _ (by omega)
    clear hh hT hS hT0 hS0 hx hy hrow hrow2 hje hln hsq hin hpl hpw hb0 hGK hGN hk hP e1 e2 e3 hcell hcellg hcell2
    go_enter Try.func31, Try.ntmps31
    go_wp2_with fail
    clear hW2
    refine CA.out.mono ?_
    rintro e w1 ⟨rfl, hb1⟩
    have hz1 := hb1.size
    have q0 := (hb1.cell (p := ⟨w.heap.size, 0, none⟩) hzl).trans K0.out
    have q1 := (hb1.cell (p := ⟨w.heap.size, 1, none⟩) hzl).trans k1
    have q2 := (hb1.cell (p := ⟨b, o + k * 2, none⟩) hbl).trans X1.out
    have q3 := (hb1.cell (p := ⟨b, o + k * 2 + 1, none⟩) hbl).trans X2.out
    have q4 := (hb1.cell (p := ⟨b, o + j * 2, none⟩) hbl).trans X3.out
    have HB1 := Lib.hid hb1
    have bw1 : b < w1.heap.size := by omega
    have bw2 : w.heap.size < w1.heap.size := by omega
    clear hb1 k0 k1
    go_wp2_with fail
    refine wp_region_plus (by kernel_rfl) (by kernel_rfl) ?_; (repeat (go_big_quiet_step (fail))); refine wpQuiet_nil ?_; intro _ hw'; obtain ⟨⟨osq, dq⟩, hw''⟩ := hw'; subst hw''
    clear s1 s2 hmod
    obtain ⟨w2, hw2⟩ : ∃ w2, plus w1 osq dq = w2 := ⟨_, rfl⟩
    rw [hw2]
    have hb2 : Below W2.heap.size W2 w2 := HB1.out.trans (by rw [← hw2]; (repeat' (first | (with_reducible exact Below.refl _ _) | (with_reducible assumption) | (with_reducible refine Below.alloc ?_ ?_ _) | (with_reducible refine below_plus ?_ ?_ _ _) | (with_reducible refine Below.drew ?_) | (with_reducible refine Below.setCell ?_ ?_ _) | (with_reducible refine below_adv ?_ ?_ _) | go_size | (simp; done) | (simp; omega))))
    have K1 := Lib.hid ((HB1.out.cell (p := ⟨w.heap.size, 1, none⟩) hzl).symm.trans q1)
    have hz2 := hb2.size
    clear hw2 q0 q1 q2 q3 q4
    go_wp2_with fail
    go_loopw [8, 9] (fun v i wr => ∃ (q n8 : Nat), q ≤ m ∧ i = .int .i64 q ∧ wr.ownsRow W2.heap.size 3 1 v n8 ((fU pr q).map ILit) ∧ n8 ≤ q ∧ Below W2.heap.size W2 wr) (fun _ i _ => m - (intOf i).toNat)
    case atStart => exact ⟨0, 0, by omega, rfl, World.ownsRow_made _ #[] 0 hz2 (by decide) rfl, by omega, hb2.alloc hz2 _⟩
    case round =>
      clear hb2
      obtain ⟨q, n8, hq, rfl, hO, hn8, hb⟩ := hrel
      have hzr := hb.size
      have e1 := (hb.cell (p := ⟨w.heap.size, 0, none⟩) hzl).trans K0.out
      have e2 := (hb.cell (p := ⟨w.heap.size, 1, none⟩) hzl).trans K1.out
      have e3 := (hb.cell (p := ⟨b, o + k * 2, none⟩) hbl).trans X1.out
      by_cases hqm : q < m
      · have HB := Lib.hid hb
        have HO := Lib.hid hO
        have c1' := isIn_c A1 n1 c1 ph q wr _ (R1.out.below hb) hzr (by omega)
        have c2' := fun (wq : World) (hbq : Below W2.heap.size W2 wq) => isIn_c A2 n2 c2 ph2 q wq _ (R2.out.below hbq) hbq.size (by omega)
        have hpq : pr (q : Int) = (decide ((q : Int) ∈ ph) && decide ((q : Int) ∈ ph2)) := by rw [← HPR.out]
        have hfu : fU pr (q + 1) = if pr q then fU pr q ++ [(q : Int)] else fU pr q := rfl
        rw [hpq] at hfu
        cases hu1 : decide ((q : Int) ∈ ph)
        · rw [hu1] at c1' hfu
          simp only [Bool.false_and, Bool.false_eq_true, if_false] at hfu
          have C1 := Lib.hid c1'
          have HF := Lib.hid hfu
          clear c1' c2' hfu hpq hu1
          clear hb hO
          go_wp2_with fail
          refine C1.out.mono ?_
          rintro e wq ⟨rfl, hbq⟩
          have hOq := own_below HO.out hbq
          have hbbq := HB.out.trans (hbq.mono hzr)
          have hzq := hbbq.size
          clear hbq C1
          rw [← HF.out] at hOq
          go_wp2_with fail
          go_roundw
          case rel => exact ⟨q + 1, n8, by omega, by go_num, hOq, by omega, hbbq⟩
          case measure => simp [intOf]; omega
        · cases hu2 : decide ((q : Int) ∈ ph2)
          · rw [hu1] at c1'
            rw [hu2] at c2'
            rw [hu1, hu2] at hfu
            simp only [Bool.true_and, Bool.false_eq_true, if_false] at hfu
            have C1 := Lib.hid c1'
            have HF := Lib.hid hfu
            clear c1' hfu hpq hu1 hu2
            clear hb hO
            go_wp2_with fail
            refine C1.out.mono ?_
            rintro e wq ⟨rfl, hbq⟩
            have hOq := own_below HO.out hbq
            have hbbq := HB.out.trans (hbq.mono hzr)
            have hzq := hbbq.size
            clear hbq C1
            have C2 := Lib.hid (c2' wq hbbq)
            have HBq := Lib.hid hbbq
            clear hbbq
            go_wp2_with fail
            refine C2.out.mono ?_
            rintro e wp ⟨rfl, hbp⟩
            have hOp := own_below hOq hbp
            have hbbp := HBq.out.trans (hbp.mono hzq)
            have hzp := hbbp.size
            clear hbp hOq C2
            rw [← HF.out] at hOp
            go_wp2_with fail
            go_roundw
            case rel => exact ⟨q + 1, n8, by omega, by go_num, hOp, by omega, hbbp⟩
            case measure => simp [intOf]; omega
          · rw [hu1] at c1'
            rw [hu2] at c2'
            rw [hu1, hu2] at hfu
            simp only [Bool.true_and, if_true] at hfu
            have C1 := Lib.hid c1'
            have HF := Lib.hid hfu
            clear c1' hfu hpq hu1 hu2
            clear hb hO
            go_wp2_with fail
            refine C1.out.mono ?_
            rintro e wq ⟨rfl, hbq⟩
            have hOq := own_below HO.out hbq
            have hbbq := HB.out.trans (hbq.mono hzr)
            have hzq := hbbq.size
            clear hbq C1
            have C2 := Lib.hid (c2' wq hbbq)
            have HBq := Lib.hid hbbq
            clear hbbq
            go_wp2_with fail
            refine C2.out.mono ?_
            rintro e wp ⟨rfl, hbp⟩
            have hOp := own_below hOq hbp
            have hbbp := HBq.out.trans (hbp.mono hzq)
            have hzp := hbbp.size
            clear hbp hOq C2
            go_wp2_with (at_builtin; refine wpList_app1 W2 wp rfl _ _ 29 rfl 3 i0' (.int .i64 0) 8 Try.underlying29 hi hi0 hi1 hi2 rfl (by decide) W2.heap.size _ n8 _ (by rfl) hOp _ rfl _ (by rfl) rfl (by omega) hbbp hzp ?_; intro v8 w8 hO8 hb8 hg8)
            rw [ints_snoc, ← HF.out] at hO8
            clear hOp hbbp hg8
            go_roundw
            case rel => exact ⟨q + 1, n8 + 1, by omega, by go_num, hO8, by omega, hb8⟩
            case measure => simp [intOf]; omega
      · obtain rfl : q = m := by omega
        have hO2 := own_mono hO HB0.out.size
        have hbb := HB0.out.trans (hb.mono HB0.out.size)
        clear hO hb
        go_wp2_with fail
        go_ret
        exact ⟨_, _, rfl, hO2, hbb⟩
end Go.Proofs.Ytckohbjgogbfaaa
