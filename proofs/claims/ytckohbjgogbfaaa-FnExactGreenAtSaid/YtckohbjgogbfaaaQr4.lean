/- The program's greenIn, walked: the stage. -/
import Derived.Test.YtckohbjgogbfaaaQr3
set_option linter.unusedVariables false
set_option linter.unusedSimpArgs false
namespace Go.Proofs.Ytckohbjgogbfaaa
open Go.RowKit

theorem stg_self {t : List (List Int)} {ss : List (List Int × Int)} {s : Int} {k : Nat} (h : cycUp t ss k ≤ s) : stg t ss s k = k := by
  cases k with
  | zero => rfl
  | succ k => rw [stg, if_pos h]
theorem stg_down {t : List (List Int)} {ss : List (List Int × Int)} {s : Int} {k : Nat} (h : ¬ cycUp t ss (k + 1) ≤ s) : stg t ss s (k + 1) = stg t ss s k := by
  rw [stg, if_neg h]

/-- A row of ints that reads as xs. -/
def ReadsGreen (w : World) (xs : List Int) (e : Ending) (w' : World) : Prop :=
  ∃ A n c, e = .returned (.slice A n c) ∧ Sl w' w'.heap.size ILit A n c xs ∧ Below w.heap.size w w'

set_option maxHeartbeats 4000000 in
theorem greenIn_c (At : Option Addr) (m ct : Nat) (t : List (List Int)) (A : Option Addr) (n c : Nat) (ss : List (List Int × Int)) (s : Int) (w : World) (B : Nat) (hT : Sl2 w B ILit At m ct t) (hS : SlS w B A n c ss) (hB : B ≤ w.heap.size) (hn : n ≤ 1048576) (hm : m ≤ 1048576)
    (hsq : sqB t = true) (hic : inC t = true) (hin : ∀ s ∈ ss, ∀ x ∈ s.1, 0 ≤ x ∧ x < m) (hgr : grOk ss) (hpl : ∀ s ∈ ss, s.1.length ≤ 1048576) (hs0 : 0 ≤ s) (hs1 : s < cycN t ss) :
    Calls Try.prog 27 #[.agg #[.slice At m ct, .slice A n c], .int .i64 s] w (ReadsGreen w (greenN t ss s)) := by
  obtain ⟨hc0, hc1⟩ := hS.cap
  obtain ⟨W2, hW2⟩ : ∃ W2, w.alloc (.cells #[.slice At m ct, .slice A n c] 26) = W2 := ⟨_, rfl⟩
  have hb0 : Below w.heap.size w W2 := by rw [← hW2]; exact (Below.refl _ _).alloc (Nat.le_refl _) _
  have hh : W2.heap[w.heap.size]? = some (.cells #[.slice At m ct, .slice A n c] 26 (0, 0)) := by rw [← hW2]; exact heap_alloc_new w _
  have hzl := lt_of_heap hh
  have k0 : W2.cell? ⟨w.heap.size, 0, none⟩ = some (.slice At m ct) := by rw [cell_of_row _ _ _ _ _ _ hh]; rfl
  have k1 : W2.cell? ⟨w.heap.size, 1, none⟩ = some (.slice A n c) := by rw [cell_of_row _ _ _ _ _ _ hh]; rfl
  have hT0 := ((hT.more hB).below hb0).more hb0.size
  have hS0 := ((hS.more hB).below hb0).more hb0.size
  have hln := hS.len
  have hn0 : 0 < n := by
    rcases Nat.eq_zero_or_pos n with h | h
    · have h3 : cycN t ss = 0 := by unfold cycN; rw [hln, h]; rfl
      omega
    · exact h
  have CB := Lib.hid (fun (k : Nat) (hk : k ≤ n) w' (hw : Below W2.heap.size W2 w') => beginOf_c At m ct t A n c ss k w' _ (hT0.below hw) (hS0.below hw) hw.size hk hn hsq hic hin hgr)
  have HCU := Lib.hid (fun k => cycUp_bd (t := t) hic hgr k)
  have HLN := Lib.hid hln
  have K0 := Lib.hid k0
  have K1 := Lib.hid k1
  have HB0 := Lib.hid hb0
  have HS0 := Lib.hid hS0
  have n1' : (n : Int) - 1 = ((n - 1 : Nat) : Int) := by omega
  clear hh hT hS hT0 hS0 hsq hic hin hgr hb0
  go_enter Try.func27, Try.ntmps27
  go_wp2_with fail
  clear hW2 k0 k1
  go_loopw [5] (fun i wr => ∃ (k : Nat), k < n ∧ i = .int .i64 k ∧ Hid (stg t ss s (ss.length - 1) = stg t ss s k) ∧ Below W2.heap.size W2 wr) (fun i _ => (intOf i).toNat)
  case atStart => exact ⟨n - 1, by omega, by rw [← n1'], Lib.hid (by rw [HLN.out]), Below.refl _ _⟩
  case round =>
    obtain ⟨k, hkn, rfl, hst, hb⟩ := hrel
    have hzr := hb.size
    have e0 := (hb.cell (p := ⟨w.heap.size, 0, none⟩) hzl).trans K0.out
    have e1 := (hb.cell (p := ⟨w.heap.size, 1, none⟩) hzl).trans K1.out
    have C1 := Lib.hid (CB.out k (by omega) wr hb)
    have HB := Lib.hid hb
    clear hb
    go_wp2_with fail
    clear e0 e1
    refine C1.out.mono ?_
    rintro e wq ⟨rfl, hbq⟩
    have hbb := HB.out.trans (hbq.mono hzr)
    clear hbq C1
    by_cases hck : cycUp t ss k ≤ s
    · have hkk : stg t ss s (ss.length - 1) = k := hst.out.trans (stg_self hck)
      obtain ⟨b, o, ph, g, A1, n1, c1, rfl, hbl, hx, hcell, hcellg, hrow⟩ := HS0.out.at_ hkn
      have hj2 := next_at hkn
      obtain ⟨b', o', ph2, g2, A2, n2, c2, hA, -, hy, hcell2, -, hrow2⟩ := HS0.out.at_ hj2
      injection hA with hA
      injection hA with hA1 hA2
      subst hA1 hA2
      obtain ⟨j, hje⟩ : ∃ j, (k + 1) % n = j := ⟨_, rfl⟩
      rw [hje] at hcell2 hj2 hy
      obtain ⟨e1, e2⟩ := phAt_of hx
      obtain ⟨e3, -⟩ := phAt_of hy
      have hp1 := hpl _ (List.mem_of_getElem? hx)
      simp only at hp1
      rw [hrow.len] at hp1
      have hcu := HCU.out k
      have hcn : cycN t ss ≤ 45 * (ss.length : Nat) := (HCU.out ss.length).2
      obtain ⟨P, hP⟩ : ∃ P, s - cycUp t ss k = P := ⟨_, rfl⟩
      have hGK : greenN t ss s = if P < g then ph else ph.filter fun x => decide (x ∈ ph2) := by
        show greenK t ss s (stg t ss s (ss.length - 1)) = _
        rw [hkk, greenK, e1, e2, hP, HLN.out, hje, e3]
      have hzq := hbb.size
      have q0 := (hbb.cell (p := ⟨w.heap.size, 0, none⟩) hzl).trans K0.out
      have q1 := (hbb.cell (p := ⟨w.heap.size, 1, none⟩) hzl).trans K1.out
      have q2 := (hbb.cell (p := ⟨b, o + k * 2, none⟩) hbl).trans hcell
      have q3 := (hbb.cell (p := ⟨b, o + k * 2 + 1, none⟩) hbl).trans hcellg
      have C2 := Lib.hid (fun (os : Array Obj) (d : Nat) => CB.out k (by omega) (plus wq os d) (by (repeat' (first | (with_reducible exact Below.refl _ _) | (with_reducible assumption) | (with_reducible refine Below.alloc ?_ ?_ _) | (with_reducible refine below_plus ?_ ?_ _ _) | (with_reducible refine Below.drew ?_) | (with_reducible refine Below.setCell ?_ ?_ _) | (with_reducible refine below_adv ?_ ?_ _) | go_size | (simp; done) | (simp; omega)))))
      have s1 : IntKind.i64.wrap (s - cycUp t ss k) = P := by rw [hP]; exact IntWalk.i64_in _ (by omega)
      have i0 : (0 : Int) ≤ (k : Int) := by omega
      have i1 : (k : Int) < (n : Int) := by omega
      have qw1 : w.heap.size < wq.heap.size := by omega
      have qw2 : b < wq.heap.size := by omega
      have R1 := Lib.hid hrow
      have R2 := Lib.hid hrow2
      have X1 := Lib.hid hcell
      have X3 := Lib.hid hcell2
      have HJE := Lib.hid hje
      have HBB := Lib.hid hbb
      have HL1 := Lib.hid hrow.len
      clear hst hkk hx hy hrow hrow2 hcell hcellg hcell2 e1 e2 e3 hje hP hbb HB
      by_cases hlt : P < g
      · have HG := Lib.hid (hGK.trans (if_pos hlt))
        clear hGK
        go_wp2_with fail
        refine wp_region_plus (by kernel_rfl) (by kernel_rfl) ?_; (repeat (go_big_quiet_step ((go_at_call 52; exact quiet_plus (C2.out _ _))))); refine wpQuiet_nil ?_; intro _ hw'; obtain ⟨⟨osq, dq⟩, hw''⟩ := hw'; subst hw''
        obtain ⟨wp, hwp⟩ : ∃ wp, plus wq osq dq = wp := ⟨_, rfl⟩
        rw [hwp]
        have hbp : Below W2.heap.size W2 wp := HBB.out.trans (by rw [← hwp]; (repeat' (first | (with_reducible exact Below.refl _ _) | (with_reducible assumption) | (with_reducible refine Below.alloc ?_ ?_ _) | (with_reducible refine below_plus ?_ ?_ _ _) | (with_reducible refine Below.drew ?_) | (with_reducible refine Below.setCell ?_ ?_ _) | (with_reducible refine below_adv ?_ ?_ _) | go_size | (simp; done) | (simp; omega))))
        have hbp0 := HB0.out.trans (hbp.mono HB0.out.size)
        have hSp := Lib.hid ((R1.out.below hbp).more hbp.size)
        clear hwp hbp q0 q1 q2 q3 s1
        go_wp2_with fail
        go_ret
        exact ⟨_, _, _, rfl, by rw [HG.out]; exact hSp.out, hbp0⟩
      · have HG := Lib.hid (hGK.trans (if_neg hlt))
        clear hGK
        go_wp2_with fail
        refine wp_region_plus (by kernel_rfl) (by kernel_rfl) ?_; (repeat (go_big_quiet_step ((go_at_call 52; exact quiet_plus (C2.out _ _))))); refine wpQuiet_nil ?_; intro _ hw'; obtain ⟨⟨osq, dq⟩, hw''⟩ := hw'; subst hw''
        obtain ⟨wp, hwp⟩ : ∃ wp, plus wq osq dq = wp := ⟨_, rfl⟩
        rw [hwp]
        have hbp : Below W2.heap.size W2 wp := HBB.out.trans (by rw [← hwp]; (repeat' (first | (with_reducible exact Below.refl _ _) | (with_reducible assumption) | (with_reducible refine Below.alloc ?_ ?_ _) | (with_reducible refine below_plus ?_ ?_ _ _) | (with_reducible refine Below.drew ?_) | (with_reducible refine Below.setCell ?_ ?_ _) | (with_reducible refine below_adv ?_ ?_ _) | go_size | (simp; done) | (simp; omega))))
        clear hwp q0 q1 q2 q3 s1
        go_wp2_with fail
        obtain ⟨i0', hi, hi0, hi1, hi2⟩ := info_parts info_int
        go_loopw [7, 42] (fun v i wr => ∃ (q n8 : Nat), q ≤ n1 ∧ i = .int .i64 q ∧ wr.ownsRow W2.heap.size 3 1 v n8 (((ph.take q).filter fun x => decide (x ∈ ph2)).map ILit) ∧ n8 ≤ q ∧ Below W2.heap.size W2 wr) (fun _ i _ => n1 - (intOf i).toNat)
        case atStart => exact ⟨0, 0, by omega, rfl, World.ownsRow_nil _ _ _ _, by omega, hbp⟩
        case round =>
          clear hbp
          obtain ⟨q, n8, hq, rfl, hO, hn8, hb⟩ := hrel
          have hzr := hb.size
          by_cases hqm : q < n1
          · obtain ⟨b1, o1, x, rfl, hb1, hx, hcx⟩ := (R1.out.below hb).at_ hqm
            have hcx' : wr.cell? ⟨b1, o1 + q, none⟩ = some (.int .i64 x) := hcx
            have e0 := (hb.cell (p := ⟨w.heap.size, 0, none⟩) hzl).trans K0.out
            have e1 := (hb.cell (p := ⟨w.heap.size, 1, none⟩) hzl).trans K1.out
            have CN := Lib.hid (next_c At m ct b o n c k j A2 n2 c2 wr (by omega) hkn hn HJE.out ((hb.cell (p := ⟨b, o + j * 2, none⟩) hbl).trans X3.out))
            have HF := Lib.hid (take_snoc hx)
            have HB := Lib.hid hb
            have HO := Lib.hid hO
            clear hcx hx hb hO
            go_wp2_with fail
            clear e0 e1 hcx'
            refine CN.out.mono ?_
            rintro e wa ⟨rfl, hba⟩
            have hbba := HB.out.trans (hba.mono hzr)
            have hOa := own_below HO.out hba
            have cc := contains_c A2 n2 c2 ph2 x wa _ (R2.out.below hbba) hbba.size
            have hza := hbba.size
            cases hu : decide (x ∈ ph2)
            · rw [hu] at cc
              have CC := Lib.hid cc
              have HE : Hid ((ph.take (q + 1)).filter (fun x => decide (x ∈ ph2)) = (ph.take q).filter fun x => decide (x ∈ ph2)) := Lib.hid (by rw [HF.out, List.filter_append, List.filter_cons_of_neg (by simpa using hu)]; simp)
              have HBA := Lib.hid hbba
              clear cc hu hba CN hbba
              go_wp2_with fail
              refine CC.out.mono ?_
              rintro e wc ⟨rfl, hbc⟩
              have hOc := own_below hOa hbc
              have hbbc := HBA.out.trans (hbc.mono hza)
              rw [← HE.out] at hOc
              clear hbc hOa
              go_wp2_with fail
              go_roundw
              case rel => exact ⟨q + 1, n8, by omega, by go_num, hOc, by omega, hbbc⟩
              case measure => simp [intOf]; omega
            · rw [hu] at cc
              have CC := Lib.hid cc
              have HE : Hid ((ph.take (q + 1)).filter (fun x => decide (x ∈ ph2)) = (ph.take q).filter (fun x => decide (x ∈ ph2)) ++ [x]) := Lib.hid (by rw [HF.out, List.filter_append, List.filter_cons_of_pos (by simpa using hu)]; simp)
              have HBA := Lib.hid hbba
              clear cc hu hba CN hbba
              go_wp2_with fail
              refine CC.out.mono ?_
              rintro e wc ⟨rfl, hbc⟩
              have hOc := own_below hOa hbc
              have hbbc := HBA.out.trans (hbc.mono hza)
              have hzc := hbbc.size
              clear hbc hOa
              go_wp2_with (at_builtin; refine wpList_app1 W2 wc rfl _ _ 29 rfl 3 i0' (.int .i64 0) 8 Try.underlying29 hi hi0 hi1 hi2 rfl (by decide) W2.heap.size _ n8 _ (by rfl) hOc _ rfl _ (by rfl) rfl (by omega) hbbc hzc ?_; intro v8 w8 hO8 hb8 hg8)
              rw [ints_snoc, ← HE.out] at hO8
              clear hOc hbbc hg8
              go_roundw
              case rel => exact ⟨q + 1, n8 + 1, by omega, by go_num, hO8, by omega, hb8⟩
              case measure => simp [intOf]; omega
          · obtain rfl : q = n1 := by omega
            rw [List.take_of_length_le (by rw [HL1.out]; exact Nat.le_refl _), ← HG.out] at hO
            obtain ⟨A9, c9, rfl, hW9⟩ := Ow.of_own hO
            have hS9 := Lib.hid hW9.sl
            have hbb := HB0.out.trans (hb.mono HB0.out.size)
            clear hO hb hW9
            go_wp2_with fail
            go_ret
            exact ⟨_, _, _, rfl, hS9.out, hbb⟩
    · obtain ⟨k', rfl⟩ : ∃ k', k = k' + 1 := by
        cases k with
        | zero => exact absurd hs0 hck
        | succ k => exact ⟨k, rfl⟩
      have hst2 : Hid (stg t ss s (ss.length - 1) = stg t ss s k') := Lib.hid (hst.out.trans (stg_down hck))
      go_wp2_with fail
      go_roundw
      case rel => exact ⟨k', by omega, by go_num, hst2, hbb⟩
      case measure => simp [intOf]
end Go.Proofs.Ytckohbjgogbfaaa
