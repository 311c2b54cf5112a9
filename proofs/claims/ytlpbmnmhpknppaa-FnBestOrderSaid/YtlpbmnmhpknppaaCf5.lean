/- The closure of BestOrder, walked: by induction on the depth. -/
import Derived.Test.YtlpbmnmhpknppaaCf4
import Derived.Test.YtlpbmnmhpknppaaPe
import Derived.Test.YtlpbmnmhpknppaaPd
import Derived.Test.YtlpbmnmhpknppaaBb
set_option linter.unusedVariables false
set_option linter.unusedSimpArgs false
namespace Go.Proofs.Ytlpbmnmhpknppaa
open Go.RowKit

def ExtOf (gT gL gB gM gE lo : Nat) (vT vL : Value) (t list : List (List Int)) (w : World) (b' : List Int) (e : Ending) (w' : World) : Prop :=
  e = .returned (.tuple #[]) ∧ Ch gB gM w w' ∧ BoSt w' gT gL gB gM gE lo vT vL t list b'
theorem leastO_ne {t list : List (List Int)} {b : List Int} (h : b ≠ []) : leastO t list b = lostN t (arrL list b) := by simp [leastO, h]

set_option maxHeartbeats 8000000 in
theorem extend_c (gT gL gB gM gE lo top : Nat) (hBM : gB ≠ gM) (hTB : gT ≠ gB) (hTM : gT ≠ gM) (hLB : gL ≠ gB) (hLM : gL ≠ gM) (hEB : gE ≠ gB) (hEM : gE ≠ gM) (hBl : gB < lo) (hMl : gM < lo) (hhB : top ≤ gB) (hhM : top ≤ gM)
    (At : Option Addr) (m ct : Nat) (t : List (List Int)) (A2 : Option Addr) (n c2 : Nat) (list : List (List Int)) (hr : ringB t list = true) (hm : t.length = m) (hln : list.length = n) :
    ∀ (d : Nat) (Ao : Option Addr) (k co : Nat) (o : List Int) (vP : Value) (w : World) (b : List Int), BoSt w gT gL gB gM gE lo (.slice At m ct) (.slice A2 n c2) t list b → Ow w lo 3 ILit Ao k co o → Shr w lo top 35 ILit vP k (arrL list o) →
      Sl2 w top ILit At m ct t → Sl2 w top ILit A2 n c2 list → top ≤ w.heap.size → lo ≤ w.heap.size → k + d = n → isOrd n o → 1 ≤ k →
      Calls Try.prog 67 #[.slice Ao k co, vP, .pointer (some ⟨gL, 0, none⟩), .pointer (some ⟨gT, 0, none⟩), .pointer (some ⟨gB, 0, none⟩), .pointer (some ⟨gM, 0, none⟩), .pointer (some ⟨gE, 0, none⟩)] w (ExtOf gT gL gB gM gE lo (.slice At m ct) (.slice A2 n c2) t list w ((ordL n d o).foldl (betterO t list) b)) := by
  obtain ⟨hok, hic⟩ := ringB_inC hr
  have HSQ := Lib.hid (cOk_iff.1 hok).2.2.1
  have HIC := Lib.hid hic
  have hin := ringB_in hr
  rw [hm] at hin
  have HIN := Lib.hid hin
  have h5 := (ringB_iff.1 hr).1.2
  rw [hln] at h5
  have HLN := Lib.hid hln
  clear hok hic hin hr hm hln
  intro d
  induction d with
  | zero =>
    intro Ao k co o vP w b hSt hO hP hT hL hhs hls hkd hord hk1
    obtain rfl : k = n := by omega
    have hmem : ∀ p ∈ arrL list o, p ∈ list := arrL_mem (by rw [HLN.out]; exact hord.2)
    have hon : o ≠ [] := fun e => by
      have := hO.len
      rw [e] at this
      simp at this
      omega
    obtain ⟨AP, cP, rfl, hPS⟩ := hP.sl2 hhs
    have C1' := lostOf_c At m ct t AP k cP (arrL list o) w _ (hT.more hhs) hPS (Nat.le_refl _) HSQ.out (fun p hp => HIN.out p (hmem p hp)) HIC.out (by omega)
    obtain ⟨g, cs, rfl, hg1, hg2, hg3⟩ := hO.2.2.2 (by omega)
    have hSt0 := hSt
    obtain ⟨q1, q2, ⟨Ab, nb, cb, q3, q4, q5⟩, q6, q7⟩ := hSt0
    have cL := cell_of_one q2
    have cT := cell_of_one q1
    obtain ⟨X, hX⟩ : ∃ X, lostN t (arrL list o) = X := ⟨_, rfl⟩
    rw [hX] at C1'
    have C1 := Lib.hid C1'
    have hkk : (k == k) = true := by simp
    have HX := Lib.hid hX
    have HST := Lib.hid hSt
    have HO := Lib.hid hO
    have HON := Lib.hid hon
    have qB := lt_of_heap q3
    have qM := lt_of_heap q6
    have cB := cell_of_one q3
    have cM := cell_of_one q6
    have fB := free_of_one q3
    have fM := free_of_one q6
    have CB := Lib.hid cB
    have CM := Lib.hid cM
    have FB := Lib.hid fB
    have FM := Lib.hid fM
    have HQ5 := Lib.hid q5
    have HQ4 := Lib.hid q4
    clear C1' hPS hP hT hL hX hSt q1 q2 q3 q5 q6 q7 cB cM fB fM hg2 hg3 hO hmem hon hord q4
    have hfin : Hid (∀ w1, Below w.heap.size w w1 → ∀ A5 c5, Ow w1 lo 3 ILit A5 k c5 o → betterO t list b o = o → ∀ w2, w2 = (w1.setCell ⟨gB, 0, none⟩ (.slice A5 k c5)).setCell ⟨gM, 0, none⟩ (.int .i64 X) → Ch gB gM w w2 ∧ BoSt w2 gT gL gB gM gE lo (.slice At m ct) (.slice A2 k c2) t list ((ordL k 0 o).foldl (betterO t list) b)) := Lib.hid fun w1 hb A5 c5 hO5 hbo w2 hw2 => by
      subst hw2
      refine ⟨((Ch.of hb).trans (Ch.setB w1 _)).trans (Ch.setM _ _), ?_⟩
      have := (HST.out.below hb).set hO5 HON.out hBM hTB hTM hLB hLM hEB hEM hBl hMl
      rw [HX.out] at this
      simpa [ordL, hbo] using this
    by_cases hbn : b = []
    · have hA := HQ5.out hbn
      subst hA
      have HBO : Hid (betterO t list b o = o) := Lib.hid (by simp [betterO, hbn])
      have hq := fun w' => Lib.run_eql_slice_nil (P := Try.prog) w' 35 3 none nb cb 0 0 Try.underlying35
      clear hbn
      go_enter Try.func67, Try.ntmps67
      go_wp2_with fail
      refine C1.out.mono ?_
      rintro e w1 ⟨rfl, hb1⟩
      have hz1 := hb1.size
      have cB1 := (hb1.cell (p := ⟨gB, 0, none⟩) qB).trans CB.out
      have C2 := Lib.hid (cloneI_c _ k co o w1 _ ((HO.out.sl.below hb1)) hz1 (by omega))
      go_wp2_with fail
      refine C2.out.mono ?_
      rintro e w2 ⟨v2, rfl, hO2, hb2⟩
      obtain ⟨A5, c5, rfl, hW2⟩ := Ow.of_own hO2
      have hb02 := hb1.trans (hb2.mono hz1)
      have cB2 := (hb02.cell (p := ⟨gB, 0, none⟩) qB).trans CB.out
      have cM2 := (hb02.cell (p := ⟨gM, 0, none⟩) qM).trans CM.out
      have fB2 := (hb02.frozen (p := ⟨gB, 0, none⟩) qB).trans FB.out
      have fM2 := (hb02.frozen (p := ⟨gM, 0, none⟩) qM).trans FM.out
      have HF := Lib.hid (hfin.out w2 hb02 A5 c5 (hW2.mono (by omega)) HBO.out _ rfl)
      clear cB1 C2 hO2 hb2 hb1 hq
      go_wp2_with fail
      go_end0
      exact ⟨rfl, HF.out⟩
    · have hnb : ∃ a, Ab = some a := by
        obtain ⟨g', cs', hA', -⟩ := HQ4.out.2.2.2 (by rw [← HQ4.out.len]; exact List.length_pos_iff.2 hbn)
        exact ⟨_, hA'⟩
      obtain ⟨ab, rfl⟩ := hnb
      have hle := leastO_ne (t := t) (list := list) hbn
      obtain ⟨Y, hY⟩ : ∃ Y, lostN t (arrL list b) = Y := ⟨_, rfl⟩
      have HBO : Hid (betterO t list b o = if X < Y then o else b) := Lib.hid (by simp [betterO, hbn, HX.out, hY])
      rw [hle, hY] at CM
      have hq := fun w' => Lib.run_eql_slice_nil (P := Try.prog) w' 35 3 (some ab) nb cb 0 0 Try.underlying35
      clear hbn hle hY
      by_cases hXY : X < Y
      · have HBO2 := Lib.hid (HBO.out.trans (if_pos hXY))
        go_enter Try.func67, Try.ntmps67
        go_wp2_with fail
        refine C1.out.mono ?_
        rintro e w1 ⟨rfl, hb1⟩
        have hz1 := hb1.size
        have cB1 := (hb1.cell (p := ⟨gB, 0, none⟩) qB).trans CB.out
        have cM1 := (hb1.cell (p := ⟨gM, 0, none⟩) qM).trans CM.out
        have C2 := Lib.hid (cloneI_c _ k co o w1 _ ((HO.out.sl.below hb1)) hz1 (by omega))
        go_wp2_with fail
        refine C2.out.mono ?_
        rintro e w2 ⟨v2, rfl, hO2, hb2⟩
        obtain ⟨A5, c5, rfl, hW2⟩ := Ow.of_own hO2
        have hb02 := hb1.trans (hb2.mono hz1)
        have cB2 := (hb02.cell (p := ⟨gB, 0, none⟩) qB).trans CB.out
        have cM2 := (hb02.cell (p := ⟨gM, 0, none⟩) qM).trans CM.out
        have fB2 := (hb02.frozen (p := ⟨gB, 0, none⟩) qB).trans FB.out
        have fM2 := (hb02.frozen (p := ⟨gM, 0, none⟩) qM).trans FM.out
        have HF := Lib.hid (hfin.out w2 hb02 A5 c5 (hW2.mono (by omega)) HBO2.out _ rfl)
        clear cB1 cM1 C2 hO2 hb2 hb1 hq
        go_wp2_with fail
        go_end0
        exact ⟨rfl, HF.out⟩
      · have HBO2 := Lib.hid (HBO.out.trans (if_neg hXY))
        go_enter Try.func67, Try.ntmps67
        go_wp2_with fail
        refine C1.out.mono ?_
        rintro e w1 ⟨rfl, hb1⟩
        have cB1 := (hb1.cell (p := ⟨gB, 0, none⟩) qB).trans CB.out
        have cM1 := (hb1.cell (p := ⟨gM, 0, none⟩) qM).trans CM.out
        go_wp2_with fail
        go_end0
        exact ⟨rfl, Ch.of hb1, by simpa [ordL, HBO2.out] using HST.out.below hb1⟩
  | succ d ih =>
    intro Ao k co o vP w b hSt hO hP hT hL hhs hls hkd hord hk1
    obtain ⟨i0, hi, hi0, hi1, hi2⟩ := info_parts info_int
    obtain ⟨i1, hj, hj0, hj1, hj2⟩ := info_parts info_rowI
    obtain ⟨hc0, hc1⟩ := hL.cap
    have hkne : (k == n) = false := by simp; omega
    have hkne4 : ((k : Int) == (n : Int)) = false := by simp; omega
    have hkne3 : ¬ k = n := by omega
    obtain ⟨q1, q2, -, -, -⟩ := id hSt
    have cL := cell_of_one q2
    have HORD := Lib.hid hord
    have HOL := Lib.hid hO.len
    obtain ⟨g, cs, hAo, -⟩ := hO.2.2.2 (by omega)
    subst hAo
    obtain ⟨vsP, hP1, hP2⟩ := hP
    have hvP : ∃ aP cP, vP = .slice (some aP) k cP := by
      obtain ⟨A, c, e1, e2⟩ := own_sl (f := id) (xs := vsP) (by simpa using hP1)
      obtain ⟨bb, oo, hA, -⟩ := e2.2.2.2 (by omega)
      exact ⟨_, c, by rw [e1, hA]⟩
    obtain ⟨aP, cP, rfl⟩ := hvP
    have hSh : Shr w lo top 35 ILit (.slice (some aP) k cP) k (arrL list o) := ⟨vsP, hP1, hP2⟩
    have HTR := Lib.hid hP2.tripled
    clear q1 q2 hord hP1 hP2
    go_enter Try.func67, Try.ntmps67
    go_wp2_with fail
    go_loopw [32] (fun i wr => ∃ (j : Nat) (b' : List Int), j ≤ n ∧ i = .int .i64 j ∧ Hid (b' = (ordUp n d o j).foldl (betterO t list) b) ∧ BoSt wr gT gL gB gM gE lo (.slice At m ct) (.slice A2 n c2) t list b' ∧ Ch gB gM w wr) (fun i _ => n - (intOf i).toNat)
    case atStart => exact ⟨0, b, by omega, rfl, Lib.hid rfl, hSt, Ch.refl _ _ _⟩
    case round =>
      clear hSt cL
      obtain ⟨j, b', hjn, rfl, hbF, hSt, hch⟩ := hrel
      have hzr := hch.size
      have hbh := hch.below hhB hhM hhs
      have hOr := hO.ch hch hBl hMl
      have hShr := hSh.ch hch hBl hMl hhB hhM hhs
      have hTr := hT.below hbh
      have hLr := hL.below hbh
      by_cases hlt : j < n
      · obtain ⟨bL, oL, xs, A3, n3, c3, rfl, hbL, hx, hcell, hrow⟩ := hLr.at_ hlt
        have hcell' : wr.cell? ⟨bL, oL + j, none⟩ = some (.slice A3 n3 c3) := hcell
        have CC := Lib.hid (contains_c _ k co o (j : Int) wr _ hOr.sl (Nat.le_refl _))
        have hj0' : (0 : Int) ≤ (j : Int) := by omega
        have hj1' : (j : Int) < (n : Int) := by omega
        by_cases hin : (j : Int) ∈ o
        · rw [decide_eq_true hin] at CC
          have HN := Lib.hid (ordUp_in (n := n) (d := d) hin)
          clear hcell hx
          go_wp2_with fail
          refine CC.out.mono ?_
          rintro e w1 ⟨rfl, hb1⟩
          go_wp2_with fail
          go_roundw
          case rel => exact ⟨j + 1, b', by omega, by go_num, Lib.hid (by rw [HN.out, ← hbF.out]), hSt.below hb1, hch.trans (Ch.of hb1)⟩
          case measure => simp [intOf]; omega
        · rw [decide_eq_false hin] at CC
          have HN := Lib.hid (ordUp_out (n := n) (d := d) hin)
          have HA := Lib.hid (arrL_snoc list o hx)
          have HRW := Lib.hid hrow
          have HOR2 := Lib.hid (isOrd_snoc HORD.out hlt hin)
          have HST := Lib.hid hSt
          obtain ⟨-, -, -, -, q7⟩ := hSt
          have cE := cell_of_one q7
          have qE := lt_of_heap q7
          obtain ⟨vs, hs1, hs2⟩ := hShr
          have hsv : Sl wr wr.heap.size id (some aP) k cP vs := by
            obtain ⟨A, c, e1, e2⟩ := own_sl (f := id) (xs := vs) (by simpa using hs1)
            injection e1 with e1 e1' e1''
            subst e1 e1''
            exact e2
          have HS2 := Lib.hid hs2
          have CL1 := Lib.hid (fun w' (hw : Below wr.heap.size wr w') => cloneI_c _ k co o w' _ (hOr.sl.below hw) hw.size (by omega))
          have CL2 := Lib.hid (fun w' (hw : Below wr.heap.size wr w') => cloneS_c aP k cP vs w' _ (hsv.below hw) hs2.tripled hw.size (by omega))
          have IH := Lib.hid ih
          have HTR2 := Lib.hid hTr
          have HLR2 := Lib.hid hLr
          clear hcell hx hrow hin hs1 hs2 hsv hTr hLr hOr q7 hbh hO hSh hT hL
          go_wp2_with fail
          refine CC.out.mono ?_
          rintro e w1 ⟨rfl, hb1⟩
          have hz1 := hb1.size
          have cE1 := (hb1.cell (p := ⟨gE, 0, none⟩) qE).trans cE
          clear CC cE
          go_wp2_with fail
          go_region_held3 (fun w' => w'.cell? ⟨gE, 0, none⟩ = some (.func (.func 67) #[] #[.pointer (some ⟨gL, 0, none⟩), .pointer (some ⟨gT, 0, none⟩), .pointer (some ⟨gB, 0, none⟩), .pointer (some ⟨gM, 0, none⟩), .pointer (some ⟨gE, 0, none⟩)])) (first | go_keep | (exact kE2) | (exact kE3) | (exact kE4) | (exact kE5) | (exact kE6))
            (first | (go_at_call 68; refine (CL1.out _ (by (repeat' (first | (with_reducible exact Below.refl _ _) | (with_reducible assumption) | (with_reducible refine Below.alloc ?_ ?_ _) | (with_reducible refine below_plus ?_ ?_ _ _) | (with_reducible refine Below.drew ?_) | (with_reducible refine Below.setCell ?_ ?_ _) | (with_reducible refine below_adv ?_ ?_ _) | go_size | (simp; done) | (simp; omega))))).mono ?_; rintro e w2 ⟨v2, rfl, hO2, hb2⟩; have kc2 := fun (b o : Nat) (h : b < _) => hb2.cell (p := ⟨b, o, none⟩) h; have lt2 := hO2.lt; have hgz2 := hb2.size; (try simp at hgz2); have hb12 : Below w1.heap.size w1 w2 := Below.trans (by (repeat' (first | (with_reducible exact Below.refl _ _) | (with_reducible assumption) | (with_reducible refine Below.alloc ?_ ?_ _) | (with_reducible refine below_plus ?_ ?_ _ _) | (with_reducible refine Below.drew ?_) | (with_reducible refine Below.setCell ?_ ?_ _) | (with_reducible refine below_adv ?_ ?_ _) | go_size | (simp; done) | (simp; omega)))) (hb2.mono (by (first | (simp; done) | (simp; omega) | omega))); have hO2' := own_mono hO2 (show w1.heap.size ≤ _ by (first | (simp; done) | (simp; omega) | omega)); have hz2 := hb12.size; have kE2 := (hb12.cell (p := ⟨gE, 0, none⟩) (show gE < w1.heap.size by omega)).trans cE1) | (go_at_call 70; refine (CL2.out _ (by (repeat' (first | (with_reducible exact Below.refl _ _) | (with_reducible assumption) | (with_reducible refine Below.alloc ?_ ?_ _) | (with_reducible refine below_plus ?_ ?_ _ _) | (with_reducible refine Below.drew ?_) | (with_reducible refine Below.setCell ?_ ?_ _) | (with_reducible refine below_adv ?_ ?_ _) | go_size | (simp; done) | (simp; omega))))).mono ?_; rintro e w4 ⟨v4, rfl, hO4, hb4⟩; have hgz4 := hb4.size; (try simp at hgz4); have kc4 := fun (b o : Nat) (h : b < _) => hb4.cell (p := ⟨b, o, none⟩) h; have hb34 : Below w3.heap.size w3 w4 := Below.trans (by (repeat' (first | (with_reducible exact Below.refl _ _) | (with_reducible assumption) | (with_reducible refine Below.alloc ?_ ?_ _) | (with_reducible refine below_plus ?_ ?_ _ _) | (with_reducible refine Below.drew ?_) | (with_reducible refine Below.setCell ?_ ?_ _) | (with_reducible refine below_adv ?_ ?_ _) | go_size | (simp; done) | (simp; omega)))) (hb4.mono (by (first | (simp; done) | (simp; omega) | omega))); have hO4' := own_mono hO4 (show w3.heap.size ≤ _ by (first | (simp; done) | (simp; omega) | omega)); have hz4 := hb34.size; have hb14 := hb3.trans (hb34.mono hz3); have kE4 := (hb14.cell (p := ⟨gE, 0, none⟩) (show gE < w1.heap.size by omega)).trans cE1) | (go_at_call 67; refine (IH.out A6 (k + 1) c6 _ v5 w5 b' (HST.out.below hbr5) hW6 ⟨_, own_mono hO5 (show lo ≤ w3.heap.size by omega), hR5⟩ (HTR2.out.below (hbr5.mono (show top ≤ wr.heap.size by omega))) (HLR2.out.below (hbr5.mono (show top ≤ wr.heap.size by omega))) (by omega) (by omega) (by omega) HOR2.out (by omega)).mono ?_; rintro e w6 ⟨rfl, hch6, hst6⟩; have kE6 := cell_of_one hst6.2.2.2.2) | (refine step_app1 w1 _ (by rfl) (.tmp 43) (.tmp 45) 35 (by rfl) 3 i0 (.int .i64 0) 8 Try.underlying35 hi hi0 hi1 hi2 rfl (by decide) w1.heap.size v2 k (o.map ILit) (by rfl) ?_ (.int .i64 j) rfl _ (by rfl) ?_ (by omega) ?_ ?_ ?_; (focus (first | exact hO2' | exact hO2'.alloc _ | exact (hO2'.alloc _).alloc _)); (focus ((repeat (first | (exact cell_new _ _ _) | (exact cell_two1 _ _ _ _) | (exact cell_two0 _ _ _ _) | (refine (World.cell?_alloc_lt _ _ _ ?_).trans ?_; (focus ((first | (simp; done) | (simp; omega) | omega)))) | (refine (kc2 _ _ ?_).trans ?_; (focus ((first | (simp; done) | (simp; omega) | omega)))))))); (focus ((repeat' (first | (with_reducible exact Below.refl _ _) | (with_reducible assumption) | (with_reducible refine Below.alloc ?_ ?_ _) | (with_reducible refine below_plus ?_ ?_ _ _) | (with_reducible refine Below.drew ?_) | (with_reducible refine Below.setCell ?_ ?_ _) | (with_reducible refine below_adv ?_ ?_ _) | go_size | (simp; done) | (simp; omega))))); (focus (first | exact hz2 | (simp; omega))); intro v3 w3 hO3 hb3 hg3; have hgz3 := hg3.size; (try simp at hgz3); have hz3 := hb3.size; have hb13 := hb1.trans (hb3.mono hz1); have kE3 := (hb3.cell (p := ⟨gE, 0, none⟩) (show gE < w1.heap.size by omega)).trans cE1) | (refine step_app1 w3 _ (by rfl) (.tmp 48) (.tmp 50) 22 (by rfl) 35 i1 (.slice none 0 0) 24 Try.underlying22 hj hj0 hj1 hj2 rfl (by decide) w3.heap.size v4 k vs (by rfl) ?_ (.slice A3 n3 c3) rfl _ (by rfl) ?_ (by omega) ?_ ?_ ?_; (focus (first | exact hO4' | exact hO4'.alloc _)); (focus ((repeat (first | (exact cell_new _ _ _) | (exact cell_two1 _ _ _ _) | (exact cell_two0 _ _ _ _) | (refine (World.cell?_alloc_lt _ _ _ ?_).trans ?_; (focus ((first | (simp; done) | (simp; omega) | omega)))) | (refine (kc4 _ _ ?_).trans ?_; (focus ((first | (simp; done) | (simp; omega) | omega)))) | (refine hg3.cell ?_ ?_; rotate_left; (focus (intro e9; have hlt9 := lt2 _ e9.symm; (try dsimp only at hlt9); (first | omega | (simp at hlt9; done) | (simp at hlt9; omega))))) | (refine (kc2 _ _ ?_).trans ?_; (focus ((first | (simp; done) | (simp; omega) | omega)))))))); (focus ((repeat' (first | (with_reducible exact Below.refl _ _) | (with_reducible assumption) | (with_reducible refine Below.alloc ?_ ?_ _) | (with_reducible refine below_plus ?_ ?_ _ _) | (with_reducible refine Below.drew ?_) | (with_reducible refine Below.setCell ?_ ?_ _) | (with_reducible refine below_adv ?_ ?_ _) | go_size | (simp; done) | (simp; omega))))); (focus (first | exact hz4 | (simp; omega))); intro v5 w5 hO5 hb5 hg5; have hz5 := hb5.size; have hb15 := hb3.trans (hb5.mono hz3); have kE5 := (hb15.cell (p := ⟨gE, 0, none⟩) (show gE < w1.heap.size by omega)).trans cE1; rw [ints_snoc] at hO3; have hO35 := own_mono (own_below hO3 hb5) (show lo ≤ w1.heap.size by omega); obtain ⟨A6, c6, rfl, hW6⟩ := Ow.of_own hO35; have hbr5 := hb1.trans (hb15.mono hz1); have hR5 := (HS2.out.app (Rsl.one HRW.out)).below (hbr5.mono (show top ≤ wr.heap.size by omega)); rw [← HA.out] at hR5) | fail)
          all_goals
            have hch7 := hch.trans ((Ch.of hbr5).trans hch6)
            clear hb13 hO2 hb2 kc2 lt2 hO2' hO3 hb3 hg3 hO4 hb4 kc4 hO4' hO5 hb5 hg5 hch6 hW6 hR5 hO35
            go_wp2_with fail
            go_roundw
            case rel => exact ⟨j + 1, _, by omega, by go_num, Lib.hid (by rw [HN.out, List.foldl_append, ← hbF.out]), hst6, hch7⟩
            case measure => simp [intOf]; omega
      · obtain rfl : j = n := by omega
        have hE := hbF.out
        rw [ordUp_all] at hE
        have HE := Lib.hid hE
        clear hE
        go_wp2_with fail
        go_end0
        exact ⟨rfl, hch, by rw [← HE.out]; exact hSt⟩
end Go.Proofs.Ytlpbmnmhpknppaa
