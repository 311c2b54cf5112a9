/- The closure of BestShare, walked: by induction on the calls left. -/
import Derived.Test.YtillmnhhkhjpkaaSd2
set_option linter.unusedVariables false
set_option linter.unusedSimpArgs false
namespace Go.Proofs.Ytillmnhhkhjpkaa
open Go.RowKit

def upS (nc : Nat) (cs : List (Int × Int)) (f : Flt) (sh : List Nat) (S : Best) (j : Nat) : Best := (List.range j).foldl (fun S car => srch nc cs (f.serve car (cs.headD (0, 0))) (sh ++ [car]) S) S
theorem drop_map {cs : List CallT} {k : Nat} {c : CallT} (h : cs[k]? = some c) : (cs.drop k).map prC = prC c :: (cs.drop (k + 1)).map prC := by
  obtain ⟨hl, e⟩ := List.getElem?_eq_some_iff.1 h
  rw [List.drop_eq_getElem_cons hl, e]; rfl
def rndS (nc : Nat) (cs : List (Int × Int)) (c : Int × Int) (f : Flt) (sh : List Nat) (S : Best) (j : Nat) : Best := (List.range j).foldl (fun S car => srch nc cs (f.serve car c) (sh ++ [car]) S) S
theorem rndS_step (nc : Nat) (cs : List (Int × Int)) (c : Int × Int) (f : Flt) (sh : List Nat) (S : Best) (j : Nat) : rndS nc cs c f sh S (j + 1) = srch nc cs (f.serve j c) (sh ++ [j]) (rndS nc cs c f sh S j) := by
  unfold rndS; rw [List.range_succ, List.foldl_append]; rfl
theorem srch_go {nc : Nat} {cs : List (Int × Int)} {c : Int × Int} {f : Flt} {sh : List Nat} {S : Best} (h : prn S f = false) : srch nc (c :: cs) f sh S = rndS nc cs c f sh S nc := by
  rw [srch, h]; rfl
theorem srch_cut {nc : Nat} {cs : List (Int × Int)} {f : Flt} {sh : List Nat} {S : Best} (h : prn S f = true) : srch nc cs f sh S = S := by
  cases cs with
  | nil => rw [srch, h]; rfl
  | cons c cs => rw [srch, h]; rfl
theorem set_take {xs : List Nat} {k j : Nat} (hk : k < xs.length) : (xs.set k j).take (k + 1) = xs.take k ++ [j] := by
  rw [take_snoc (x := j) (by rw [List.getElem?_set_self hk]), List.take_set_of_le (Nat.le_refl _)]
theorem take_snoc' {xs l : List Nat} {k j : Nat} (h : xs.take (k + 1) = l ++ [j]) (hl : l.length = k) : xs.take k = l := by
  have h2 : (xs.take (k + 1)).take k = xs.take k := by rw [List.take_take]; congr 1; omega
  rw [← h2, h, List.take_append_of_le_length (by omega), List.take_of_length_le (by omega)]
set_option maxRecDepth 4000 in
set_option maxHeartbeats 8000000 in
theorem search_c (gC gT gB gM gR gS gE lo top : Nat) (hr : Row7 gC gT gB gM gR gS gE lo) (Ac : Option Addr) (nc cc : Nat) (A2 : Option Addr) (n c2 : Nat) (cs : List CallT) (hn : n ≤ 6) (hnc : nc ≤ 3) (htop : top ≤ gB) (hok : ∀ c ∈ cs, (0 ≤ c.1 ∧ c.1 ≤ 15) ∧ (0 ≤ c.2.1 ∧ c.2.1 ≤ 15)) :
    ∀ (d : Nat) (f : Flt) (k : Nat) (kI : Int) (w : World) (S : Best) (xs : List Nat), f.small (2000000 * k) → kI = k → k + d = n → ShSt w gC gT gB gM gR gS gE lo (.slice Ac nc cc) (.slice A2 n c2) n S xs → SlC w top A2 n c2 cs → lo ≤ w.heap.size →
    Calls Try.prog 12 #[f.v, .int .i64 kI, .pointer (some ⟨gM, 0, none⟩), .pointer (some ⟨gT, 0, none⟩), .pointer (some ⟨gS, 0, none⟩), .pointer (some ⟨gB, 0, none⟩), .pointer (some ⟨gC, 0, none⟩), .pointer (some ⟨gE, 0, none⟩)] w (SrcOf gC gT gB gM gR gS gE lo (.slice Ac nc cc) (.slice A2 n c2) n w k (xs.take k) (srch nc ((cs.drop k).map prC) f (xs.take k) S)) := by
  intro d
  induction d with
  | zero =>
    intro f k kI w S xs hf hkI hkd hSt hL hlo
    obtain rfl : k = n := by omega
    have hl := hL.len
    obtain ⟨-, -, -, -, h6, -⟩ := id hSt
    have h := search0_c gC gT gB gM gR gS gE lo hr Ac nc cc A2 k c2 hn f _ hf w S xs hSt hlo kI hkI
    rw [List.take_of_length_le (by rw [h6.len]; exact Nat.le_refl _), List.drop_of_length_le (by rw [hl]; exact Nat.le_refl _), List.map_nil]
    exact h
  | succ d ih =>
    intro f k kI w S xs hf hkI hkd hSt hL hlo
    subst hkI
    obtain ⟨b, o, x, y, z, rfl, hbl, hx, q1, q2, q3⟩ := hL.at_ (show k < n by omega)
    obtain ⟨⟨x0, x1⟩, y0, y1⟩ := hok _ (List.mem_of_getElem? hx)
    dsimp only at x0 x1 y0 y1
    obtain ⟨h1, h2, ⟨Ab, nb, cb, h3, h4⟩, h5, h6, h7, h8, h9⟩ := id hSt
    have cM := cell_of_one h5
    have qM := lt_of_heap h5
    have hxl := h6.len
    have HST := Lib.hid hSt
    have HD := Lib.hid (drop_map hx)
    have hcap := hL.cap
    have HL := Lib.hid hL
    have HQ := Lib.hid (And.intro q1 (And.intro q2 q3))
    have HF := Lib.hid hf
    have cT := cell_of_one h2
    have qT := lt_of_heap h2
    have hkne : ((k : Int) == (n : Int)) = false := by simp; omega
    have hkne3 : ¬ k = n := by omega
    have hkne4 : ¬ (k : Int) = (n : Int) := by omega
    rw [HD.out]
    obtain ⟨R, hR⟩ : ∃ R, (cs.drop (k + 1)).map prC = R := ⟨_, rfl⟩
    rw [hR] at HD ⊢
    have cC := cell_of_one h1
    have qC := lt_of_heap h1
    have IH := Lib.hid ih
    have HR := Lib.hid hr
    clear ih h1 h2 h3 h4 h5 h6 h7 h8 q1 q2 q3 hx hL hSt hf
    cases S with
    | none =>
      have hprn : prn none f = false := rfl
      have cM1 : w.cell? ⟨gM, 0, none⟩ = some (.int .i64 (-1)) := cM
      clear cM h9
      go_enter Try.func12, Try.ntmps12
      go_wp2_with fail
      refine wp_region_plus (by kernel_rfl) (by kernel_rfl) ?_; (repeat (go_big_quiet_step (fail))); refine wpQuiet_nil ?_; intro _ hw'; obtain ⟨⟨osq, dq⟩, hw''⟩ := hw'; subst hw''
      go_wp2_with fail
      have HG := Lib.hid (srch_go (nc := nc) (cs := R) (c := prC (x, y, z)) (sh := xs.take k) (show prn none f = false from hprn))
      rw [HG.out]
      obtain ⟨wB, hwB⟩ : ∃ wB, plus (w.alloc (.cells #[.int .i64 (f.at_ 0), .int .i64 (f.at_ 1), .int .i64 (f.at_ 2), .int .i64 (f.way 0), .int .i64 (f.way 1), .int .i64 (f.way 2)] 37)) osq dq = wB := ⟨_, rfl⟩
      rw [hwB]
      have hbB : Below w.heap.size w wB := by rw [← hwB]; (repeat' (first | (with_reducible exact Below.refl _ _) | (with_reducible assumption) | (with_reducible refine Below.alloc ?_ ?_ _) | (with_reducible refine below_plus ?_ ?_ _ _) | (with_reducible refine Below.drew ?_) | (with_reducible refine Below.setCell ?_ ?_ _) | (with_reducible refine below_adv ?_ ?_ _) | go_size | (simp; done) | (simp; omega)))
      have hbox : wB.heap[w.heap.size]? = some (.cells #[.int .i64 (f.at_ 0), .int .i64 (f.at_ 1), .int .i64 (f.at_ 2), .int .i64 (f.way 0), .int .i64 (f.way 1), .int .i64 (f.way 2)] 37 (0, 0)) := by
        rw [← hwB, heap_plus _ _ _ _ (by simp)]; exact heap_alloc_new w _
      have hstB := HST.out.below hbB
      clear hwB cM1 cT cC
      go_loopw [29] (fun i wr => ∃ (j : Nat) (S' : Best) (xs' : List Nat), j ≤ nc ∧ i = .int .i64 j ∧ Hid (S' = rndS nc R (prC (x, y, z)) f (xs.take k) none j) ∧ Hid (xs'.take k = xs.take k) ∧ ShSt wr gC gT gB gM gR gS gE lo (.slice Ac nc cc) (.slice (some ⟨b, o, none⟩) n c2) n S' xs' ∧ Ch gM gB gR wB wr) (fun i _ => nc - (intOf i).toNat)
      case atStart => exact ⟨0, none, xs, by omega, rfl, Lib.hid rfl, Lib.hid rfl, hstB, Ch.refl _ _ _ _⟩
      case round =>
        clear hstB
        obtain ⟨j, S', xs', hjn, rfl, hSF, hxF, hSt, hch⟩ := hrel
        obtain ⟨r1, r2, r3, r4, r5, r6, r7⟩ := HR.out
        have hzr := hch.size
        have hzB := hbB.size
        by_cases hlt : j < nc
        · have hbt : Below top w wr := (hbB.mono (by omega)).trans (hch.below (by omega) (by omega) (by omega) (by omega))
          obtain ⟨h1, h2, -, h5, h6, h7, h8, h9⟩ := id hSt
          have hxl' := h6.len
          obtain ⟨u, hu⟩ : ∃ u, xs'[k]? = some u := ⟨_, List.getElem?_eq_getElem (by omega)⟩
          obtain ⟨p1, p2, p3, p4⟩ := h6.cell_ hu
          have cS := cell_of_one h7
          have hst1 := hSt.put HR.out (show k < n by omega) j
          have hstk := set_take (xs := xs') (k := k) (j := j) (by omega)
          rw [hxF.out] at hstk
          have HTK := Lib.hid hstk
          have hchp : Ch gM gB gR wr (wr.setCell ⟨gR, k, none⟩ (.int .i64 (j : Int))) := Ch.set wr gR k _ (.inr (.inr rfl))
          have hL1 := Lib.hid ((HL.out.below hbt).below (hchp.below (by omega) (by omega) (by omega) (by omega)))
          have hbx := (hch.2.2.2.2 w.heap.size (lt_of_heap hbox) (by omega) (by omega) (by omega)).trans hbox
          have hbx1 := (hchp.2.2.2.2 w.heap.size (lt_of_heap hbx) (by omega) (by omega) (by omega)).trans hbx
          have hz1 := hchp.size
          obtain ⟨w1, hw1⟩ : ∃ w1, wr.setCell ⟨gR, k, none⟩ (.int .i64 (j : Int)) = w1 := ⟨_, rfl⟩
          rw [hw1] at hst1 hchp hL1 hbx1 hz1
          have n0 : (0 : Int) ≤ (k : Int) := by omega
          have n1 : (k : Int) < (n : Int) := by omega
          have n2 : (j : Int) < (nc : Int) := by omega
          have n3 : k < n := by omega
          have p1' : wr.cell? ⟨gR, k, none⟩ = some (.int .i64 (u : Int)) := p1
          have HW1 := Lib.hid hw1
          have HXL := Lib.hid hxl'
          have HCHP := Lib.hid hchp
          have HCH := Lib.hid hch
          have HST1 := Lib.hid hst1
          clear hstk hu h1 h2 h5 h6 h7 h8 h9 p1 hSt hxl' hw1 hchp hch hst1 hbx hcap
          go_wp2_with fail
          rw [HW1.out]
          clear cS p1' p2
          obtain ⟨h1, h2, -, h5, h6, h7, h8, h9⟩ := id HST1.out
          have cE := cell_of_one h8
          have cT := cell_of_one h2
          have qE := lt_of_heap h8
          have qT1 := lt_of_heap h2
          have b0 := cell_of_row _ _ 0 _ _ _ hbx1
          have b1 := cell_of_row _ _ 1 _ _ _ hbx1
          have b2 := cell_of_row _ _ 2 _ _ _ hbx1
          have b3 := cell_of_row _ _ 3 _ _ _ hbx1
          have b4 := cell_of_row _ _ 4 _ _ _ hbx1
          have b5 := cell_of_row _ _ 5 _ _ _ hbx1
          simp at b0 b1 b2 b3 b4 b5
          have qF := lt_of_heap hbx1
          have hbt1 : Below top w w1 := hbt.trans (HCHP.out.below (by omega) (by omega) (by omega) (by omega))
          have e1 := (hbt1.cell (p := ⟨b, o + k * 3, none⟩) hbl).trans HQ.out.1
          have e2 := (hbt1.cell (p := ⟨b, o + k * 3 + 1, none⟩) hbl).trans HQ.out.2.1
          have e3 := (hbt1.cell (p := ⟨b, o + k * 3 + 2, none⟩) hbl).trans HQ.out.2.2
          have ub : b < w1.heap.size := by omega
          have wk : IntKind.i64.wrap ((k : Int) + 1) = (k : Int) + 1 := IntWalk.i64_in _ (by omega)
          have CS := Lib.hid (fun w' => serve_c f j x y z w' (fun i => by have h := HF.out i; omega) (by omega) ⟨x0, by omega⟩ ⟨y0, by omega⟩)
          have HSM : Hid ((f.serve j (x, y)).small (2000000 * ((k + 1 : Nat) : Int))) := Lib.hid (by
            have h := HF.out.serve (by omega) (c := (x, y)) (show 0 ≤ x ∧ x ≤ 1000000 by omega) (show 0 ≤ y ∧ y ≤ 1000000 by omega) j
            have e : 2000000 * ((k + 1 : Nat) : Int) = 2000000 * (k : Int) + 2000000 := by omega
            rw [e]; exact h)
          have KK : Hid (∀ w' : World, (∀ g, g < w1.heap.size → g ≠ gM → g ≠ gB → g ≠ gR → w'.heap[g]? = w1.heap[g]?) → w'.cell? ⟨gE, 0, none⟩ = some (.func (.func 12) #[] #[.pointer (some ⟨gM, 0, none⟩), .pointer (some ⟨gT, 0, none⟩), .pointer (some ⟨gS, 0, none⟩), .pointer (some ⟨gB, 0, none⟩), .pointer (some ⟨gC, 0, none⟩), .pointer (some ⟨gE, 0, none⟩)]) ∧ w'.cell? ⟨gT, 0, none⟩ = some (.slice (some ⟨b, o, none⟩) n c2) ∧ w'.cell? ⟨w.heap.size, 0, none⟩ = some (.int .i64 (f.at_ 0)) ∧ w'.cell? ⟨w.heap.size, 1, none⟩ = some (.int .i64 (f.at_ 1)) ∧ w'.cell? ⟨w.heap.size, 2, none⟩ = some (.int .i64 (f.at_ 2)) ∧ w'.cell? ⟨w.heap.size, 3, none⟩ = some (.int .i64 (f.way 0)) ∧ w'.cell? ⟨w.heap.size, 4, none⟩ = some (.int .i64 (f.way 1)) ∧ w'.cell? ⟨w.heap.size, 5, none⟩ = some (.int .i64 (f.way 2)) ∧ w'.cell? ⟨b, o + k * 3, none⟩ = some (.int .i64 x) ∧ w'.cell? ⟨b, o + k * 3 + 1, none⟩ = some (.int .i64 y) ∧ w'.cell? ⟨b, o + k * 3 + 2, none⟩ = some (.int .i64 z)) := Lib.hid fun w' h => by
            have c : ∀ g i, g < w1.heap.size → g ≠ gM → g ≠ gB → g ≠ gR → w'.cell? ⟨g, i, none⟩ = w1.cell? ⟨g, i, none⟩ := fun g i l a b c => World.cell?_of_block (a := ⟨g, i, none⟩) (h g l a b c)
            exact ⟨(c _ _ qE (by omega) (by omega) (by omega)).trans cE, (c _ _ qT1 (by omega) (by omega) (by omega)).trans cT, (c _ _ qF (by omega) (by omega) (by omega)).trans b0, (c _ _ qF (by omega) (by omega) (by omega)).trans b1, (c _ _ qF (by omega) (by omega) (by omega)).trans b2, (c _ _ qF (by omega) (by omega) (by omega)).trans b3, (c _ _ qF (by omega) (by omega) (by omega)).trans b4, (c _ _ qF (by omega) (by omega) (by omega)).trans b5, (c _ _ ub (by omega) (by omega) (by omega)).trans e1, (c _ _ ub (by omega) (by omega) (by omega)).trans e2, (c _ _ ub (by omega) (by omega) (by omega)).trans e3⟩
          clear h1 h2 h5 h6 h7 h8 h9 hbx1 n2
          go_region_held3 (fun w' => w'.cell? ⟨gE, 0, none⟩ = some (.func (.func 12) #[] #[.pointer (some ⟨gM, 0, none⟩), .pointer (some ⟨gT, 0, none⟩), .pointer (some ⟨gS, 0, none⟩), .pointer (some ⟨gB, 0, none⟩), .pointer (some ⟨gC, 0, none⟩), .pointer (some ⟨gE, 0, none⟩)]) ∧ w'.cell? ⟨gT, 0, none⟩ = some (.slice (some ⟨b, o, none⟩) n c2) ∧ w'.cell? ⟨w.heap.size, 0, none⟩ = some (.int .i64 (f.at_ 0)) ∧ w'.cell? ⟨w.heap.size, 1, none⟩ = some (.int .i64 (f.at_ 1)) ∧ w'.cell? ⟨w.heap.size, 2, none⟩ = some (.int .i64 (f.at_ 2)) ∧ w'.cell? ⟨w.heap.size, 3, none⟩ = some (.int .i64 (f.way 0)) ∧ w'.cell? ⟨w.heap.size, 4, none⟩ = some (.int .i64 (f.way 1)) ∧ w'.cell? ⟨w.heap.size, 5, none⟩ = some (.int .i64 (f.way 2)) ∧ w'.cell? ⟨b, o + k * 3, none⟩ = some (.int .i64 x) ∧ w'.cell? ⟨b, o + k * 3 + 1, none⟩ = some (.int .i64 y) ∧ w'.cell? ⟨b, o + k * 3 + 2, none⟩ = some (.int .i64 z)) (first | go_keep | (exact kE2) | (exact kE3))
            (first | (go_at_call 14; refine (CS.out _).mono ?_; rintro e w2 ⟨rfl, hb2⟩; have hb12 : Below w1.heap.size w1 w2 := Below.trans (by (repeat' (first | (with_reducible exact Below.refl _ _) | (with_reducible assumption) | (with_reducible refine Below.alloc ?_ ?_ _) | (with_reducible refine below_plus ?_ ?_ _ _) | (with_reducible refine Below.drew ?_) | (with_reducible refine Below.setCell ?_ ?_ _) | (with_reducible refine below_adv ?_ ?_ _) | go_size | (simp; done) | (simp; omega)))) (hb2.mono (by (first | (simp; done) | (simp; omega) | omega))); have hz2 := hb12.size; have kE2 := KK.out w2 (fun g l _ _ _ => hb12.block g l); have HS2 := Lib.hid (HST1.out.below hb12); have HL2 := Lib.hid (hL1.out.below (hb12.mono (show top ≤ w1.heap.size by omega)))) | (go_at_call 12; refine (IH.out (f.serve j (x, y)) (k + 1) _ _ S' (xs'.set k j) HSM.out (by omega) (by omega) HS2.out HL2.out (by first | omega | (simp; omega))).mono ?_; rintro e w3 ⟨rfl, hch3, xs3, hx3, hst3⟩; have kE3 := KK.out w3 (fun g l a b c => (hch3.2.2.2.2 g (by first | omega | (simp; omega)) a b c).trans (hb12.block g l))) | fail)
          all_goals
            have HSN := Lib.hid (show srch nc ((cs.drop (k + 1)).map prC) (f.serve j (x, y)) ((xs'.set k j).take (k + 1)) S' = rndS nc R (prC (x, y, z)) f (xs.take k) none (j + 1) by rw [rndS_step, ← hSF.out, HTK.out, hR]; rfl)
            have HXN : Hid (xs3.take k = xs.take k) := Lib.hid (take_snoc' (hx3.trans HTK.out) (by rw [List.length_take]; omega))
            have HCN := Lib.hid ((HCH.out.trans (HCHP.out.trans (Ch.of hb12))).trans hch3)
            have HS3 := Lib.hid hst3
            clear kE3 hst3 hch3 hx3 kE2 hb2 e1 e2 e3 b0 b1 b2 b3 b4 b5 cE cT wk
            go_wp2_with fail
            go_roundw
            case rel => exact ⟨j + 1, _, xs3, by omega, by go_num, HSN, HXN, HS3.out, HCN.out⟩
            case measure => simp [intOf]; omega
        · obtain rfl : j = nc := by omega
          have HSt := Lib.hid hSt
          have HCH := Lib.hid hch
          clear hSt hch
          go_wp2_with fail
          go_end0
          exact ⟨rfl, (Ch.of hbB).trans HCH.out, xs', hxF.out, by rw [← hSF.out]; exact HSt.out⟩
    | some s =>
      have cM1 : w.cell? ⟨gM, 0, none⟩ = some (.int .i64 s.1) := cM
      have h0 := h9 s rfl
      clear cM h9
      obtain ⟨s1, s2⟩ := s
      dsimp only at cM1 h0
      by_cases hp : s1 ≤ f.cost
      · have HE := Lib.hid (srch_cut (nc := nc) (cs := prC (x, y, z) :: R) (sh := xs.take k) (show prn (some (s1, s2)) f = true by simp [prn, hp]))
        go_enter Try.func12, Try.ntmps12
        go_wp2_with fail
        refine wp_region_plus (by kernel_rfl) (by kernel_rfl) ?_; (repeat (go_big_quiet_step ((go_at_call 13; exact quiet_plus (cost_c f _))))); refine wpQuiet_nil ?_; intro _ hw'; obtain ⟨⟨osq, dq⟩, hw''⟩ := hw'; subst hw''
        go_wp2_with fail
        go_end0
        exact ⟨rfl, Ch.of (by (repeat' (first | (with_reducible exact Below.refl _ _) | (with_reducible assumption) | (with_reducible refine Below.alloc ?_ ?_ _) | (with_reducible refine below_plus ?_ ?_ _ _) | (with_reducible refine Below.drew ?_) | (with_reducible refine Below.setCell ?_ ?_ _) | (with_reducible refine below_adv ?_ ?_ _) | go_size | (simp; done) | (simp; omega)))), xs, rfl, by rw [HE.out]; exact HST.out.below (by (repeat' (first | (with_reducible exact Below.refl _ _) | (with_reducible assumption) | (with_reducible refine Below.alloc ?_ ?_ _) | (with_reducible refine below_plus ?_ ?_ _ _) | (with_reducible refine Below.drew ?_) | (with_reducible refine Below.setCell ?_ ?_ _) | (with_reducible refine below_adv ?_ ?_ _) | go_size | (simp; done) | (simp; omega))))⟩
      · have hprn : prn (some (s1, s2)) f = false := by simp [prn, hp]
        go_enter Try.func12, Try.ntmps12
        go_wp2_with fail
        refine wp_region_plus (by kernel_rfl) (by kernel_rfl) ?_; (repeat (go_big_quiet_step ((go_at_call 13; exact quiet_plus (cost_c f _))))); refine wpQuiet_nil ?_; intro _ hw'; obtain ⟨⟨osq, dq⟩, hw''⟩ := hw'; subst hw''
        go_wp2_with fail
        have HG := Lib.hid (srch_go (nc := nc) (cs := R) (c := prC (x, y, z)) (sh := xs.take k) (show prn (some (s1, s2)) f = false from hprn))
        rw [HG.out]
        obtain ⟨wB, hwB⟩ : ∃ wB, plus (w.alloc (.cells #[.int .i64 (f.at_ 0), .int .i64 (f.at_ 1), .int .i64 (f.at_ 2), .int .i64 (f.way 0), .int .i64 (f.way 1), .int .i64 (f.way 2)] 37)) osq dq = wB := ⟨_, rfl⟩
        rw [hwB]
        have hbB : Below w.heap.size w wB := by rw [← hwB]; (repeat' (first | (with_reducible exact Below.refl _ _) | (with_reducible assumption) | (with_reducible refine Below.alloc ?_ ?_ _) | (with_reducible refine below_plus ?_ ?_ _ _) | (with_reducible refine Below.drew ?_) | (with_reducible refine Below.setCell ?_ ?_ _) | (with_reducible refine below_adv ?_ ?_ _) | go_size | (simp; done) | (simp; omega)))
        have hbox : wB.heap[w.heap.size]? = some (.cells #[.int .i64 (f.at_ 0), .int .i64 (f.at_ 1), .int .i64 (f.at_ 2), .int .i64 (f.way 0), .int .i64 (f.way 1), .int .i64 (f.way 2)] 37 (0, 0)) := by
          rw [← hwB, heap_plus _ _ _ _ (by simp)]; exact heap_alloc_new w _
        have hstB := HST.out.below hbB
        clear hwB cM1 cT cC
        go_loopw [29] (fun i wr => ∃ (j : Nat) (S' : Best) (xs' : List Nat), j ≤ nc ∧ i = .int .i64 j ∧ Hid (S' = rndS nc R (prC (x, y, z)) f (xs.take k) (some (s1, s2)) j) ∧ Hid (xs'.take k = xs.take k) ∧ ShSt wr gC gT gB gM gR gS gE lo (.slice Ac nc cc) (.slice (some ⟨b, o, none⟩) n c2) n S' xs' ∧ Ch gM gB gR wB wr) (fun i _ => nc - (intOf i).toNat)
        case atStart => exact ⟨0, (some (s1, s2)), xs, by omega, rfl, Lib.hid rfl, Lib.hid rfl, hstB, Ch.refl _ _ _ _⟩
        case round =>
          clear hstB
          obtain ⟨j, S', xs', hjn, rfl, hSF, hxF, hSt, hch⟩ := hrel
          obtain ⟨r1, r2, r3, r4, r5, r6, r7⟩ := HR.out
          have hzr := hch.size
          have hzB := hbB.size
          by_cases hlt : j < nc
          · have hbt : Below top w wr := (hbB.mono (by omega)).trans (hch.below (by omega) (by omega) (by omega) (by omega))
            obtain ⟨h1, h2, -, h5, h6, h7, h8, h9⟩ := id hSt
            have hxl' := h6.len
            obtain ⟨u, hu⟩ : ∃ u, xs'[k]? = some u := ⟨_, List.getElem?_eq_getElem (by omega)⟩
            obtain ⟨p1, p2, p3, p4⟩ := h6.cell_ hu
            have cS := cell_of_one h7
            have hst1 := hSt.put HR.out (show k < n by omega) j
            have hstk := set_take (xs := xs') (k := k) (j := j) (by omega)
            rw [hxF.out] at hstk
            have HTK := Lib.hid hstk
            have hchp : Ch gM gB gR wr (wr.setCell ⟨gR, k, none⟩ (.int .i64 (j : Int))) := Ch.set wr gR k _ (.inr (.inr rfl))
            have hL1 := Lib.hid ((HL.out.below hbt).below (hchp.below (by omega) (by omega) (by omega) (by omega)))
            have hbx := (hch.2.2.2.2 w.heap.size (lt_of_heap hbox) (by omega) (by omega) (by omega)).trans hbox
            have hbx1 := (hchp.2.2.2.2 w.heap.size (lt_of_heap hbx) (by omega) (by omega) (by omega)).trans hbx
            have hz1 := hchp.size
            obtain ⟨w1, hw1⟩ : ∃ w1, wr.setCell ⟨gR, k, none⟩ (.int .i64 (j : Int)) = w1 := ⟨_, rfl⟩
            rw [hw1] at hst1 hchp hL1 hbx1 hz1
            have n0 : (0 : Int) ≤ (k : Int) := by omega
            have n1 : (k : Int) < (n : Int) := by omega
            have n2 : (j : Int) < (nc : Int) := by omega
            have n3 : k < n := by omega
            have p1' : wr.cell? ⟨gR, k, none⟩ = some (.int .i64 (u : Int)) := p1
            have HW1 := Lib.hid hw1
            have HXL := Lib.hid hxl'
            have HCHP := Lib.hid hchp
            have HCH := Lib.hid hch
            have HST1 := Lib.hid hst1
            clear hstk hu h1 h2 h5 h6 h7 h8 h9 p1 hSt hxl' hw1 hchp hch hst1 hbx hcap
            go_wp2_with fail
            rw [HW1.out]
            clear cS p1' p2
            obtain ⟨h1, h2, -, h5, h6, h7, h8, h9⟩ := id HST1.out
            have cE := cell_of_one h8
            have cT := cell_of_one h2
            have qE := lt_of_heap h8
            have qT1 := lt_of_heap h2
            have b0 := cell_of_row _ _ 0 _ _ _ hbx1
            have b1 := cell_of_row _ _ 1 _ _ _ hbx1
            have b2 := cell_of_row _ _ 2 _ _ _ hbx1
            have b3 := cell_of_row _ _ 3 _ _ _ hbx1
            have b4 := cell_of_row _ _ 4 _ _ _ hbx1
            have b5 := cell_of_row _ _ 5 _ _ _ hbx1
            simp at b0 b1 b2 b3 b4 b5
            have qF := lt_of_heap hbx1
            have hbt1 : Below top w w1 := hbt.trans (HCHP.out.below (by omega) (by omega) (by omega) (by omega))
            have e1 := (hbt1.cell (p := ⟨b, o + k * 3, none⟩) hbl).trans HQ.out.1
            have e2 := (hbt1.cell (p := ⟨b, o + k * 3 + 1, none⟩) hbl).trans HQ.out.2.1
            have e3 := (hbt1.cell (p := ⟨b, o + k * 3 + 2, none⟩) hbl).trans HQ.out.2.2
            have ub : b < w1.heap.size := by omega
            have wk : IntKind.i64.wrap ((k : Int) + 1) = (k : Int) + 1 := IntWalk.i64_in _ (by omega)
            have CS := Lib.hid (fun w' => serve_c f j x y z w' (fun i => by have h := HF.out i; omega) (by omega) ⟨x0, by omega⟩ ⟨y0, by omega⟩)
            have HSM : Hid ((f.serve j (x, y)).small (2000000 * ((k + 1 : Nat) : Int))) := Lib.hid (by
              have h := HF.out.serve (by omega) (c := (x, y)) (show 0 ≤ x ∧ x ≤ 1000000 by omega) (show 0 ≤ y ∧ y ≤ 1000000 by omega) j
              have e : 2000000 * ((k + 1 : Nat) : Int) = 2000000 * (k : Int) + 2000000 := by omega
              rw [e]; exact h)
            have KK : Hid (∀ w' : World, (∀ g, g < w1.heap.size → g ≠ gM → g ≠ gB → g ≠ gR → w'.heap[g]? = w1.heap[g]?) → w'.cell? ⟨gE, 0, none⟩ = some (.func (.func 12) #[] #[.pointer (some ⟨gM, 0, none⟩), .pointer (some ⟨gT, 0, none⟩), .pointer (some ⟨gS, 0, none⟩), .pointer (some ⟨gB, 0, none⟩), .pointer (some ⟨gC, 0, none⟩), .pointer (some ⟨gE, 0, none⟩)]) ∧ w'.cell? ⟨gT, 0, none⟩ = some (.slice (some ⟨b, o, none⟩) n c2) ∧ w'.cell? ⟨w.heap.size, 0, none⟩ = some (.int .i64 (f.at_ 0)) ∧ w'.cell? ⟨w.heap.size, 1, none⟩ = some (.int .i64 (f.at_ 1)) ∧ w'.cell? ⟨w.heap.size, 2, none⟩ = some (.int .i64 (f.at_ 2)) ∧ w'.cell? ⟨w.heap.size, 3, none⟩ = some (.int .i64 (f.way 0)) ∧ w'.cell? ⟨w.heap.size, 4, none⟩ = some (.int .i64 (f.way 1)) ∧ w'.cell? ⟨w.heap.size, 5, none⟩ = some (.int .i64 (f.way 2)) ∧ w'.cell? ⟨b, o + k * 3, none⟩ = some (.int .i64 x) ∧ w'.cell? ⟨b, o + k * 3 + 1, none⟩ = some (.int .i64 y) ∧ w'.cell? ⟨b, o + k * 3 + 2, none⟩ = some (.int .i64 z)) := Lib.hid fun w' h => by
              have c : ∀ g i, g < w1.heap.size → g ≠ gM → g ≠ gB → g ≠ gR → w'.cell? ⟨g, i, none⟩ = w1.cell? ⟨g, i, none⟩ := fun g i l a b c => World.cell?_of_block (a := ⟨g, i, none⟩) (h g l a b c)
              exact ⟨(c _ _ qE (by omega) (by omega) (by omega)).trans cE, (c _ _ qT1 (by omega) (by omega) (by omega)).trans cT, (c _ _ qF (by omega) (by omega) (by omega)).trans b0, (c _ _ qF (by omega) (by omega) (by omega)).trans b1, (c _ _ qF (by omega) (by omega) (by omega)).trans b2, (c _ _ qF (by omega) (by omega) (by omega)).trans b3, (c _ _ qF (by omega) (by omega) (by omega)).trans b4, (c _ _ qF (by omega) (by omega) (by omega)).trans b5, (c _ _ ub (by omega) (by omega) (by omega)).trans e1, (c _ _ ub (by omega) (by omega) (by omega)).trans e2, (c _ _ ub (by omega) (by omega) (by omega)).trans e3⟩
            clear h1 h2 h5 h6 h7 h8 h9 hbx1 n2
            go_region_held3 (fun w' => w'.cell? ⟨gE, 0, none⟩ = some (.func (.func 12) #[] #[.pointer (some ⟨gM, 0, none⟩), .pointer (some ⟨gT, 0, none⟩), .pointer (some ⟨gS, 0, none⟩), .pointer (some ⟨gB, 0, none⟩), .pointer (some ⟨gC, 0, none⟩), .pointer (some ⟨gE, 0, none⟩)]) ∧ w'.cell? ⟨gT, 0, none⟩ = some (.slice (some ⟨b, o, none⟩) n c2) ∧ w'.cell? ⟨w.heap.size, 0, none⟩ = some (.int .i64 (f.at_ 0)) ∧ w'.cell? ⟨w.heap.size, 1, none⟩ = some (.int .i64 (f.at_ 1)) ∧ w'.cell? ⟨w.heap.size, 2, none⟩ = some (.int .i64 (f.at_ 2)) ∧ w'.cell? ⟨w.heap.size, 3, none⟩ = some (.int .i64 (f.way 0)) ∧ w'.cell? ⟨w.heap.size, 4, none⟩ = some (.int .i64 (f.way 1)) ∧ w'.cell? ⟨w.heap.size, 5, none⟩ = some (.int .i64 (f.way 2)) ∧ w'.cell? ⟨b, o + k * 3, none⟩ = some (.int .i64 x) ∧ w'.cell? ⟨b, o + k * 3 + 1, none⟩ = some (.int .i64 y) ∧ w'.cell? ⟨b, o + k * 3 + 2, none⟩ = some (.int .i64 z)) (first | go_keep | (exact kE2) | (exact kE3))
              (first | (go_at_call 14; refine (CS.out _).mono ?_; rintro e w2 ⟨rfl, hb2⟩; have hb12 : Below w1.heap.size w1 w2 := Below.trans (by (repeat' (first | (with_reducible exact Below.refl _ _) | (with_reducible assumption) | (with_reducible refine Below.alloc ?_ ?_ _) | (with_reducible refine below_plus ?_ ?_ _ _) | (with_reducible refine Below.drew ?_) | (with_reducible refine Below.setCell ?_ ?_ _) | (with_reducible refine below_adv ?_ ?_ _) | go_size | (simp; done) | (simp; omega)))) (hb2.mono (by (first | (simp; done) | (simp; omega) | omega))); have hz2 := hb12.size; have kE2 := KK.out w2 (fun g l _ _ _ => hb12.block g l); have HS2 := Lib.hid (HST1.out.below hb12); have HL2 := Lib.hid (hL1.out.below (hb12.mono (show top ≤ w1.heap.size by omega)))) | (go_at_call 12; refine (IH.out (f.serve j (x, y)) (k + 1) _ _ S' (xs'.set k j) HSM.out (by omega) (by omega) HS2.out HL2.out (by first | omega | (simp; omega))).mono ?_; rintro e w3 ⟨rfl, hch3, xs3, hx3, hst3⟩; have kE3 := KK.out w3 (fun g l a b c => (hch3.2.2.2.2 g (by first | omega | (simp; omega)) a b c).trans (hb12.block g l))) | fail)
            all_goals
              have HSN := Lib.hid (show srch nc ((cs.drop (k + 1)).map prC) (f.serve j (x, y)) ((xs'.set k j).take (k + 1)) S' = rndS nc R (prC (x, y, z)) f (xs.take k) (some (s1, s2)) (j + 1) by rw [rndS_step, ← hSF.out, HTK.out, hR]; rfl)
              have HXN : Hid (xs3.take k = xs.take k) := Lib.hid (take_snoc' (hx3.trans HTK.out) (by rw [List.length_take]; omega))
              have HCN := Lib.hid ((HCH.out.trans (HCHP.out.trans (Ch.of hb12))).trans hch3)
              have HS3 := Lib.hid hst3
              clear kE3 hst3 hch3 hx3 kE2 hb2 e1 e2 e3 b0 b1 b2 b3 b4 b5 cE cT wk
              go_wp2_with fail
              go_roundw
              case rel => exact ⟨j + 1, _, xs3, by omega, by go_num, HSN, HXN, HS3.out, HCN.out⟩
              case measure => simp [intOf]; omega
          · obtain rfl : j = nc := by omega
            have HSt := Lib.hid hSt
            have HCH := Lib.hid hch
            clear hSt hch
            go_wp2_with fail
            go_end0
            exact ⟨rfl, (Ch.of hbB).trans HCH.out, xs', hxF.out, by rw [← hSF.out]; exact HSt.out⟩
end Go.Proofs.Ytillmnhhkhjpkaa
