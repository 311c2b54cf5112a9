/- My words and contracts, laid together: Hbb, Hii. -/
import Derived.Test.YtfdlcphiidfkcaaDoorBb
import Derived.Test.YtfdlcphiidfkcaaDoorBc
set_option linter.unusedVariables false
set_option linter.unusedSimpArgs false
/- The laws' helpers on [][]bool: sz, to, eq, mark, held. -/
namespace Go.Proofs.YtfdlcphiidfkcaaDoor
open Go.RowKit

theorem szBoolS_c (A : Option Addr) (n c : Nat) (left : Int) (w : World) (hn : n ≤ 9223372036854775807) (h0 : 0 ≤ left) (h1 : left ≤ 1048576) :
    Calls Tryd.prog 44 #[.slice A n c, .int .i64 left] w fun e w' => e = .returned (.int .i64 (if (n : Int) ≤ left then left - n else -1)) ∧ w = w' := by
  by_cases h : (n : Int) ≤ left
  · rw [if_pos h]
    go_enter Tryd.func44, Tryd.ntmps44
    go_wp2
    go_ret
    exact ⟨rfl, rfl⟩
  · rw [if_neg h]
    go_enter Tryd.func44, Tryd.ntmps44
    go_wp2
    go_ret
    exact ⟨rfl, rfl⟩

theorem szBoolSS_c (A : Option Addr) (n c : Nat) (xss : List (List Bool)) (left : Int) (w : World) (B : Nat) (hS : Sl2 w B OLit A n c xss) (h0 : 0 ≤ left) (h1 : left ≤ 1048576) :
    Calls Tryd.prog 18 #[.slice A n c, .int .i64 left] w fun e w' => e = .returned (.int .i64 (szV xss left)) ∧ w = w' := by
  obtain ⟨hc0, hc1⟩ := hS.cap
  have HL := Lib.hid hS.len
  by_cases hn : (n : Int) ≤ left
  · go_enter Tryd.func18, Tryd.ntmps18
    go_wp2_with fail
    go_loop [1, 5] (fun l i => ∃ (k : Nat) (l' : Int), k ≤ n ∧ i = .int .i64 k ∧ l = .int .i64 l' ∧ 0 ≤ l' ∧ l' ≤ 1048576 ∧ Hid (l' = left - n - tot (xss.take k))) (fun _ i => n - (intOf i).toNat)
    case atStart => exact ⟨0, left - n, Nat.zero_le _, rfl, rfl, by omega, by omega, Lib.hid (by simp [tot])⟩
    case round =>
      obtain ⟨k, l', hk, rfl, rfl, hl0, hl1, hl⟩ := hrel
      by_cases hlt : k < n
      · obtain ⟨b, o, xs, A', n', c', rfl, hb, hx, hcell, hrow⟩ := hS.at_ hlt
        have hrn := hrow.len
        obtain ⟨hd0, hd1⟩ := hrow.cap
        have hcell' : w.cell? ⟨b, o + k, none⟩ = some (.slice A' n' c') := hcell
        have hts := tot_snoc hx
        rw [hrn] at hts
        have cs := szBoolS_c A' n' c' l' w (by omega) hl0 hl1
        by_cases hm : (n' : Int) ≤ l'
        · rw [if_pos hm] at cs
          have CS := Lib.hid cs
          have hl2 : Hid (l' - n' = left - n - tot (xss.take (k + 1))) := Lib.hid (by rw [hts, hl.out]; omega)
          clear cs hrow hrn hcell hS hx hts
          go_wp2_with fail
          refine CS.out.mono ?_
          rintro e w' ⟨rfl, rfl⟩
          go_wp2_with fail
          go_round
          case rel => exact ⟨k + 1, _, by omega, by go_num, rfl, by omega, by omega, hl2⟩
          case measure => simp [intOf]; omega
        · rw [if_neg hm] at cs
          have CS := Lib.hid cs
          have hv : Hid (szV xss left = -1) := Lib.hid (by
            have h2 := tot_take_le xss (k + 1)
            have h3 := hl.out
            have h4 := HL.out
            unfold szV
            rw [if_neg (by omega)])
          clear cs hrow hrn hcell hS hx hts
          go_wp2_with fail
          refine CS.out.mono ?_
          rintro e w' ⟨rfl, rfl⟩
          go_wp2_with fail
          go_ret
          exact ⟨by rw [hv.out]; rfl, rfl⟩
      · obtain rfl : k = n := by omega
        have hv : Hid (szV xss left = l') := Lib.hid (by
          have h3 := hl.out
          have h4 := HL.out
          rw [List.take_of_length_le (by omega)] at h3
          unfold szV
          rw [if_pos (by omega)]; omega)
        clear hS hl
        go_wp2_with fail
        go_ret
        exact ⟨by rw [hv.out]; rfl, rfl⟩
  · have hv : Hid (szV xss left = -1) := Lib.hid (by
      have h4 := HL.out
      unfold szV
      rw [if_neg (by omega)])
    clear hS
    go_enter Tryd.func18, Tryd.ntmps18
    go_wp2
    go_ret
    exact ⟨by rw [hv.out]; rfl, rfl⟩

theorem info_rowBoolS : (Tryd.prog.info? 29).map (fun i => (i.zero, i.size, i.bytes)) = some (some (.slice none 0 0), 1, 24) := by kernel_rfl

/-- A slice of slices of the call's own. -/
def OwBoolSS (w : World) (xss : List (List Bool)) (e : Ending) (w' : World) : Prop :=
  ∃ A n c, e = .returned (.slice A n c) ∧ Ow2 w' w.heap.size w'.heap.size 29 4 OLit A n c xss ∧ Below w.heap.size w w'

/-- k rows of n are laid: the outer row in block g, the rows behind it. -/
def HalfBoolS (w : World) (g n k : Nat) (xss : List (List Bool)) (wr : World) : Prop :=
  ∃ cs vs, wr.heap[g]? = some (.cells cs 29 (0, 0)) ∧ cs.size = n ∧ vs.length = k ∧ (∀ (j : Nat) (v : Value), vs[j]? = some v → cs[j]? = some v) ∧ Rws wr (g + 1) wr.heap.size 4 OLit vs (xss.take k)
theorem HalfBoolS.step {w wr w1 : World} {g n k m g1 : Nat} {xss : List (List Bool)} {xs : List Bool} (h : HalfBoolS w g n k xss wr) (hk : k < n) (hx : xss[k]? = some xs) (hb : Below wr.heap.size wr w1)
    (hO : Ow w1 g1 4 OLit (some ⟨g1, 0, none⟩) m m xs) (h1 : wr.heap.size ≤ g1) (h2 : g1 < w1.heap.size) : HalfBoolS w g n (k + 1) xss (w1.setCell ⟨g, k, none⟩ (.slice (some ⟨g1, 0, none⟩) m m)) := by
  obtain ⟨cs, vs, e1, e2, e3, e4, e5⟩ := h
  have hgl := lt_of_heap e1
  have hg1 : w1.heap[g]? = some (.cells cs 29 (0, 0)) := (hb.block g hgl).trans e1
  have hz := hb.size
  refine ⟨_, vs ++ [.slice (some ⟨g1, 0, none⟩) m m], heap_setCell_same w1 g k cs _ _ hg1, by simp [e2], by simp [e3], fun j v hv => ?_, ?_⟩
  · rw [Array.getElem?_setIfInBounds]
    rcases Nat.lt_or_ge j vs.length with hlt | hge
    · rw [List.getElem?_append_left hlt] at hv
      rw [if_neg (by omega)]
      exact e4 j v hv
    · have hj : j = vs.length := by
        have := (List.getElem?_eq_some_iff.1 hv).1
        simp at this; omega
      subst hj
      simp at hv
      subst hv
      rw [if_pos e3.symm, if_pos (by omega)]
  · rw [take_snoc hx]
    have hs : (w1.setCell ⟨g, k, none⟩ (.slice (some ⟨g1, 0, none⟩) m m)).heap.size = w1.heap.size := by simp [World.setCell]
    rw [hs]
    have hr := ((e5.below (Nat.le_refl _) hb).more hz).keep (w' := w1.setCell ⟨g, k, none⟩ (.slice (some ⟨g1, 0, none⟩) m m)) fun b b1 _ _ => Below.heap_setCell w1 _ _ b (by simp; omega)
    refine hr.snoc ((hO.keep fun b hb1 _ _ => Below.heap_setCell w1 _ _ b (by simp; omega)).mono (by omega)) fun b hb1 => ?_
    simp only [Value.ownBlock, Option.some.injEq] at hb1
    subst hb1
    refine ⟨by omega, h2, fun v hv e => ?_⟩
    obtain ⟨j, hj⟩ := List.getElem?_of_mem hv
    obtain ⟨xs', A, n', c', -, rfl, -, hbl⟩ := e5.at_ hj
    have := (hbl _ e).2
    omega
def FreshBoolSS (w : World) (n : Nat) (xss : List (List Bool)) (e : Ending) (w1 : World) : Prop :=
  ∃ g, e = .returned (.slice (some ⟨g, 0, none⟩) n n) ∧ Ow2 w1 g w1.heap.size 29 4 OLit (some ⟨g, 0, none⟩) n n xss ∧ w.heap.size ≤ g ∧ g < w1.heap.size ∧ Below w.heap.size w w1
theorem HalfBoolS.done {w wr : World} {g n : Nat} {xss : List (List Bool)} (h : HalfBoolS w g n n xss wr) (hl : xss.length = n) (hn : n ≤ 9223372036854775807) :
    Ow2 wr g wr.heap.size 29 4 OLit (some ⟨g, 0, none⟩) n n xss := by
  obtain ⟨cs, vs, e1, e2, e3, e4, e5⟩ := h
  rw [List.take_of_length_le (by omega)] at e5
  refine ⟨vs, ⟨e3, Nat.le_refl _, hn, fun _ => ⟨g, cs, rfl, Nat.le_refl _, e1, fun j x hx => e4 j x hx⟩⟩, e5.less (by omega), fun b o hA => ?_⟩
  injection hA with hA
  injection hA with hA
  subst hA
  exact lt_of_heap e1

set_option maxHeartbeats 1000000 in
theorem toBoolSS_f (A : Option Addr) (n c : Nat) (xss : List (List Bool)) (w : World) (B : Nat) (hS : Sl2 w B OLit A n c xss) (hB : B ≤ w.heap.size) (hn : n ≤ 1048576) (htot : tot xss ≤ 1048576) :
    Calls Tryd.prog 19 #[.slice A n c] w (FreshBoolSS w n xss) := by
  have hmk := run_make_row' (P := Tryd.prog) 23 29 (.slice none 0 0) 24 Tryd.underlying23 info_rowBoolS rfl .i64 .i64 n (by omega) (by omega)
  have hsz : (madeCells #[.slice none 0 0] n).size = n := by simp [madeCells]
  obtain ⟨cs0, hcs0⟩ : ∃ cs, madeCells #[.slice none 0 0] n = cs := ⟨_, rfl⟩
  rw [hcs0] at hmk hsz
  have HZ := Lib.hid hsz
  have HL := Lib.hid hS.len
  have HT := Lib.hid htot
  obtain ⟨hc0, hc1⟩ := hS.cap
  have hS0 := hS.more hB
  clear hcs0 hsz hS htot
  go_enter Tryd.func19, Tryd.ntmps19
  go_wp2_with fail
  go_loopw [4] (fun i wr => ∃ k : Nat, k ≤ n ∧ i = .int .i64 k ∧ HalfBoolS w w.heap.size n k xss wr ∧ Below w.heap.size w wr) (fun i _ => n - (intOf i).toNat)
  case atStart =>
    exact ⟨0, Nat.zero_le _, rfl, ⟨cs0, [], heap_alloc_new w _, HZ.out, rfl, fun j v hv => (by cases hv), by simpa using Rws.nil _ _ _ _ _⟩, by (repeat' (first | (with_reducible exact Below.refl _ _) | (with_reducible assumption) | (with_reducible refine Below.alloc ?_ ?_ _) | (with_reducible refine below_plus ?_ ?_ _ _) | (with_reducible refine Below.drew ?_) | (with_reducible refine Below.setCell ?_ ?_ _) | (with_reducible refine below_adv ?_ ?_ _) | go_size | (simp; done) | (simp; omega)))⟩
  case round =>
    obtain ⟨k, hk, rfl, hH, hb⟩ := hrel
    have hzr := hb.size
    by_cases hlt : k < n
    · obtain ⟨b, o, xs, A', n', c', rfl, hbl, hx, hcell, hrow⟩ := (hS0.below hb).at_ hlt
      have hcell' : wr.cell? ⟨b, o + k, none⟩ = some (.slice A' n' c') := hcell
      have hn' : n' ≤ 1048576 := by rw [← hrow.len]; exact Nat.le_trans (tot_at hx) HT.out
      have hgl : w.heap.size < wr.heap.size := by
        obtain ⟨cs, vs, e1, -⟩ := hH
        exact lt_of_heap e1
      have HX := Lib.hid hx
      clear hcell hmk hx
      go_wp2_with fail
      refine (toBoolS_f A' n' c' xs wr w.heap.size hrow hzr (by omega)).mono ?_
      rintro e w1 ⟨g1, rfl, hO1, hg1, hg2, hb1⟩
      have hz1 := hb1.size
      have hN := Lib.hid (hH.step hlt HX.out hb1 hO1 hg1 hg2)
      have hbb := hb.trans (hb1.mono hzr)
      obtain ⟨old, hcl, hfr⟩ : ∃ old, w1.cell? ⟨w.heap.size, k, none⟩ = some old ∧ w1.frozen? ⟨w.heap.size, k, none⟩ = false := by
        obtain ⟨cs, vs, e1, e2, -⟩ := hH
        have e3 := (hb1.block _ hgl).trans e1
        refine ⟨cs[k]'(by omega), ?_, by simp [World.frozen?, e3]⟩
        rw [cell_of_row w1 _ k cs _ _ e3]
        exact Array.getElem?_eq_getElem (by omega)
      clear hH hO1 hb1 hb hrow
      go_wp2_with fail
      go_roundw
      case rel => exact ⟨k + 1, by omega, by go_num, hN.out, hbb.setCell (Nat.le_refl _) _⟩
      case measure => simp [intOf]; omega
    · obtain rfl : k = n := by omega
      have hgl : w.heap.size < wr.heap.size := by
        obtain ⟨cs, vs, e1, -⟩ := hH
        exact lt_of_heap e1
      have hN := Lib.hid (hH.done HL.out (by omega))
      clear hmk hH hS0
      go_wp2_with fail
      go_ret
      exact ⟨_, rfl, hN.out, Nat.le_refl _, hgl, hb⟩

set_option maxHeartbeats 1000000 in
theorem eqBoolSS_c (A : Option Addr) (n c : Nat) (xss : List (List Bool)) (A2 : Option Addr) (n2 c2 : Nat) (yss : List (List Bool)) (w : World) (B B2 : Nat) (hS : Sl2 w B OLit A n c xss) (hB : B ≤ w.heap.size) (hT : Sl2 w B2 OLit A2 n2 c2 yss) (hB2 : B2 ≤ w.heap.size) :
    Calls Tryd.prog 21 #[.slice A n c, .slice A2 n2 c2] w fun e w' => e = .returned (.bool (eqL xss yss)) ∧ Below w.heap.size w w' := by
  have hl1 := hS.len
  have hl2 := hT.len
  obtain ⟨hc0, hc1⟩ := hS.cap
  have hS0 := hS.more hB
  have hT0 := hT.more hB2
  by_cases hn : n = n2
  · subst hn
    have HL := Lib.hid (And.intro hl1 hl2)
    clear hl1 hl2 hS hT
    go_enter Tryd.func21, Tryd.ntmps21
    go_wp2_with fail
    go_loopw [5] (fun i wr => ∃ k : Nat, k ≤ n ∧ i = .int .i64 k ∧ Hid (xss.take k = yss.take k) ∧ Below w.heap.size w wr) (fun i _ => n - (intOf i).toNat)
    case atStart => exact ⟨0, Nat.zero_le _, rfl, rfl, Below.refl _ _⟩
    case round =>
      obtain ⟨k, hk, rfl, htk, hb⟩ := hrel
      have hzr := hb.size
      by_cases hlt : k < n
      · obtain ⟨b, o, xs, A', n', c', rfl, hbl, hx, hcell, hrow⟩ := (hS0.below hb).at_ hlt
        obtain ⟨b2, o2, ys, A2', n2', c2', rfl, hbl2, hy, hcell2, hrow2⟩ := (hT0.below hb).at_ hlt
        have hcell' : wr.cell? ⟨b, o + k, none⟩ = some (.slice A' n' c') := hcell
        have hcell2' : wr.cell? ⟨b2, o2 + k, none⟩ = some (.slice A2' n2' c2') := hcell2
        have hbw : b < wr.heap.size := by omega
        have hbw2 : b2 < wr.heap.size := by omega
        have hki : (k : Int) < (n : Int) := by omega
        have ce := fun os d => eqBoolS_c A' n' c' xs A2' n2' c2' ys (plus wr os d) _ _ (hrow.plus hzr os d) (by simp; omega) (hrow2.plus hzr os d) (by simp; omega)
        by_cases hxy : xs = ys
        · rw [eqL_true hxy] at ce
          have CE := Lib.hid ce
          have HTK : Hid (xss.take (k + 1) = yss.take (k + 1)) := by
            show xss.take (k + 1) = yss.take (k + 1)
            rw [take_snoc hx, take_snoc hy, htk.out, hxy]
          clear ce hx hy hrow hrow2 hcell hcell2 hxy htk
          go_wp2_with fail
          refine wp_region_plus (by kernel_rfl) (by kernel_rfl) ?_; (repeat (go_big_quiet_step ((go_at_call 47; exact quiet_plus (CE.out _ _))))); refine wpQuiet_nil ?_; intro _ hw'; obtain ⟨⟨osq, dq⟩, hw''⟩ := hw'; subst hw''
          go_wp2_with fail
          go_roundw
          case rel => exact ⟨k + 1, by omega, by go_num, HTK, by (repeat' (first | (with_reducible exact Below.refl _ _) | (with_reducible assumption) | (with_reducible refine Below.alloc ?_ ?_ _) | (with_reducible refine below_plus ?_ ?_ _ _) | (with_reducible refine Below.drew ?_) | (with_reducible refine Below.setCell ?_ ?_ _) | (with_reducible refine below_adv ?_ ?_ _) | go_size | (simp; done) | (simp; omega)))⟩
          case measure => simp [intOf]; omega
        · have hne : eqL xs ys = false := by simpa [eqL] using hxy
          rw [hne] at ce
          have CE := Lib.hid ce
          have HNE := Lib.hid (eqL_at hx hy hxy)
          clear ce hx hy hrow hrow2 hcell hcell2 hxy htk hne
          go_wp2_with fail
          refine wp_region_plus (by kernel_rfl) (by kernel_rfl) ?_; (repeat (go_big_quiet_step ((go_at_call 47; exact quiet_plus (CE.out _ _))))); refine wpQuiet_nil ?_; intro _ hw'; obtain ⟨⟨osq, dq⟩, hw''⟩ := hw'; subst hw''
          go_wp2_with fail
          go_ret
          exact ⟨by rw [HNE.out]; rfl, by (repeat' (first | (with_reducible exact Below.refl _ _) | (with_reducible assumption) | (with_reducible refine Below.alloc ?_ ?_ _) | (with_reducible refine below_plus ?_ ?_ _ _) | (with_reducible refine Below.drew ?_) | (with_reducible refine Below.setCell ?_ ?_ _) | (with_reducible refine below_adv ?_ ?_ _) | go_size | (simp; done) | (simp; omega)))⟩
      · obtain rfl : k = n := by omega
        have heq : xss = yss := by
          have := htk.out
          rwa [List.take_of_length_le (by rw [HL.out.1]; exact Nat.le_refl _), List.take_of_length_le (by rw [HL.out.2]; exact Nat.le_refl _)] at this
        clear htk
        have HE := Lib.hid (eqL_true heq)
        clear heq
        go_wp2_with fail
        go_ret
        exact ⟨by rw [HE.out]; rfl, hb⟩
  · have hne := eqL_len (xs := xss) (ys := yss) (by omega)
    rw [hne]
    have hnn : ((n : Int) != (n2 : Int)) = true := by simp [bne]; omega
    clear hS hT hne hl1 hl2 hS0 hT0
    go_enter Tryd.func21, Tryd.ntmps21
    go_wp2
    go_ret
    exact ⟨rfl, by (repeat' (first | (with_reducible exact Below.refl _ _) | (with_reducible assumption) | (with_reducible refine Below.alloc ?_ ?_ _) | (with_reducible refine below_plus ?_ ?_ _ _) | (with_reducible refine Below.drew ?_) | (with_reducible refine Below.setCell ?_ ?_ _) | (with_reducible refine below_adv ?_ ?_ _) | go_size | (simp; done) | (simp; omega)))⟩
theorem eqBoolSS_t (A : Option Addr) (n c : Nat) (xss : List (List Bool)) (A2 : Option Addr) (n2 c2 : Nat) (w : World) (B B2 : Nat) (hS : Sl2 w B OLit A n c xss) (hB : B ≤ w.heap.size) (hT : Sl2 w B2 OLit A2 n2 c2 xss) (hB2 : B2 ≤ w.heap.size) :
    Calls Tryd.prog 21 #[.slice A n c, .slice A2 n2 c2] w fun e w' => e = .returned (.bool true) ∧ Below w.heap.size w w' := by
  have := eqBoolSS_c A n c xss A2 n2 c2 xss w B B2 hS hB hT hB2
  rwa [eqL_true rfl] at this


/-- What mark lays, row after row. -/
def mkBoolSS : Int → List (List Bool) → List (List Bool)
  | _, [] => []
  | k, xs :: r => mkBoolS k xs.length :: mkBoolSS (k + xs.length) r
theorem mkBoolSS_len (k : Int) (xss : List (List Bool)) : (mkBoolSS k xss).length = xss.length := by
  induction xss generalizing k with
  | nil => rfl
  | cons x r ih => simp [mkBoolSS, ih]
theorem mkBoolSS_at (k : Int) {xss : List (List Bool)} {j : Nat} {xs : List Bool} (h : xss[j]? = some xs) : (mkBoolSS k xss)[j]? = some (mkBoolS (k + tot (xss.take j)) xs.length) := by
  induction xss generalizing k j with
  | nil => cases h
  | cons x r ih =>
    cases j with
    | zero =>
      simp at h
      subst h
      simp [mkBoolSS, tot]
    | succ j =>
      simp only [List.getElem?_cons_succ] at h
      simp only [mkBoolSS, List.getElem?_cons_succ, ih _ h, List.take_succ_cons, tot]
      congr 2
      omega
theorem mkBoolSS_step (k : Int) {xss : List (List Bool)} {j : Nat} {xs : List Bool} (h : xss[j]? = some xs) :
    ((mkBoolSS k xss).take j ++ xss.drop j).set j (mkBoolS (k + tot (xss.take j)) xs.length) = (mkBoolSS k xss).take (j + 1) ++ xss.drop (j + 1) := by
  have hj := (List.getElem?_eq_some_iff.1 h).1
  have hl : ((mkBoolSS k xss).take j).length = j := by rw [List.length_take, mkBoolSS_len]; omega
  rw [take_snoc (mkBoolSS_at k h), List.drop_eq_getElem_cons hj, List.set_append_right _ _ (by omega), hl, Nat.sub_self, List.set_cons_zero, List.append_assoc, List.singleton_append]
theorem mkBoolSS_row {k : Int} {xss : List (List Bool)} {j : Nat} {xs : List Bool} (h : xss[j]? = some xs) : ((mkBoolSS k xss).take j ++ xss.drop j)[j]? = some xs := by
  have hj := (List.getElem?_eq_some_iff.1 h).1
  have hl : ((mkBoolSS k xss).take j).length = j := by rw [List.length_take, mkBoolSS_len]; omega
  rw [List.getElem?_append_right (by omega), hl, Nat.sub_self, List.getElem?_drop]; simpa using h
def MarkedBoolSS (w : World) (lo hi : Nat) (A : Option Addr) (n c : Nat) (k : Int) (xss : List (List Bool)) (e : Ending) (w' : World) : Prop :=
  e = .returned (.int .i64 (k + tot xss)) ∧ Ow2 w' lo hi 29 4 OLit A n c (mkBoolSS k xss) ∧ Below lo w w' ∧ w'.heap.size = w.heap.size ∧ ∀ b, hi ≤ b → b < w.heap.size → w'.heap[b]? = w.heap[b]?
/-- The world of a round. -/
def RndBoolSS (w : World) (lo hi : Nat) (A : Option Addr) (n c : Nat) (vs : List Value) (yss : List (List Bool)) (wr : World) : Prop :=
  Ow wr lo 29 id A n c vs ∧ Rws wr lo hi 4 OLit vs yss ∧ Below lo w wr ∧ wr.heap.size = w.heap.size ∧ ∀ b, hi ≤ b → b < w.heap.size → wr.heap[b]? = w.heap[b]?

set_option maxHeartbeats 1000000 in
theorem markBoolSS_f (A : Option Addr) (n c : Nat) (xss : List (List Bool)) (k0 : Int) (w : World) (lo hi : Nat) (hO : Ow2 w lo hi 29 4 OLit A n c xss) (hlo : lo ≤ w.heap.size) (hhi : hi ≤ w.heap.size) (hk0 : 0 ≤ k0) (hk1 : k0 ≤ 1073741824) (hn : n ≤ 1048576) (ht : tot xss ≤ 1048576) :
    Calls Tryd.prog 22 #[.slice A n c, .int .i64 k0] w (MarkedBoolSS w lo hi A n c k0 xss) := by
  obtain ⟨hc0, hc1⟩ := hO.cap
  have HL := Lib.hid hO.len
  have HT := Lib.hid ht
  obtain ⟨vs, hV, hR, hA⟩ := hO
  have HVL := Lib.hid hV.len
  have HA := Lib.hid hA
  have hne : ¬ (4 : Nat) = 29 := by decide
  have HNE := Lib.hid hne
  clear ht hA hne
  go_enter Tryd.func22, Tryd.ntmps22
  go_wp2_with fail
  go_loopw [1, 5] (fun kk i wr => ∃ (j : Nat) (k' : Int), j ≤ n ∧ i = .int .i64 j ∧ kk = .int .i64 k' ∧ 0 ≤ k' ∧ k' ≤ 2147483648 ∧ Hid (k' = k0 + tot (xss.take j)) ∧ RndBoolSS w lo hi A n c vs ((mkBoolSS k0 xss).take j ++ xss.drop j) wr) (fun _ i _ => n - (intOf i).toNat)
  case atStart => exact ⟨0, k0, Nat.zero_le _, rfl, rfl, hk0, by omega, Lib.hid (by simp [tot]), hV, by simpa using hR, Below.refl _ _, rfl, fun _ _ _ => rfl⟩
  case round =>
    clear hV hR
    obtain ⟨j, k', hj, rfl, rfl, hk0', hk1', hk, hr1, hr2, hr3, hr4, hr5⟩ := hrel
    by_cases hlt : j < n
    · obtain ⟨v, hv⟩ : ∃ v, vs[j]? = some v := ⟨_, List.getElem?_eq_getElem (by rw [HVL.out]; exact hlt)⟩
      obtain ⟨xs, hx⟩ : ∃ xs, xss[j]? = some xs := ⟨_, List.getElem?_eq_getElem (by rw [HL.out]; exact hlt)⟩
      obtain ⟨xs', A', n', c', hx', rfl, hO', hbl⟩ := hr2.at_ hv
      have hxx : xs' = xs := by
        rw [mkBoolSS_row hx] at hx'
        injection hx' with hx'
        exact hx'.symm
      subst hxx
      obtain ⟨g, cs, rfl, hg1, hg2, hg3⟩ := hr1.2.2.2 (by omega)
      have hgl := lt_of_heap hg2
      have hcell : wr.cell? ⟨g, j, none⟩ = some (.slice A' n' c') := by rw [cell_of_row wr g j cs _ _ hg2]; exact hg3 j _ hv
      have hn' : n' ≤ 1048576 := by rw [← hO'.len]; exact Nat.le_trans (tot_at hx) HT.out
      have hst := mkBoolSS_step k0 hx
      rw [← hk.out, hO'.len] at hst
      have hk2 : Hid (k' + n' = k0 + tot (xss.take (j + 1))) := Lib.hid (by rw [tot_snoc hx, hk.out, hO'.len]; omega)
      have hkb : k' + n' ≤ 2147483648 := by
        have h1 := tot_take_le xss (j + 1)
        have h2 := HT.out
        have h3 := hk2.out
        omega
      have HV := Lib.hid hv
      have HS := Lib.hid hst
      have HB := Lib.hid hbl
      have HG := Lib.hid hg2
      clear hg2 hg3 hv hx hx' hst hbl hk
      go_wp2_with fail
      refine (markBoolS_c A' n' c' xs' k' wr lo hO' (by omega) (by omega) (by omega)).mono ?_
      rintro e w1 ⟨rfl, h1, h2, h3⟩
      have hsame : ∀ b, b < wr.heap.size → (Value.slice A' n' c').ownBlock ≠ some b → w1.heap[b]? = wr.heap[b]? := fun b hb hne => by
        refine h2.block b hb ?_
        by_cases h0 : n' = 0
        · rw [if_pos h0]; simp
        · rw [if_neg h0]
          cases A' with
          | none => simp
          | some a => simpa [Value.ownBlock] using fun e => hne (by simp [Value.ownBlock, e])
      have hR2 := hr2.set HV.out h1 hsame (fun b hb1 hb2 => by omega)
      rw [HS.out] at hR2
      have hgs : w1.heap[g]? = wr.heap[g]? := h2.block g hgl (by
        by_cases h0 : n' = 0
        · rw [if_pos h0]; simp
        · rw [if_neg h0]
          obtain ⟨g', cs', rfl, -, hh', -⟩ := hO'.2.2.2 (by omega)
          simp only [Option.map_some, ne_eq, Option.some.injEq]
          intro e
          subst e
          rw [HG.out] at hh'
          injection hh' with hh'
          injection hh' with _ hh'
          exact HNE.out hh'.symm)
      have hO2 : Ow w1 lo 29 id (some ⟨g, 0, none⟩) n c vs := hr1.keep fun b hb hb2 hA => by
        injection hA with hA
        injection hA with hA
        subst hA
        exact hgs
      have hout : ∀ b, b < wr.heap.size → (b < lo ∨ hi ≤ b) → w1.heap[b]? = wr.heap[b]? := fun b hb hor => hsame b hb fun e => by
        have := HB.out b e
        omega
      have hnew : RndBoolSS w lo hi (some ⟨g, 0, none⟩) n c vs ((mkBoolSS k0 xss).take (j + 1) ++ xss.drop (j + 1)) w1 :=
        ⟨hO2, hR2, hr3.trans ⟨h2.os, h2.tape, h2.output, by omega, fun b hb => hout b (by omega) (.inl hb)⟩, by omega, fun b hb1 hb2 => (hout b (by omega) (.inr hb1)).trans (hr5 b hb1 hb2)⟩
      have HN := Lib.hid hnew
      clear hR2 hsame hgs hO2 hout hnew h1 h2 hr1 hr2 hr3 hr5 hO'
      go_wp2_with fail
      go_roundw
      case rel => exact ⟨j + 1, _, by omega, by go_num, rfl, by omega, hkb, hk2, HN.out⟩
      case measure => simp [intOf]; omega
    · obtain rfl : j = n := by omega
      rw [List.take_of_length_le (by rw [mkBoolSS_len, HL.out]; exact Nat.le_refl _), List.drop_of_length_le (by rw [HL.out]; exact Nat.le_refl _), List.append_nil] at hr2
      have hk2 : Hid (k' = k0 + tot xss) := Lib.hid (by
        have := hk.out
        rwa [List.take_of_length_le (by rw [HL.out]; exact Nat.le_refl _)] at this)
      have HN : Hid (Ow2 wr lo hi 29 4 OLit A j c (mkBoolSS k0 xss) ∧ Below lo w wr ∧ wr.heap.size = w.heap.size ∧ ∀ b, hi ≤ b → b < w.heap.size → wr.heap[b]? = w.heap[b]?) := Lib.hid ⟨⟨vs, hr1, hr2, HA.out⟩, hr3, hr4, hr5⟩
      clear hr1 hr2 hr3 hr4 hr5 hk
      go_wp2_with fail
      go_ret
      exact ⟨by rw [← hk2.out]; rfl, HN.out⟩


end Go.Proofs.YtfdlcphiidfkcaaDoor

/- The laws' helpers on [][]int: sz, to, eq, mark, held. -/
namespace Go.Proofs.YtfdlcphiidfkcaaDoor
open Go.RowKit



theorem info_rowIntS : (Tryd.prog.info? 28).map (fun i => (i.zero, i.size, i.bytes)) = some (some (.slice none 0 0), 1, 24) := by kernel_rfl

/-- A slice of slices of the call's own. -/
def OwIntSS (w : World) (xss : List (List Int)) (e : Ending) (w' : World) : Prop :=
  ∃ A n c, e = .returned (.slice A n c) ∧ Ow2 w' w.heap.size w'.heap.size 28 3 ILit A n c xss ∧ Below w.heap.size w w'


set_option maxHeartbeats 1000000 in
theorem eqIntSS_c (A : Option Addr) (n c : Nat) (xss : List (List Int)) (A2 : Option Addr) (n2 c2 : Nat) (yss : List (List Int)) (w : World) (B B2 : Nat) (hS : Sl2 w B ILit A n c xss) (hB : B ≤ w.heap.size) (hT : Sl2 w B2 ILit A2 n2 c2 yss) (hB2 : B2 ≤ w.heap.size) :
    Calls Tryd.prog 20 #[.slice A n c, .slice A2 n2 c2] w fun e w' => e = .returned (.bool (eqL xss yss)) ∧ Below w.heap.size w w' := by
  have hl1 := hS.len
  have hl2 := hT.len
  obtain ⟨hc0, hc1⟩ := hS.cap
  have hS0 := hS.more hB
  have hT0 := hT.more hB2
  by_cases hn : n = n2
  · subst hn
    have HL := Lib.hid (And.intro hl1 hl2)
    clear hl1 hl2 hS hT
    go_enter Tryd.func20, Tryd.ntmps20
    go_wp2_with fail
    go_loopw [5] (fun i wr => ∃ k : Nat, k ≤ n ∧ i = .int .i64 k ∧ Hid (xss.take k = yss.take k) ∧ Below w.heap.size w wr) (fun i _ => n - (intOf i).toNat)
    case atStart => exact ⟨0, Nat.zero_le _, rfl, rfl, Below.refl _ _⟩
    case round =>
      obtain ⟨k, hk, rfl, htk, hb⟩ := hrel
      have hzr := hb.size
      by_cases hlt : k < n
      · obtain ⟨b, o, xs, A', n', c', rfl, hbl, hx, hcell, hrow⟩ := (hS0.below hb).at_ hlt
        obtain ⟨b2, o2, ys, A2', n2', c2', rfl, hbl2, hy, hcell2, hrow2⟩ := (hT0.below hb).at_ hlt
        have hcell' : wr.cell? ⟨b, o + k, none⟩ = some (.slice A' n' c') := hcell
        have hcell2' : wr.cell? ⟨b2, o2 + k, none⟩ = some (.slice A2' n2' c2') := hcell2
        have hbw : b < wr.heap.size := by omega
        have hbw2 : b2 < wr.heap.size := by omega
        have hki : (k : Int) < (n : Int) := by omega
        have ce := fun os d => eqIntS_c A' n' c' xs A2' n2' c2' ys (plus wr os d) _ _ (hrow.plus hzr os d) (by simp; omega) (hrow2.plus hzr os d) (by simp; omega)
        by_cases hxy : xs = ys
        · rw [eqL_true hxy] at ce
          have CE := Lib.hid ce
          have HTK : Hid (xss.take (k + 1) = yss.take (k + 1)) := by
            show xss.take (k + 1) = yss.take (k + 1)
            rw [take_snoc hx, take_snoc hy, htk.out, hxy]
          clear ce hx hy hrow hrow2 hcell hcell2 hxy htk
          go_wp2_with fail
          refine wp_region_plus (by kernel_rfl) (by kernel_rfl) ?_; (repeat (go_big_quiet_step ((go_at_call 46; exact quiet_plus (CE.out _ _))))); refine wpQuiet_nil ?_; intro _ hw'; obtain ⟨⟨osq, dq⟩, hw''⟩ := hw'; subst hw''
          go_wp2_with fail
          go_roundw
          case rel => exact ⟨k + 1, by omega, by go_num, HTK, by (repeat' (first | (with_reducible exact Below.refl _ _) | (with_reducible assumption) | (with_reducible refine Below.alloc ?_ ?_ _) | (with_reducible refine below_plus ?_ ?_ _ _) | (with_reducible refine Below.drew ?_) | (with_reducible refine Below.setCell ?_ ?_ _) | (with_reducible refine below_adv ?_ ?_ _) | go_size | (simp; done) | (simp; omega)))⟩
          case measure => simp [intOf]; omega
        · have hne : eqL xs ys = false := by simpa [eqL] using hxy
          rw [hne] at ce
          have CE := Lib.hid ce
          have HNE := Lib.hid (eqL_at hx hy hxy)
          clear ce hx hy hrow hrow2 hcell hcell2 hxy htk hne
          go_wp2_with fail
          refine wp_region_plus (by kernel_rfl) (by kernel_rfl) ?_; (repeat (go_big_quiet_step ((go_at_call 46; exact quiet_plus (CE.out _ _))))); refine wpQuiet_nil ?_; intro _ hw'; obtain ⟨⟨osq, dq⟩, hw''⟩ := hw'; subst hw''
          go_wp2_with fail
          go_ret
          exact ⟨by rw [HNE.out]; rfl, by (repeat' (first | (with_reducible exact Below.refl _ _) | (with_reducible assumption) | (with_reducible refine Below.alloc ?_ ?_ _) | (with_reducible refine below_plus ?_ ?_ _ _) | (with_reducible refine Below.drew ?_) | (with_reducible refine Below.setCell ?_ ?_ _) | (with_reducible refine below_adv ?_ ?_ _) | go_size | (simp; done) | (simp; omega)))⟩
      · obtain rfl : k = n := by omega
        have heq : xss = yss := by
          have := htk.out
          rwa [List.take_of_length_le (by rw [HL.out.1]; exact Nat.le_refl _), List.take_of_length_le (by rw [HL.out.2]; exact Nat.le_refl _)] at this
        clear htk
        have HE := Lib.hid (eqL_true heq)
        clear heq
        go_wp2_with fail
        go_ret
        exact ⟨by rw [HE.out]; rfl, hb⟩
  · have hne := eqL_len (xs := xss) (ys := yss) (by omega)
    rw [hne]
    have hnn : ((n : Int) != (n2 : Int)) = true := by simp [bne]; omega
    clear hS hT hne hl1 hl2 hS0 hT0
    go_enter Tryd.func20, Tryd.ntmps20
    go_wp2
    go_ret
    exact ⟨rfl, by (repeat' (first | (with_reducible exact Below.refl _ _) | (with_reducible assumption) | (with_reducible refine Below.alloc ?_ ?_ _) | (with_reducible refine below_plus ?_ ?_ _ _) | (with_reducible refine Below.drew ?_) | (with_reducible refine Below.setCell ?_ ?_ _) | (with_reducible refine below_adv ?_ ?_ _) | go_size | (simp; done) | (simp; omega)))⟩
theorem eqIntSS_t (A : Option Addr) (n c : Nat) (xss : List (List Int)) (A2 : Option Addr) (n2 c2 : Nat) (w : World) (B B2 : Nat) (hS : Sl2 w B ILit A n c xss) (hB : B ≤ w.heap.size) (hT : Sl2 w B2 ILit A2 n2 c2 xss) (hB2 : B2 ≤ w.heap.size) :
    Calls Tryd.prog 20 #[.slice A n c, .slice A2 n2 c2] w fun e w' => e = .returned (.bool true) ∧ Below w.heap.size w w' := by
  have := eqIntSS_c A n c xss A2 n2 c2 xss w B B2 hS hB hT hB2
  rwa [eqL_true rfl] at this

set_option maxHeartbeats 1000000 in
theorem equalLists_c (A : Option Addr) (n c : Nat) (xss : List (List Int)) (A2 : Option Addr) (n2 c2 : Nat) (yss : List (List Int)) (w : World) (B B2 : Nat) (hS : Sl2 w B ILit A n c xss) (hB : B ≤ w.heap.size) (hT : Sl2 w B2 ILit A2 n2 c2 yss) (hB2 : B2 ≤ w.heap.size) :
    Calls Tryd.prog 13 #[.slice A n c, .slice A2 n2 c2] w fun e w' => e = .returned (.bool (eqL xss yss)) ∧ Below w.heap.size w w' := by
  have hl1 := hS.len
  have hl2 := hT.len
  obtain ⟨hc0, hc1⟩ := hS.cap
  have hS0 := hS.more hB
  have hT0 := hT.more hB2
  by_cases hn : n = n2
  · subst hn
    have HL := Lib.hid (And.intro hl1 hl2)
    clear hl1 hl2 hS hT
    go_enter Tryd.func13, Tryd.ntmps13
    go_wp2_with fail
    go_loopw [5] (fun i wr => ∃ k : Nat, k ≤ n ∧ i = .int .i64 k ∧ Hid (xss.take k = yss.take k) ∧ Below w.heap.size w wr) (fun i _ => n - (intOf i).toNat)
    case atStart => exact ⟨0, Nat.zero_le _, rfl, rfl, Below.refl _ _⟩
    case round =>
      obtain ⟨k, hk, rfl, htk, hb⟩ := hrel
      have hzr := hb.size
      by_cases hlt : k < n
      · obtain ⟨b, o, xs, A', n', c', rfl, hbl, hx, hcell, hrow⟩ := (hS0.below hb).at_ hlt
        obtain ⟨b2, o2, ys, A2', n2', c2', rfl, hbl2, hy, hcell2, hrow2⟩ := (hT0.below hb).at_ hlt
        have hcell' : wr.cell? ⟨b, o + k, none⟩ = some (.slice A' n' c') := hcell
        have hcell2' : wr.cell? ⟨b2, o2 + k, none⟩ = some (.slice A2' n2' c2') := hcell2
        have hbw : b < wr.heap.size := by omega
        have hbw2 : b2 < wr.heap.size := by omega
        have hki : (k : Int) < (n : Int) := by omega
        have ce := fun os d => equalInts_c A' n' c' xs A2' n2' c2' ys (plus wr os d) _ _ (hrow.plus hzr os d) (by simp; omega) (hrow2.plus hzr os d) (by simp; omega)
        by_cases hxy : xs = ys
        · rw [eqL_true hxy] at ce
          have CE := Lib.hid ce
          have HTK : Hid (xss.take (k + 1) = yss.take (k + 1)) := by
            show xss.take (k + 1) = yss.take (k + 1)
            rw [take_snoc hx, take_snoc hy, htk.out, hxy]
          clear ce hx hy hrow hrow2 hcell hcell2 hxy htk
          go_wp2_with fail
          refine wp_region_plus (by kernel_rfl) (by kernel_rfl) ?_; (repeat (go_big_quiet_step ((go_at_call 16; exact quiet_plus (CE.out _ _))))); refine wpQuiet_nil ?_; intro _ hw'; obtain ⟨⟨osq, dq⟩, hw''⟩ := hw'; subst hw''
          go_wp2_with fail
          go_roundw
          case rel => exact ⟨k + 1, by omega, by go_num, HTK, by (repeat' (first | (with_reducible exact Below.refl _ _) | (with_reducible assumption) | (with_reducible refine Below.alloc ?_ ?_ _) | (with_reducible refine below_plus ?_ ?_ _ _) | (with_reducible refine Below.drew ?_) | (with_reducible refine Below.setCell ?_ ?_ _) | (with_reducible refine below_adv ?_ ?_ _) | go_size | (simp; done) | (simp; omega)))⟩
          case measure => simp [intOf]; omega
        · have hne : eqL xs ys = false := by simpa [eqL] using hxy
          rw [hne] at ce
          have CE := Lib.hid ce
          have HNE := Lib.hid (eqL_at hx hy hxy)
          clear ce hx hy hrow hrow2 hcell hcell2 hxy htk hne
          go_wp2_with fail
          refine wp_region_plus (by kernel_rfl) (by kernel_rfl) ?_; (repeat (go_big_quiet_step ((go_at_call 16; exact quiet_plus (CE.out _ _))))); refine wpQuiet_nil ?_; intro _ hw'; obtain ⟨⟨osq, dq⟩, hw''⟩ := hw'; subst hw''
          go_wp2_with fail
          go_ret
          exact ⟨by rw [HNE.out]; rfl, by (repeat' (first | (with_reducible exact Below.refl _ _) | (with_reducible assumption) | (with_reducible refine Below.alloc ?_ ?_ _) | (with_reducible refine below_plus ?_ ?_ _ _) | (with_reducible refine Below.drew ?_) | (with_reducible refine Below.setCell ?_ ?_ _) | (with_reducible refine below_adv ?_ ?_ _) | go_size | (simp; done) | (simp; omega)))⟩
      · obtain rfl : k = n := by omega
        have heq : xss = yss := by
          have := htk.out
          rwa [List.take_of_length_le (by rw [HL.out.1]; exact Nat.le_refl _), List.take_of_length_le (by rw [HL.out.2]; exact Nat.le_refl _)] at this
        clear htk
        have HE := Lib.hid (eqL_true heq)
        clear heq
        go_wp2_with fail
        go_ret
        exact ⟨by rw [HE.out]; rfl, hb⟩
  · have hne := eqL_len (xs := xss) (ys := yss) (by omega)
    rw [hne]
    have hnn : ((n : Int) != (n2 : Int)) = true := by simp [bne]; omega
    clear hS hT hne hl1 hl2 hS0 hT0
    go_enter Tryd.func13, Tryd.ntmps13
    go_wp2
    go_ret
    exact ⟨rfl, by (repeat' (first | (with_reducible exact Below.refl _ _) | (with_reducible assumption) | (with_reducible refine Below.alloc ?_ ?_ _) | (with_reducible refine below_plus ?_ ?_ _ _) | (with_reducible refine Below.drew ?_) | (with_reducible refine Below.setCell ?_ ?_ _) | (with_reducible refine below_adv ?_ ?_ _) | go_size | (simp; done) | (simp; omega)))⟩
theorem equalLists_t (A : Option Addr) (n c : Nat) (xss : List (List Int)) (A2 : Option Addr) (n2 c2 : Nat) (w : World) (B B2 : Nat) (hS : Sl2 w B ILit A n c xss) (hB : B ≤ w.heap.size) (hT : Sl2 w B2 ILit A2 n2 c2 xss) (hB2 : B2 ≤ w.heap.size) :
    Calls Tryd.prog 13 #[.slice A n c, .slice A2 n2 c2] w fun e w' => e = .returned (.bool true) ∧ Below w.heap.size w w' := by
  have := equalLists_c A n c xss A2 n2 c2 xss w B B2 hS hB hT hB2
  rwa [eqL_true rfl] at this

/-- What mark lays, row after row. -/
def mkIntSS : Int → List (List Int) → List (List Int)
  | _, [] => []
  | k, xs :: r => mkIntS k xs.length :: mkIntSS (k + xs.length) r
theorem mkIntSS_len (k : Int) (xss : List (List Int)) : (mkIntSS k xss).length = xss.length := by
  induction xss generalizing k with
  | nil => rfl
  | cons x r ih => simp [mkIntSS, ih]
theorem mkIntSS_at (k : Int) {xss : List (List Int)} {j : Nat} {xs : List Int} (h : xss[j]? = some xs) : (mkIntSS k xss)[j]? = some (mkIntS (k + tot (xss.take j)) xs.length) := by
  induction xss generalizing k j with
  | nil => cases h
  | cons x r ih =>
    cases j with
    | zero =>
      simp at h
      subst h
      simp [mkIntSS, tot]
    | succ j =>
      simp only [List.getElem?_cons_succ] at h
      simp only [mkIntSS, List.getElem?_cons_succ, ih _ h, List.take_succ_cons, tot]
      congr 2
      omega
theorem mkIntSS_step (k : Int) {xss : List (List Int)} {j : Nat} {xs : List Int} (h : xss[j]? = some xs) :
    ((mkIntSS k xss).take j ++ xss.drop j).set j (mkIntS (k + tot (xss.take j)) xs.length) = (mkIntSS k xss).take (j + 1) ++ xss.drop (j + 1) := by
  have hj := (List.getElem?_eq_some_iff.1 h).1
  have hl : ((mkIntSS k xss).take j).length = j := by rw [List.length_take, mkIntSS_len]; omega
  rw [take_snoc (mkIntSS_at k h), List.drop_eq_getElem_cons hj, List.set_append_right _ _ (by omega), hl, Nat.sub_self, List.set_cons_zero, List.append_assoc, List.singleton_append]
theorem mkIntSS_row {k : Int} {xss : List (List Int)} {j : Nat} {xs : List Int} (h : xss[j]? = some xs) : ((mkIntSS k xss).take j ++ xss.drop j)[j]? = some xs := by
  have hj := (List.getElem?_eq_some_iff.1 h).1
  have hl : ((mkIntSS k xss).take j).length = j := by rw [List.length_take, mkIntSS_len]; omega
  rw [List.getElem?_append_right (by omega), hl, Nat.sub_self, List.getElem?_drop]; simpa using h
def MarkedIntSS (w : World) (lo hi : Nat) (A : Option Addr) (n c : Nat) (k : Int) (xss : List (List Int)) (e : Ending) (w' : World) : Prop :=
  e = .returned (.int .i64 (k + tot xss)) ∧ Ow2 w' lo hi 28 3 ILit A n c (mkIntSS k xss) ∧ Below lo w w' ∧ w'.heap.size = w.heap.size ∧ ∀ b, hi ≤ b → b < w.heap.size → w'.heap[b]? = w.heap[b]?
/-- The world of a round. -/
def RndIntSS (w : World) (lo hi : Nat) (A : Option Addr) (n c : Nat) (vs : List Value) (yss : List (List Int)) (wr : World) : Prop :=
  Ow wr lo 28 id A n c vs ∧ Rws wr lo hi 3 ILit vs yss ∧ Below lo w wr ∧ wr.heap.size = w.heap.size ∧ ∀ b, hi ≤ b → b < w.heap.size → wr.heap[b]? = w.heap[b]?

set_option maxHeartbeats 1000000 in
theorem markIntSS_f (A : Option Addr) (n c : Nat) (xss : List (List Int)) (k0 : Int) (w : World) (lo hi : Nat) (hO : Ow2 w lo hi 28 3 ILit A n c xss) (hlo : lo ≤ w.heap.size) (hhi : hi ≤ w.heap.size) (hk0 : 0 ≤ k0) (hk1 : k0 ≤ 1073741824) (hn : n ≤ 1048576) (ht : tot xss ≤ 1048576) :
    Calls Tryd.prog 23 #[.slice A n c, .int .i64 k0] w (MarkedIntSS w lo hi A n c k0 xss) := by
  obtain ⟨hc0, hc1⟩ := hO.cap
  have HL := Lib.hid hO.len
  have HT := Lib.hid ht
  obtain ⟨vs, hV, hR, hA⟩ := hO
  have HVL := Lib.hid hV.len
  have HA := Lib.hid hA
  have hne : ¬ (3 : Nat) = 28 := by decide
  have HNE := Lib.hid hne
  clear ht hA hne
  go_enter Tryd.func23, Tryd.ntmps23
  go_wp2_with fail
  go_loopw [1, 5] (fun kk i wr => ∃ (j : Nat) (k' : Int), j ≤ n ∧ i = .int .i64 j ∧ kk = .int .i64 k' ∧ 0 ≤ k' ∧ k' ≤ 2147483648 ∧ Hid (k' = k0 + tot (xss.take j)) ∧ RndIntSS w lo hi A n c vs ((mkIntSS k0 xss).take j ++ xss.drop j) wr) (fun _ i _ => n - (intOf i).toNat)
  case atStart => exact ⟨0, k0, Nat.zero_le _, rfl, rfl, hk0, by omega, Lib.hid (by simp [tot]), hV, by simpa using hR, Below.refl _ _, rfl, fun _ _ _ => rfl⟩
  case round =>
    clear hV hR
    obtain ⟨j, k', hj, rfl, rfl, hk0', hk1', hk, hr1, hr2, hr3, hr4, hr5⟩ := hrel
    by_cases hlt : j < n
    · obtain ⟨v, hv⟩ : ∃ v, vs[j]? = some v := ⟨_, List.getElem?_eq_getElem (by rw [HVL.out]; exact hlt)⟩
      obtain ⟨xs, hx⟩ : ∃ xs, xss[j]? = some xs := ⟨_, List.getElem?_eq_getElem (by rw [HL.out]; exact hlt)⟩
      obtain ⟨xs', A', n', c', hx', rfl, hO', hbl⟩ := hr2.at_ hv
      have hxx : xs' = xs := by
        rw [mkIntSS_row hx] at hx'
        injection hx' with hx'
        exact hx'.symm
      subst hxx
      obtain ⟨g, cs, rfl, hg1, hg2, hg3⟩ := hr1.2.2.2 (by omega)
      have hgl := lt_of_heap hg2
      have hcell : wr.cell? ⟨g, j, none⟩ = some (.slice A' n' c') := by rw [cell_of_row wr g j cs _ _ hg2]; exact hg3 j _ hv
      have hn' : n' ≤ 1048576 := by rw [← hO'.len]; exact Nat.le_trans (tot_at hx) HT.out
      have hst := mkIntSS_step k0 hx
      rw [← hk.out, hO'.len] at hst
      have hk2 : Hid (k' + n' = k0 + tot (xss.take (j + 1))) := Lib.hid (by rw [tot_snoc hx, hk.out, hO'.len]; omega)
      have hkb : k' + n' ≤ 2147483648 := by
        have h1 := tot_take_le xss (j + 1)
        have h2 := HT.out
        have h3 := hk2.out
        omega
      have HV := Lib.hid hv
      have HS := Lib.hid hst
      have HB := Lib.hid hbl
      have HG := Lib.hid hg2
      clear hg2 hg3 hv hx hx' hst hbl hk
      go_wp2_with fail
      refine (markIntS_c A' n' c' xs' k' wr lo hO' (by omega) (by omega) (by omega)).mono ?_
      rintro e w1 ⟨rfl, h1, h2, h3⟩
      have hsame : ∀ b, b < wr.heap.size → (Value.slice A' n' c').ownBlock ≠ some b → w1.heap[b]? = wr.heap[b]? := fun b hb hne => by
        refine h2.block b hb ?_
        by_cases h0 : n' = 0
        · rw [if_pos h0]; simp
        · rw [if_neg h0]
          cases A' with
          | none => simp
          | some a => simpa [Value.ownBlock] using fun e => hne (by simp [Value.ownBlock, e])
      have hR2 := hr2.set HV.out h1 hsame (fun b hb1 hb2 => by omega)
      rw [HS.out] at hR2
      have hgs : w1.heap[g]? = wr.heap[g]? := h2.block g hgl (by
        by_cases h0 : n' = 0
        · rw [if_pos h0]; simp
        · rw [if_neg h0]
          obtain ⟨g', cs', rfl, -, hh', -⟩ := hO'.2.2.2 (by omega)
          simp only [Option.map_some, ne_eq, Option.some.injEq]
          intro e
          subst e
          rw [HG.out] at hh'
          injection hh' with hh'
          injection hh' with _ hh'
          exact HNE.out hh'.symm)
      have hO2 : Ow w1 lo 28 id (some ⟨g, 0, none⟩) n c vs := hr1.keep fun b hb hb2 hA => by
        injection hA with hA
        injection hA with hA
        subst hA
        exact hgs
      have hout : ∀ b, b < wr.heap.size → (b < lo ∨ hi ≤ b) → w1.heap[b]? = wr.heap[b]? := fun b hb hor => hsame b hb fun e => by
        have := HB.out b e
        omega
      have hnew : RndIntSS w lo hi (some ⟨g, 0, none⟩) n c vs ((mkIntSS k0 xss).take (j + 1) ++ xss.drop (j + 1)) w1 :=
        ⟨hO2, hR2, hr3.trans ⟨h2.os, h2.tape, h2.output, by omega, fun b hb => hout b (by omega) (.inl hb)⟩, by omega, fun b hb1 hb2 => (hout b (by omega) (.inr hb1)).trans (hr5 b hb1 hb2)⟩
      have HN := Lib.hid hnew
      clear hR2 hsame hgs hO2 hout hnew h1 h2 hr1 hr2 hr3 hr5 hO'
      go_wp2_with fail
      go_roundw
      case rel => exact ⟨j + 1, _, by omega, by go_num, rfl, by omega, hkb, hk2, HN.out⟩
      case measure => simp [intOf]; omega
    · obtain rfl : j = n := by omega
      rw [List.take_of_length_le (by rw [mkIntSS_len, HL.out]; exact Nat.le_refl _), List.drop_of_length_le (by rw [HL.out]; exact Nat.le_refl _), List.append_nil] at hr2
      have hk2 : Hid (k' = k0 + tot xss) := Lib.hid (by
        have := hk.out
        rwa [List.take_of_length_le (by rw [HL.out]; exact Nat.le_refl _)] at this)
      have HN : Hid (Ow2 wr lo hi 28 3 ILit A j c (mkIntSS k0 xss) ∧ Below lo w wr ∧ wr.heap.size = w.heap.size ∧ ∀ b, hi ≤ b → b < w.heap.size → wr.heap[b]? = w.heap[b]?) := Lib.hid ⟨⟨vs, hr1, hr2, HA.out⟩, hr3, hr4, hr5⟩
      clear hr1 hr2 hr3 hr4 hr5 hk
      go_wp2_with fail
      go_ret
      exact ⟨by rw [← hk2.out]; rfl, HN.out⟩


/-- Held: row after row as mark laid it. -/
theorem heldIntSS_c (A : Option Addr) (n c : Nat) (k0 : Int) (xss : List (List Int)) (w : World) (B : Nat) (hS : Sl2 w B ILit A n c (mkIntSS k0 xss)) (hB : B ≤ w.heap.size) (hk0 : 0 ≤ k0) (hk1 : k0 ≤ 1073741824) (ht : tot xss ≤ 1048576) :
    Calls Tryd.prog 24 #[.slice A n c, .int .i64 k0] w fun e w' => e = .returned (.int .i64 (k0 + tot xss)) ∧ Below w.heap.size w w' := by
  obtain ⟨hc0, hc1⟩ := hS.cap
  have hl : xss.length = n := by rw [← hS.len, mkIntSS_len]
  have HL := Lib.hid hl
  have HT := Lib.hid ht
  have hS0 := hS.more hB
  clear hS hl ht
  go_enter Tryd.func24, Tryd.ntmps24
  go_wp2_with fail
  go_loopw [1, 5] (fun kk i wr => ∃ (j : Nat) (k' : Int), j ≤ n ∧ i = .int .i64 j ∧ kk = .int .i64 k' ∧ 0 ≤ k' ∧ k' ≤ 2147483648 ∧ Hid (k' = k0 + tot (xss.take j)) ∧ Below w.heap.size w wr) (fun _ i _ => n - (intOf i).toNat)
  case atStart => exact ⟨0, k0, Nat.zero_le _, rfl, rfl, hk0, by omega, Lib.hid (by simp [tot]), Below.refl _ _⟩
  case round =>
    obtain ⟨j, k', hj, rfl, rfl, hk0', hk1', hk, hb⟩ := hrel
    have hzr := hb.size
    by_cases hlt : j < n
    · obtain ⟨xs, hx⟩ : ∃ xs, xss[j]? = some xs := ⟨_, List.getElem?_eq_getElem (by rw [HL.out]; exact hlt)⟩
      obtain ⟨b, o, ys, A', n', c', rfl, hbl, hy, hcell, hrow⟩ := (hS0.below hb).at_ hlt
      rw [mkIntSS_at k0 hx] at hy
      injection hy with hy
      subst hy
      have hn' : xs.length = n' := by rw [← hrow.len, mkIntS_len]
      rw [hn', ← hk.out] at hrow
      have hcell' : wr.cell? ⟨b, o + j, none⟩ = some (.slice A' n' c') := hcell
      have hn2 : n' ≤ 1048576 := by rw [← hn']; exact Nat.le_trans (tot_at hx) HT.out
      have hk2 : Hid (k' + n' = k0 + tot (xss.take (j + 1))) := Lib.hid (by rw [tot_snoc hx, hk.out, hn']; omega)
      have hkb : k' + n' ≤ 2147483648 := by
        have h1 := tot_take_le xss (j + 1)
        have h2 := HT.out
        have h3 := hk2.out
        omega
      have CH := Lib.hid (heldIntS_c A' n' c' k' wr _ hrow hzr (by omega) (by omega) (by omega))
      clear hcell hrow hx hk hn'
      go_wp2_with fail
      refine CH.out.mono ?_
      rintro e w1 ⟨rfl, hb1⟩
      have hbb := hb.trans (hb1.mono hzr)
      clear hb1 hb CH
      go_wp2_with fail
      go_roundw
      case rel => exact ⟨j + 1, _, by omega, by go_num, rfl, by omega, hkb, hk2, hbb⟩
      case measure => simp [intOf]; omega
    · obtain rfl : j = n := by omega
      have hk2 : Hid (k' = k0 + tot xss) := Lib.hid (by
        have := hk.out
        rwa [List.take_of_length_le (by rw [HL.out]; exact Nat.le_refl _)] at this)
      clear hk
      go_wp2_with fail
      go_ret
      exact ⟨by rw [← hk2.out]; rfl, hb⟩
end Go.Proofs.YtfdlcphiidfkcaaDoor
